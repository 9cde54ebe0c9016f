/- The argument of the law VersPlays, opened: a slice of calls. No condition. -/
import Derived.Test.YtobndboogafjpaaVersPlays
import Derived.Test.YtobndboogafjpaaOpenS
namespace Go.Cat
open Go.ChangeShapes Go.WideShapes Go.ChangeAt Go.RowKit Go.Joins Go.Deep Go.Cat.Vers
section
variable {H : Type} {enc : TypeId × Value → H} {P : Program} {W : World} {base : Nat} {spare : Nat → Bool} {held : Bool} {r : Reach} {b0 : Nat}

theorem list6 {α : Type} {cs : List α} (h : cs.length = 6) : ∃ c0 c1 c2 c3 c4 c5, cs = [c0, c1, c2, c3, c4, c5] := by
  match cs, h with
  | [c0, c1, c2, c3, c4, c5], _ => exact ⟨c0, c1, c2, c3, c4, c5, rfl⟩

theorem open_ops {s t : TypeId} {g0 g1 g2 g3 f0 f1 f2 : Field} {v : Value} {d : DataW H} {p : List MemPlace} {tb : TypeId} (hs : P.underlying s = some (.slice t)) (hT : P.underlying t = some (.struct #[g0, g1, g2, g3])) (i0 : P.underlying g0.type = some (.int .i64)) (i2 : P.underlying g2.type = some (.int .u64)) (i3 : P.underlying g3.type = some (.int .u64))
    (k0 : (g0.offset, P.cellsOf g0.type) = (0, 1)) (k1 : (g1.offset, P.cellsOf g1.type) = (1, 3)) (k2 : (g2.offset, P.cellsOf g2.type) = (4, 1)) (k3 : (g3.offset, P.cellsOf g3.type) = (5, 1)) (hC : P.cellsOf t = 6)
    (ht : P.underlying g1.type = some (.struct #[f0, f1, f2])) (h0 : P.underlying f0.type = some (.int .u64)) (h1 : P.underlying f1.type = some (.int .u64))
    (h2 : P.underlying f2.type = some (.slice tb)) (hb : P.underlying tb = some (.int .u8)) (hcb : P.cellsOf tb = 1) (hone : oneCellFields P #[f0, f1, f2] = true)
    (hv : Value.okWide P W r b0 s v) (h : DataW.Trod enc P W base spare held s v d p) :
    ∃ (A : Option Addr) (c : Nat) (ops : List OpV), v = .slice A ops.length c ∧ ops.length ≤ c ∧ c ≤ maxLen ∧ Sees W A (ops.flatMap opCells) ∧ ∀ o ∈ ops, OpIn W o := by
  refine open_slice_of opCells (OpIn W) hs (k := 6) (fun _ => rfl) (by omega) hC (fun n cs y hl hf => ?_) hv h
  obtain ⟨c0, c1, c2, c3, c4, c5, rfl⟩ := list6 hl
  obtain ⟨y0, y1, y2, y3, n, _, _, a0, a1, a2, a3⟩ := trod_struct4 hT hf
  simp only [Prod.mk.injEq] at k0 k1 k2 k3
  rw [k0.1, k0.2] at a0
  rw [k1.1, k1.2] at a1
  rw [k2.1, k2.2] at a2
  rw [k3.1, k3.2] at a3
  obtain ⟨kind, hk, _, _⟩ := DataW.trod_int i0 a0
  obtain ⟨ver, hver, _, wver⟩ := DataW.trod_int i2 a2
  obtain ⟨done, hdone, _, wdone⟩ := DataW.trod_int i3 a3
  obtain ⟨x, A, c, rfl, rfl, rfl, h5, h6⟩ := open_cells ht h0 h1 h2 hb hcb hone (show DataW.trod enc P W base spare held n g1.type [c1, c2, c3] = some y1 from a1)
  simp at hk hver hdone
  subst hk hver hdone
  exact ⟨⟨kind, x, A, c, ver, done⟩, rfl, ⟨h5, h6, wf_u64 wver, wf_u64 wdone⟩⟩
end
end Go.Cat
