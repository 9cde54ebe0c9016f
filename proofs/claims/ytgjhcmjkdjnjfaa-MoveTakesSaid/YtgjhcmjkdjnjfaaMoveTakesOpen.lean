/- The argument of the law MoveTakes, opened: a slice of parts. No condition. -/
import Derived.Test.YtgjhcmjkdjnjfaaMoveTakes
import Derived.Test.YtgjhcmjkdjnjfaaOpenS
namespace Go.Cat
open Go.ChangeShapes Go.WideShapes Go.ChangeAt Go.RowKit Go.Joins Go.Deep Go.Cat.Move
section
variable {H : Type} {enc : TypeId × Value → H} {P : Program} {W : World} {base : Nat} {spare : Nat → Bool} {held : Bool} {r : Reach} {b0 : Nat}

theorem list4 {α : Type} {cs : List α} (h : cs.length = 4) : ∃ c0 c1 c2 c3, cs = [c0, c1, c2, c3] := by
  match cs, h with
  | [c0, c1, c2, c3], _ => exact ⟨c0, c1, c2, c3, rfl⟩

theorem flat_one {α β : Type} (f : α → β) : ∀ l : List α, l.flatMap (fun b => [f b]) = l.map f
  | [] => rfl
  | x :: xs => by rw [List.flatMap_cons, List.map_cons, flat_one f xs]; rfl

theorem open_bytes1 {t e : TypeId} {v : Value} {fuel : Nat} {y : DataW H × List MemPlace} (ht : P.underlying t = some (.slice e)) (he : P.underlying e = some (.int .u8)) (hc : P.cellsOf e = 1)
    (hf : DataW.trod enc P W base spare held fuel t [v] = some y) :
    ∃ (A : Option Addr) (c : Nat) (bs : List UInt8), v = .slice A bs.length c ∧ bs.length ≤ c ∧ c ≤ maxLen ∧ Bytes W A bs := by
  obtain ⟨A, c, bs, rfl, h1, h2, hs, _⟩ := open_slice_cells (fun b : UInt8 => [by8 b]) (fun _ => True) ht (k := 1) (fun _ => rfl) (by omega) hc (fun n cs y hl hf => by
    match cs, hl with
    | [c0], _ =>
      obtain ⟨a, ha, _, wa⟩ := DataW.trod_int he hf
      simp at ha
      subst ha
      refine ⟨UInt8.ofNat a.toNat, ?_, trivial⟩
      simp [Lit.wf, IntKind.min, IntKind.max, IntKind.signed, IntKind.bits] at wa
      simp [by8]
      omega) hf
  refine ⟨A, c, bs, rfl, h1, h2, ?_⟩
  rw [flat_one] at hs
  exact hs

theorem open_pts {s t : TypeId} {g0 g1 g2 g3 : Field} {v : Value} {d : DataW H} {p : List MemPlace} {tb : TypeId} (hs : P.underlying s = some (.slice t)) (hT : P.underlying t = some (.struct #[g0, g1, g2, g3])) (i0 : P.underlying g0.type = some (.int .u64)) (i1 : P.underlying g1.type = some (.int .i64)) (i2 : P.underlying g2.type = some (.int .i64))
    (k0 : (g0.offset, P.cellsOf g0.type) = (0, 1)) (k1 : (g1.offset, P.cellsOf g1.type) = (1, 1)) (k2 : (g2.offset, P.cellsOf g2.type) = (2, 1)) (k3 : (g3.offset, P.cellsOf g3.type) = (3, 1)) (hC : P.cellsOf t = 4)
    (h3 : P.underlying g3.type = some (.slice tb)) (hb : P.underlying tb = some (.int .u8)) (hcb : P.cellsOf tb = 1)
    (hv : Value.okWide P W r b0 s v) (h : DataW.Trod enc P W base spare held s v d p) :
    ∃ (A : Option Addr) (c : Nat) (ps : List PtV), v = .slice A ps.length c ∧ ps.length ≤ c ∧ c ≤ maxLen ∧ Sees W A (ps.flatMap ptCells) ∧ ∀ o ∈ ps, PtIn W o := by
  refine open_slice_of ptCells (PtIn W) hs (k := 4) (fun _ => rfl) (by omega) hC (fun n cs y hl hf => ?_) hv h
  obtain ⟨c0, c1, c2, c3, rfl⟩ := list4 hl
  obtain ⟨y0, y1, y2, y3, n, _, _, a0, a1, a2, a3⟩ := trod_struct4 hT hf
  simp only [Prod.mk.injEq] at k0 k1 k2 k3
  rw [k0.1, k0.2] at a0
  rw [k1.1, k1.2] at a1
  rw [k2.1, k2.2] at a2
  rw [k3.1, k3.2] at a3
  obtain ⟨x0, h0, _, _⟩ := DataW.trod_int i0 a0
  obtain ⟨x1, h1, _, _⟩ := DataW.trod_int i1 a1
  obtain ⟨x2, h2, _, _⟩ := DataW.trod_int i2 a2
  obtain ⟨A, c, bs, rfl, q1, q2, q3⟩ := open_bytes1 h3 hb hcb (show DataW.trod enc P W base spare held n g3.type [c3] = some y3 from a3)
  simp at h0 h1 h2
  subst h0 h1 h2
  exact ⟨⟨x0, x1, x2, A, c, bs⟩, rfl, ⟨q3, Nat.le_trans q1 q2⟩⟩
end
end Go.Cat
