/- An inode that came in by value, opened. No condition. -/
import Derived.Test.YtkeebkackbkfhaaOpenS
import Derived.Test.YtkeebkackbkfhaaInoFineW
namespace Go.Cat
open Go.ChangeShapes Go.WideShapes Go.ChangeAt Go.RowKit Go.Joins Go.Deep Go.Cat.Ino
section
variable {H : Type} {enc : TypeId × Value → H} {P : Program} {W : World} {base : Nat} {spare : Nat → Bool} {held : Bool} {r : Reach} {b0 : Nat}

theorem open_exts1 {s t : TypeId} {g0 g1 : Field} {v : Value} {fuel : Nat} {y : DataW H × List MemPlace} (hs : P.underlying s = some (.slice t)) (hT : P.underlying t = some (.struct #[g0, g1])) (i0 : P.underlying g0.type = some (.int .i64)) (i1 : P.underlying g1.type = some (.int .i64))
    (k0 : (g0.offset, P.cellsOf g0.type) = (0, 1)) (k1 : (g1.offset, P.cellsOf g1.type) = (1, 1)) (hC : P.cellsOf t = 2)
    (hf : DataW.trod enc P W base spare held fuel s [v] = some y) :
    ∃ (A : Option Addr) (c : Nat) (xs : List Ext), v = .slice A xs.length c ∧ xs.length ≤ c ∧ c ≤ maxLen ∧ Sees W A (erows xs) ∧ ∀ e ∈ xs, ExK e := by
  refine open_slice_cells ecells ExK hs (k := 2) (fun _ => rfl) (by omega) hC (fun n cs y hl hf => ?_) hf
  match cs, hl with
  | [c0, c1], _ =>
    obtain ⟨y0, y1, n, _, _, a0, a1⟩ := trod_struct2 hT hf
    simp only [Prod.mk.injEq] at k0 k1
    rw [k0.1, k0.2] at a0
    rw [k1.1, k1.2] at a1
    obtain ⟨x0, h0, _, w0⟩ := DataW.trod_int i0 a0
    obtain ⟨x1, h1, _, w1⟩ := DataW.trod_int i1 a1
    simp at h0 h1
    subst h0 h1
    exact ⟨(x0, x1), rfl, ⟨(wf_i64 w0).1, (wf_i64 w0).2, (wf_i64 w1).1, (wf_i64 w1).2⟩⟩

theorem open_rino {t u : TypeId} {f0 f1 f2 g0 g1 : Field} {v : Value} {d : DataW H} {p : List MemPlace} (ht : P.underlying t = some (.struct #[f0, f1, f2])) (h0 : P.underlying f0.type = some (.int .i64)) (h1 : P.underlying f1.type = some (.int .i64)) (h2 : P.underlying f2.type = some (.slice u))
    (hone : oneCellFields P #[f0, f1, f2] = true) (hC : P.cellsOf t = 3)
    (hT : P.underlying u = some (.struct #[g0, g1])) (i0 : P.underlying g0.type = some (.int .i64)) (i1 : P.underlying g1.type = some (.int .i64))
    (k0 : (g0.offset, P.cellsOf g0.type) = (0, 1)) (k1 : (g1.offset, P.cellsOf g1.type) = (1, 1)) (hC2 : P.cellsOf u = 2)
    (hv : Value.okWide P W r b0 t v) (h : DataW.Trod enc P W base spare held t v d p) :
    ∃ (m z : Int) (A : Option Addr) (c : Nat) (xs : List Ext), v = .agg #[.int .i64 m, .int .i64 z, .slice A xs.length c] ∧ Sees W A (erows xs) ∧ (∀ e ∈ xs, ExK e) ∧ (Lit.int .i64 m).wf = true ∧ (Lit.int .i64 z).wf = true ∧ xs.length ≤ c ∧ c ≤ maxLen := by
  obtain ⟨cs, rfl, hsz⟩ := okWide_struct ht hv
  obtain ⟨c0, c1, c2, rfl⟩ := array3 (hsz.trans hC)
  obtain ⟨fuel, hf⟩ := h
  obtain ⟨y0, y1, y2, n, _, _, a0, a1, a2⟩ := trod_struct3 ht hf
  obtain ⟨o0, q0⟩ := hone_of hone 0 f0 rfl
  obtain ⟨o1, q1⟩ := hone_of hone 1 f1 rfl
  obtain ⟨o2, q2⟩ := hone_of hone 2 f2 rfl
  rw [o0, q0] at a0
  rw [o1, q1] at a1
  rw [o2, q2] at a2
  obtain ⟨a, ha, _, wa⟩ := DataW.trod_int h0 (show DataW.trod enc P W base spare held n f0.type [c0] = some y0 from a0)
  obtain ⟨b, hb, _, wb⟩ := DataW.trod_int h1 (show DataW.trod enc P W base spare held n f1.type [c1] = some y1 from a1)
  obtain ⟨A, c, xs, hx, hc1, hc2, hs, hin⟩ := open_exts1 h2 hT i0 i1 k0 k1 hC2 (show DataW.trod enc P W base spare held n f2.type [c2] = some y2 from a2)
  simp at ha hb
  exact ⟨a, b, A, c, xs, by rw [ha, hb, hx], hs, hin, wa, wb, hc1, hc2⟩
end
end Go.Cat
