/- Entries that came in, opened; one entry. No condition. -/
import Derived.Test.YtjilejmchaejiaaDoorOpenS
import Derived.Test.YtjilejmchaejiaaDoorEntPure
import Derived.Test.YtjilejmchaejiaaDoorDirWrap
namespace Go.Cat
open Go.ChangeShapes Go.WideShapes Go.ChangeAt Go.RowKit Go.Joins Go.Deep Go.Cat.Dir
section
variable {H : Type} {enc : TypeId × Value → H} {P : Program} {W : World} {base : Nat} {spare : Nat → Bool} {held : Bool} {r : Reach} {b0 : Nat}

theorem open_ents {s t : TypeId} {g0 g1 : Field} {v : Value} {d : DataW H} {p : List MemPlace} (hs : P.underlying s = some (.slice t)) (hT : P.underlying t = some (.struct #[g0, g1])) (i0 : P.underlying g0.type = some .string) (i1 : P.underlying g1.type = some (.int .i64))
    (k0 : (g0.offset, P.cellsOf g0.type) = (0, 1)) (k1 : (g1.offset, P.cellsOf g1.type) = (1, 1)) (hC : P.cellsOf t = 2)
    (hv : Value.okWide P W r b0 s v) (h : DataW.Trod enc P W base spare held s v d p) :
    ∃ (A : Option Addr) (c : Nat) (xs : List Ent), v = .slice A xs.length c ∧ xs.length ≤ c ∧ c ≤ maxLen ∧ Sees W A (erows xs) := by
  obtain ⟨A, c, xs, h1, h2, h3, h4, _⟩ := open_slice_of entC (fun _ => True) hs (k := 2) (fun _ => rfl) (by omega) hC (fun n cs y hl hf => by
    match cs, hl with
    | [c0, c1], _ =>
      obtain ⟨y0, y1, n, _, _, a0, a1⟩ := trod_struct2 hT hf
      simp only [Prod.mk.injEq] at k0 k1
      rw [k0.1, k0.2] at a0
      rw [k1.1, k1.2] at a1
      obtain ⟨x0, h0, _⟩ := DataW.trod_string i0 a0
      obtain ⟨x1, h1, _, _⟩ := DataW.trod_int i1 a1
      simp at h0 h1
      subst h0 h1
      exact ⟨(x0.data.toList, x1), rfl, trivial⟩) hv h
  exact ⟨A, c, xs, h1, h2, h3, h4⟩

theorem open_ent {t : TypeId} {g0 g1 : Field} {v : Value} {d : DataW H} {p : List MemPlace} (ht : P.underlying t = some (.struct #[g0, g1])) (i0 : P.underlying g0.type = some .string) (i1 : P.underlying g1.type = some (.int .i64))
    (k0 : (g0.offset, P.cellsOf g0.type) = (0, 1)) (k1 : (g1.offset, P.cellsOf g1.type) = (1, 1)) (hC : P.cellsOf t = 2)
    (hv : Value.okWide P W r b0 t v) (h : DataW.Trod enc P W base spare held t v d p) :
    ∃ (x : Txt) (z : Int), v = .agg #[.string (bs x), .int .i64 z] := by
  obtain ⟨cs, rfl, hsz⟩ := okWide_struct ht hv
  obtain ⟨fuel, hf⟩ := h
  match cs, hsz.trans hC with
  | ⟨[c0, c1]⟩, _ =>
    obtain ⟨y0, y1, n, _, _, a0, a1⟩ := trod_struct2 ht hf
    simp only [Prod.mk.injEq] at k0 k1
    rw [k0.1, k0.2] at a0
    rw [k1.1, k1.2] at a1
    obtain ⟨x0, h0, _⟩ := DataW.trod_string i0 (show DataW.trod enc P W base spare held n g0.type [c0] = some y0 from a0)
    obtain ⟨x1, h1, _, _⟩ := DataW.trod_int i1 (show DataW.trod enc P W base spare held n g1.type [c1] = some y1 from a1)
    simp at h0 h1
    subst h0 h1
    exact ⟨x0.data.toList, x1, rfl⟩
end
end Go.Cat
