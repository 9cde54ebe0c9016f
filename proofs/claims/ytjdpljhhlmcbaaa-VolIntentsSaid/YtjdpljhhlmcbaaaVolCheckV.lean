/- Which patches may be: plain. No condition. -/
import Derived.Test.YtjdpljhhlmcbaaaVolParse
import Derived.Test.YtjdpljhhlmcbaaaVolWhat
namespace Go.Cat.Vol
open Go.RowKit Go.Cat
open Classical in
/-- What is wrong with the patch at a place; 0: nothing. -/
noncomputable def badAt (I B : Int) (l : List Pv) (i : Nat) : Int :=
  match l[i]? with
  | none => 0
  | some p => if kind I B p.key < 2 then 20 else if 0 < i ∧ p.key ≤ ((l[i - 1]?).map Pv.key).getD 0 then 4 else if 64 < p.b.length then 6 else 0
open Classical in
noncomputable def checkV (I B : Int) (l : List Pv) : Int :=
  if ¬ rightP I B then 1 else if 20 < l.length then 9 else (((List.range l.length).map (badAt I B l)).find? fun e => decide (e ≠ 0)).getD 0
theorem find_at {f : Nat → Int} {n k : Nat} (hk : k < n) (h0 : ∀ j, j < k → f j = 0) (h1 : f k ≠ 0) : (((List.range n).map f).find? fun e => decide (e ≠ 0)) = some (f k) := by
  rw [List.find?_eq_some_iff_getElem]
  refine ⟨by simpa using h1, k, by simpa using hk, by simp, fun j hj => ?_⟩
  simp [h0 j hj]
theorem find_none {f : Nat → Int} {n : Nat} (h0 : ∀ j, j < n → f j = 0) : (((List.range n).map f).find? fun e => decide (e ≠ 0)) = none := by
  rw [List.find?_eq_none]
  intro x hx
  obtain ⟨j, hj, rfl⟩ := List.mem_map.1 hx
  simp [h0 j (List.mem_range.1 hj)]
end Go.Cat.Vol
