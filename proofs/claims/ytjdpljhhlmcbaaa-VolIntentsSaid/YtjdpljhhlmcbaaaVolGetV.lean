/- What vol.Get tells of bytes: plain. No condition. -/
import Derived.Test.YtjdpljhhlmcbaaaVolMem
namespace Go.Cat.Vol
open Go.RowKit Go.Cat
/-- The first number: how many patches. -/
def count (b : List UInt8) : IS × Int := (⟨b, 0⟩ : IS).upto 1 20
def readP (b : List UInt8) : IS × List Pv := parse (count b).1 (count b).2.toNat
open Classical in
/-- The patches, and the error. -/
noncomputable def getV (I B : Int) (b : List UInt8) : List Pv × Int :=
  if b = [] then ([], 0) else if ¬ rightP I B then ([], 1) else if (readP b).1.done ≠ 0 then ([], (readP b).1.done)
  else if (readP b).2 = [] ∨ checkV I B (readP b).2 ≠ 0 then ([], 4) else ((readP b).2, 0)
theorem getV_nil (I B : Int) : getV I B [] = ([], 0) := by unfold getV; rw [if_pos rfl]
theorem getV_arg {I B : Int} {b : List UInt8} (h : b ≠ []) (h2 : ¬ rightP I B) : getV I B b = ([], 1) := by unfold getV; rw [if_neg h, if_pos h2]
theorem getV_done {I B : Int} {b : List UInt8} (h : b ≠ []) (h2 : rightP I B) (h3 : (readP b).1.done ≠ 0) : getV I B b = ([], (readP b).1.done) := by unfold getV; rw [if_neg h, if_neg (fun e => e h2), if_pos h3]
theorem getV_form {I B : Int} {b : List UInt8} (h : b ≠ []) (h2 : rightP I B) (h3 : (readP b).1.done = 0) (h4 : (readP b).2 = [] ∨ checkV I B (readP b).2 ≠ 0) : getV I B b = ([], 4) := by
  unfold getV; rw [if_neg h, if_neg (fun e => e h2), if_neg (fun e => e h3), if_pos h4]
theorem getV_ok {I B : Int} {b : List UInt8} (h : b ≠ []) (h2 : rightP I B) (h3 : (readP b).1.done = 0) (h4 : (readP b).2 ≠ []) (h5 : checkV I B (readP b).2 = 0) : getV I B b = ((readP b).2, 0) := by
  unfold getV; rw [if_neg h, if_neg (fun e => e h2), if_neg (fun e => e h3), if_neg]
  rintro (e | e)
  · exact h4 e
  · exact e h5
theorem count_bounds (b : List UInt8) : 0 ≤ (count b).2 ∧ (count b).2 ≤ 20 := by
  unfold count IS.upto
  split
  · exact ⟨Int.le_refl _, by show (0 : Int) ≤ 20; omega⟩
  · split
    · exact ⟨Int.le_refl _, by show (0 : Int) ≤ 20; omega⟩
    · exact ⟨by show (0 : Int) ≤ (num _ : Int); omega, by show (num _ : Int) ≤ 20; omega⟩
end Go.Cat.Vol
