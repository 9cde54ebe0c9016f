/- Bytes that were put are read back, and what was read has these bytes: plain. No condition. -/
import Derived.Test.YtjdpljhhlmcbaaaFixGet
import Derived.Test.YtjdpljhhlmcbaaaBe
namespace Go.Cat
open Go.RowKit
theorem IS.next_split {s : IS} {n : Nat} (h : (s.next n).1.e = 0) : s.e = 0 ∧ (s.next n).2.2 = true ∧ s.b = (s.next n).2.1 ++ (s.next n).1.b ∧ (s.next n).2.1.length = n := by
  unfold IS.next at h ⊢
  by_cases h1 : s.e ≠ 0
  · rw [if_pos h1] at h; exact absurd h h1
  · rw [if_neg h1] at h ⊢
    by_cases h2 : s.b.length < n
    · rw [if_pos h2] at h; cases h
    · rw [if_neg h2]
      refine ⟨Classical.byContradiction h1, rfl, (List.take_append_drop n s.b).symm, ?_⟩
      show (s.b.take n).length = n
      rw [List.length_take]; omega
theorem IS.upto_split {s : IS} {n : Nat} {most : Int} (h : (s.upto n most).1.e = 0) : s.e = 0 ∧ s.b = be (s.upto n most).2.toNat n ++ (s.upto n most).1.b := by
  unfold IS.upto at h ⊢
  by_cases h1 : (s.next n).2.2 = false
  · rw [if_pos h1] at h
    have := (IS.next_split h).2.1
    rw [h1] at this; cases this
  · rw [if_neg h1] at h ⊢
    by_cases h2 : most < (num (s.next n).2.1 : Int)
    · rw [if_pos h2] at h; cases h
    · rw [if_neg h2] at h ⊢
      obtain ⟨a, _, b, c⟩ := IS.next_split h
      refine ⟨a, ?_⟩
      show s.b = be (num (s.next n).2.1) n ++ (s.next n).1.b
      have h3 := be_num (s.next n).2.1
      rw [c] at h3
      rw [h3]; exact b
theorem IS.text_split {s : IS} {most : Int} (h : (s.text most).1.e = 0) : s.e = 0 ∧ s.b = be (s.text most).2.length 2 ++ ((s.text most).2 ++ (s.text most).1.b) := by
  unfold IS.text at h ⊢
  by_cases h1 : (s.next 2).2.2 = false
  · rw [if_pos h1] at h
    have := (IS.next_split h).2.1
    rw [h1] at this; cases this
  · rw [if_neg h1] at h ⊢
    by_cases h2 : most < (num (s.next 2).2.1 : Int)
    · rw [if_pos h2] at h; cases h
    · rw [if_neg h2] at h ⊢
      obtain ⟨a, _, b, c⟩ := IS.next_split h
      obtain ⟨a', _, b', c'⟩ := IS.next_split a
      refine ⟨a', ?_⟩
      show s.b = be ((s.next 2).1.next (num (s.next 2).2.1)).2.1.length 2 ++ (((s.next 2).1.next (num (s.next 2).2.1)).2.1 ++ ((s.next 2).1.next (num (s.next 2).2.1)).1.b)
      rw [c, ← b]
      have h3 := be_num (s.next 2).2.1
      rw [c'] at h3
      rw [h3]; exact b'
theorem IS.done_zero {s : IS} (h : s.done = 0) : s.e = 0 ∧ s.b = [] := by
  unfold IS.done at h
  by_cases h1 : s.e ≠ 0
  · rw [if_pos h1] at h; exact absurd h h1
  · rw [if_neg h1] at h
    by_cases h2 : 0 < s.b.length
    · rw [if_pos h2] at h; cases h
    · exact ⟨Classical.byContradiction h1, List.eq_nil_of_length_eq_zero (by omega)⟩
theorem IS.upto_be {s : IS} {v n : Nat} {rest : List UInt8} {most : Int} (he : s.e = 0) (hb : s.b = be v n ++ rest) (hv : v < 256 ^ n) (hm : (v : Int) ≤ most) : s.upto n most = (⟨rest, 0⟩, (v : Int)) := by
  have hl : ¬ s.b.length < n := by rw [hb, List.length_append, be_length]; omega
  have hx : s.next n = (⟨rest, 0⟩, be v n, true) := by
    unfold IS.next
    rw [if_neg (by simpa using he), if_neg hl, hb, List.take_left' (be_length _ _), List.drop_left' (be_length _ _)]
  unfold IS.upto
  rw [hx, if_neg (by simp)]
  show (if most < (num (be v n) : Int) then _ else ((⟨rest, 0⟩ : IS), (num (be v n) : Int))) = _
  rw [num_be_of hv, if_neg (by omega)]
end Go.Cat
