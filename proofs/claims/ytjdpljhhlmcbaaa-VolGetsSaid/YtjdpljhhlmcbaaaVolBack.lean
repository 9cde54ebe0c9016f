/- What is got of bytes has these bytes: plain. No condition. -/
import Derived.Test.YtjdpljhhlmcbaaaVolPut
import Derived.Test.YtjdpljhhlmcbaaaVolGetV
namespace Go.Cat
open Go.RowKit
theorem IS.next_split {s : IS} {n : Nat} (h : (s.next n).1.e = 0) : s.e = 0 ∧ (s.next n).2.2 = true ∧ s.b = (s.next n).2.1 ++ (s.next n).1.b ∧ (s.next n).2.1.length = n := by
  unfold IS.next at h ⊢
  by_cases h1 : s.e ≠ 0
  · rw [if_pos h1] at h; exact absurd h h1
  · rw [if_neg h1] at h ⊢
    by_cases h2 : s.b.length < n
    · rw [if_pos h2] at h; cases h
    · rw [if_neg h2]
      refine ⟨Classical.byContradiction h1, rfl, (List.take_append_drop n s.b).symm, ?_⟩
      show (s.b.take n).length = n
      rw [List.length_take]; omega
theorem IS.upto_split {s : IS} {n : Nat} {most : Int} (h : (s.upto n most).1.e = 0) : s.e = 0 ∧ s.b = be (s.upto n most).2.toNat n ++ (s.upto n most).1.b := by
  unfold IS.upto at h ⊢
  by_cases h1 : (s.next n).2.2 = false
  · rw [if_pos h1] at h
    have := (IS.next_split h).2.1
    rw [h1] at this; cases this
  · rw [if_neg h1] at h ⊢
    by_cases h2 : most < (num (s.next n).2.1 : Int)
    · rw [if_pos h2] at h; cases h
    · rw [if_neg h2] at h ⊢
      obtain ⟨a, _, b, c⟩ := IS.next_split h
      refine ⟨a, ?_⟩
      show s.b = be (num (s.next n).2.1) n ++ (s.next n).1.b
      have h3 := be_num (s.next n).2.1
      rw [c] at h3
      rw [h3]; exact b
theorem IS.text_split {s : IS} {most : Int} (h : (s.text most).1.e = 0) : s.e = 0 ∧ s.b = be (s.text most).2.length 2 ++ ((s.text most).2 ++ (s.text most).1.b) := by
  unfold IS.text at h ⊢
  by_cases h1 : (s.next 2).2.2 = false
  · rw [if_pos h1] at h
    have := (IS.next_split h).2.1
    rw [h1] at this; cases this
  · rw [if_neg h1] at h ⊢
    by_cases h2 : most < (num (s.next 2).2.1 : Int)
    · rw [if_pos h2] at h; cases h
    · rw [if_neg h2] at h ⊢
      obtain ⟨a, _, b, c⟩ := IS.next_split h
      obtain ⟨a', _, b', c'⟩ := IS.next_split a
      refine ⟨a', ?_⟩
      show s.b = be ((s.next 2).1.next (num (s.next 2).2.1)).2.1.length 2 ++ (((s.next 2).1.next (num (s.next 2).2.1)).2.1 ++ ((s.next 2).1.next (num (s.next 2).2.1)).1.b)
      rw [c, ← b]
      have h3 := be_num (s.next 2).2.1
      rw [c'] at h3
      rw [h3]; exact b'
theorem IS.done_zero {s : IS} (h : s.done = 0) : s.e = 0 ∧ s.b = [] := by
  unfold IS.done at h
  by_cases h1 : s.e ≠ 0
  · rw [if_pos h1] at h; exact absurd h h1
  · rw [if_neg h1] at h
    by_cases h2 : 0 < s.b.length
    · rw [if_pos h2] at h; cases h
    · exact ⟨Classical.byContradiction h1, List.eq_nil_of_length_eq_zero (by omega)⟩
end Go.Cat
namespace Go.Cat.Vol
open Go.RowKit Go.Cat
theorem one_split {s : IS} (h : (one s).1.e = 0) : s.e = 0 ∧ s.b = encP (one s).2 ++ (one s).1.b := by
  obtain ⟨a, b⟩ := IS.text_split (show (IS.text _ 64).1.e = 0 from h)
  obtain ⟨a', b'⟩ := IS.upto_split a
  obtain ⟨a'', b''⟩ := IS.upto_split a'
  refine ⟨a'', ?_⟩
  rw [b'', b', b]
  unfold encP one
  simp [List.append_assoc]
theorem parse_split {s : IS} : ∀ k, (parse s k).1.e = 0 → s.e = 0 ∧ s.b = (parse s k).2.flatMap encP ++ (parse s k).1.b
  | 0, h => ⟨h, by show s.b = [] ++ s.b; rfl⟩
  | k + 1, h => by
    obtain ⟨a, b⟩ := one_split (s := (parse s k).1) h
    obtain ⟨a', b'⟩ := parse_split k a
    refine ⟨a', ?_⟩
    show s.b = ((parse s k).2 ++ [(one (parse s k).1).2]).flatMap encP ++ (one (parse s k).1).1.b
    rw [List.flatMap_append, b', b]
    simp [List.append_assoc]
theorem read_back {b : List UInt8} (h : (readP b).1.done = 0) : encs (readP b).2 = b := by
  obtain ⟨a, c⟩ := IS.done_zero h
  obtain ⟨a', c'⟩ := parse_split (s := (count b).1) _ a
  obtain ⟨a'', c''⟩ := IS.upto_split (s := ⟨b, 0⟩) (n := 1) (most := 20) a'
  have h1 : b = be (count b).2.toNat 1 ++ (count b).1.b := c''
  have h2 : (readP b).2.length = (count b).2.toNat := parse_length _ _
  have h3 : (count b).1.b = (readP b).2.flatMap encP ++ [] := by
    have := c'
    rw [show (parse (count b).1 (count b).2.toNat).1.b = [] from c] at this
    exact this
  unfold encs
  rw [h2]
  rw [List.append_nil] at h3
  rw [← h3, ← h1]
theorem put_back {I B : Int} {b : List UInt8} (h : (getV I B b).2 = 0) : (putV I B (getV I B b).1).1 = b := by
  by_cases h0 : b = []
  · subst h0
    rw [getV_nil, putV_no (.inr rfl)]
  · by_cases hr : rightP I B
    · by_cases hd : (readP b).1.done = 0
      · by_cases hc : (readP b).2 = [] ∨ checkV I B (readP b).2 ≠ 0
        · rw [getV_form h0 hr hd hc] at h; cases h
        · have h1 : (readP b).2 ≠ [] := fun e => hc (.inl e)
          have h2 : checkV I B (readP b).2 = 0 := Classical.byContradiction fun e => hc (.inr e)
          rw [getV_ok h0 hr hd h1 h2, putV_yes h2 h1]
          exact read_back hd
      · rw [getV_done h0 hr hd] at h
        exact absurd h hd
    · rw [getV_arg h0 hr] at h; cases h
theorem got_in {I B : Int} {b : List UInt8} : ∀ p ∈ (getV I B b).1, PvK p := by
  intro p hp
  by_cases h0 : b = []
  · subst h0; rw [getV_nil] at hp; cases hp
  · by_cases hr : rightP I B
    · by_cases hd : (readP b).1.done = 0
      · by_cases hc : (readP b).2 = [] ∨ checkV I B (readP b).2 ≠ 0
        · rw [getV_form h0 hr hd hc] at hp; cases hp
        · have h1 : (readP b).2 ≠ [] := fun e => hc (.inl e)
          have h2 : checkV I B (readP b).2 = 0 := Classical.byContradiction fun e => hc (.inr e)
          rw [getV_ok h0 hr hd h1 h2] at hp
          exact (parse_in _ _ p hp).k
      · rw [getV_done h0 hr hd] at hp; cases hp
    · rw [getV_arg h0 hr] at hp; cases hp
theorem got_length {I B : Int} {b : List UInt8} : (getV I B b).1.length ≤ 20 := by
  by_cases h0 : b = []
  · subst h0; rw [getV_nil]; exact Nat.zero_le _
  · by_cases hr : rightP I B
    · by_cases hd : (readP b).1.done = 0
      · by_cases hc : (readP b).2 = [] ∨ checkV I B (readP b).2 ≠ 0
        · rw [getV_form h0 hr hd hc]; exact Nat.zero_le _
        · have h1 : (readP b).2 ≠ [] := fun e => hc (.inl e)
          have h2 : checkV I B (readP b).2 = 0 := Classical.byContradiction fun e => hc (.inr e)
          rw [getV_ok h0 hr hd h1 h2]
          exact (check_zero h2).2.1
      · rw [getV_done h0 hr hd]; exact Nat.zero_le _
    · rw [getV_arg h0 hr]; exact Nat.zero_le _
end Go.Cat.Vol
