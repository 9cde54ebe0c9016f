/- Which inodes may be: plain. No condition. -/
import Derived.Test.YtjdpljhhlmcbaaaInoPure
namespace Go.Cat.Ino
open Go.RowKit Go.Cat
/-- How many blocks a size needs. -/
def need (size : Int) : Int := if size ≤ 0 then 0 else (size - 1) / 64 + 1
/-- An extent within the bounds. -/
structure InE (e : Ext) : Prop where
  right : rightE e
  s0 : 0 ≤ e.1
  s1 : e.1 < 4096
  s2 : e.1 + e.2 ≤ 4096
/-- The extent at a place is fine. -/
def okAt (xs : List Ext) (i : Nat) : Prop := ∀ e, xs[i]? = some e → InE e ∧ (0 < i → ∀ p, xs[i - 1]? = some p → e.1 ≠ p.1 + p.2)
def okTo (xs : List Ext) (k : Nat) : Prop := ∀ i, i < k → okAt xs i
def fineP (xs : List Ext) : Prop := okTo xs xs.length ∧ (blks xs).Nodup
open Classical in
noncomputable def fineB (xs : List Ext) : Bool := decide (fineP xs)
open Classical in
/-- The check's error. -/
noncomputable def checkI (mode size : Int) (xs : List Ext) : Int :=
  if mode < 0 ∨ 2 < mode then 1 else if 512 < size then 17 else if size < 0 ∨ (mode = 0 ∧ (0 < size ∨ 0 < xs.length)) then 4
  else if xs.length ≤ 8 ∧ fineP xs ∧ ((blks xs).length : Int) = need size then 0 else 4
open Classical in
theorem fine_yes {xs : List Ext} (h : fineP xs) : fineB xs = true := by unfold fineB; exact decide_eq_true h
open Classical in
theorem fine_not {xs : List Ext} (h : ¬ fineP xs) : fineB xs = false := by unfold fineB; exact decide_eq_false h
theorem okTo.zero (xs : List Ext) : okTo xs 0 := fun i hi => absurd hi (Nat.not_lt_zero i)
theorem okTo.succ {xs : List Ext} {k : Nat} (h : okTo xs k) (hk : okAt xs k) : okTo xs (k + 1) := fun i hi => by
  rcases Nat.lt_or_ge i k with h1 | h1
  · exact h i h1
  · obtain rfl : i = k := by omega
    exact hk
section
variable {xs : List Ext} {k : Nat} {e p : Ext}
theorem ok_mk (hk : xs[k]? = some e) (h : InE e) (h0 : 0 < k → ∀ p, xs[k - 1]? = some p → e.1 ≠ p.1 + p.2) : okAt xs k := fun e' he => by
  rw [hk] at he; injection he with he; subst he; exact ⟨h, h0⟩
theorem not_in (hk : xs[k]? = some e) (h : ¬ InE e) : ¬ fineP xs := fun hf => h (hf.1 k (List.getElem?_eq_some_iff.1 hk).1 e hk).1
theorem not_next (hk : xs[k]? = some e) (h0 : 0 < k) (hp : xs[k - 1]? = some p) (h : e.1 = p.1 + p.2) : ¬ fineP xs := fun hf => (hf.1 k (List.getElem?_eq_some_iff.1 hk).1 e hk).2 h0 p hp h
end
section
variable {mode size : Int} {xs : List Ext}
theorem check_arg (h : mode < 0 ∨ 2 < mode) : checkI mode size xs = 1 := by unfold checkI; rw [if_pos h]
theorem check_big (h : ¬ (mode < 0 ∨ 2 < mode)) (h2 : 512 < size) : checkI mode size xs = 17 := by unfold checkI; rw [if_neg h, if_pos h2]
theorem check_form (h : ¬ (mode < 0 ∨ 2 < mode)) (h2 : ¬ 512 < size) (h3 : size < 0 ∨ (mode = 0 ∧ (0 < size ∨ 0 < xs.length))) : checkI mode size xs = 4 := by unfold checkI; rw [if_neg h, if_neg h2, if_pos h3]
theorem check_no (h : ¬ (mode < 0 ∨ 2 < mode)) (h2 : ¬ 512 < size) (h4 : ¬ (xs.length ≤ 8 ∧ fineP xs ∧ ((blks xs).length : Int) = need size)) : checkI mode size xs = 4 := by
  unfold checkI; rw [if_neg h, if_neg h2]
  by_cases h3 : size < 0 ∨ (mode = 0 ∧ (0 < size ∨ 0 < xs.length))
  · rw [if_pos h3]
  · rw [if_neg h3, if_neg h4]
theorem check_ok (h : ¬ (mode < 0 ∨ 2 < mode)) (h2 : ¬ 512 < size) (h3 : ¬ (size < 0 ∨ (mode = 0 ∧ (0 < size ∨ 0 < xs.length)))) (h4 : xs.length ≤ 8 ∧ fineP xs ∧ ((blks xs).length : Int) = need size) : checkI mode size xs = 0 := by
  unfold checkI; rw [if_neg h, if_neg h2, if_neg h3, if_pos h4]
/-- What one that may be is. -/
structure MayBe (mode size : Int) (xs : List Ext) : Prop where
  m0 : 0 ≤ mode
  m2 : mode ≤ 2
  s0 : 0 ≤ size
  s1 : size ≤ 512
  free : mode = 0 → size = 0 ∧ xs.length = 0
  len : xs.length ≤ 8
  fine : fineP xs
  need : ((blks xs).length : Int) = need size
theorem check_zero (h : checkI mode size xs = 0) : MayBe mode size xs := by
  unfold checkI at h
  by_cases h1 : mode < 0 ∨ 2 < mode
  · rw [if_pos h1] at h; cases h
  · rw [if_neg h1] at h
    by_cases h2 : 512 < size
    · rw [if_pos h2] at h; cases h
    · rw [if_neg h2] at h
      by_cases h3 : size < 0 ∨ (mode = 0 ∧ (0 < size ∨ 0 < xs.length))
      · rw [if_pos h3] at h; cases h
      · rw [if_neg h3] at h
        by_cases h4 : xs.length ≤ 8 ∧ fineP xs ∧ ((blks xs).length : Int) = Ino.need size
        · exact ⟨by omega, by omega, by omega, by omega, fun hm => by omega, h4.1, h4.2.1, h4.2.2⟩
        · rw [if_neg h4] at h; cases h
theorem MayBe.check (h : MayBe mode size xs) : checkI mode size xs = 0 := by
  have h0 := h.m0
  have h1 := h.m2
  have h2 := h.s0
  have h3 := h.s1
  refine check_ok (by omega) (by omega) ?_ ⟨h.len, h.fine, h.need⟩
  rintro (e | ⟨e, e2⟩)
  · omega
  · have := h.free e; omega
/-- Fine extents have a block each at least. -/
theorem okTo_blocks {xs : List Ext} : ∀ k, k ≤ xs.length → okTo xs k → k ≤ (blksTo xs k).length
  | 0, _, _ => Nat.zero_le _
  | k + 1, hk, h => by
    have h1 := okTo_blocks k (by omega) (fun i hi => h i (by omega))
    have h2 := (h k (Nat.lt_succ_self _) xs[k] (List.getElem?_eq_getElem (by omega))).1.right
    rw [blksTo_succ (by omega), List.length_append, blk_yes h2, bTo_length]
    have := h2.1
    omega
theorem need_le {size : Int} (h : size ≤ 512) : need size ≤ 8 := by unfold need; split <;> omega
/-- More than eight fine extents need more than there may be. -/
theorem long_not (hs : size ≤ 512) (h : 8 < xs.length) : ¬ (okTo xs xs.length ∧ ((blks xs).length : Int) = need size) := fun ⟨h1, h2⟩ => by
  have h3 := okTo_blocks xs.length (Nat.le_refl _) h1
  rw [blksTo_all] at h3
  have h4 := need_le hs
  omega
end
end Go.Cat.Ino
