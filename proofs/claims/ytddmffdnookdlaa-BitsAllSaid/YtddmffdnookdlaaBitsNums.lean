/- Lists of numbers that a bitmap has, or lacks, in plain words. No program in sight. No condition. -/
import Derived.Test.YtddmffdnookdlaaBitsPure
namespace Go.Cat.Bits

/-- The numbers below k of which p holds, rising. -/
def nums (p : Nat → Bool) (k : Nat) : List Int := ((List.range k).filter p).map (fun j : Nat => (j : Int))

theorem nums_zero (p : Nat → Bool) : nums p 0 = [] := rfl
theorem nums_yes {p : Nat → Bool} {k : Nat} (h : p k = true) : nums p (k + 1) = nums p k ++ [(k : Int)] := by simp [nums, List.range_succ, List.filter_append, h]
theorem nums_no {p : Nat → Bool} {k : Nat} (h : p k = false) : nums p (k + 1) = nums p k := by simp [nums, List.range_succ, List.filter_append, h]
theorem nums_le (p : Nat → Bool) (k : Nat) : (nums p k).length ≤ k := by
  have := List.length_filter_le p (List.range k)
  simpa [nums] using this
theorem mem_nums {p : Nat → Bool} {k : Nat} {z : Int} : z ∈ nums p k ↔ ∃ j : Nat, z = j ∧ j < k ∧ p j = true := by
  simp only [nums, List.mem_map, List.mem_filter, List.mem_range]
  constructor
  · rintro ⟨j, ⟨h1, h2⟩, rfl⟩; exact ⟨j, rfl, h1, h2⟩
  · rintro ⟨j, rfl, h1, h2⟩; exact ⟨j, ⟨h1, h2⟩, rfl⟩
theorem nums_prefix (p : Nat → Bool) {i k : Nat} (h : i ≤ k) : nums p i <+: nums p k := by
  induction k with
  | zero => obtain rfl : i = 0 := by omega
            exact List.prefix_rfl
  | succ k ih =>
    rcases Nat.lt_or_ge k i with hk | hk
    · obtain rfl : i = k + 1 := by omega
      exact List.prefix_rfl
    · refine (ih hk).trans ?_
      cases hp : p k
      · rw [nums_no hp]; exact List.prefix_rfl
      · rw [nums_yes hp]; exact List.prefix_append _ _
theorem nums_congr {p q : Nat → Bool} {k : Nat} (h : ∀ j, j < k → p j = q j) : nums p k = nums q k := by
  unfold nums
  congr 1
  exact List.filter_congr fun j hj => h j (by simpa using hj)
theorem nums_add (p : Nat → Bool) (k : Nat) : (nums p k).length + (nums (fun j => !p j) k).length = k := by
  induction k with
  | zero => rfl
  | succ k ih =>
    cases hp : p k
    · rw [nums_no hp, nums_yes (p := fun j => !p j) (by simp [hp])]; simp; omega
    · rw [nums_yes hp, nums_no (p := fun j => !p j) (by simp [hp])]; simp; omega
theorem nums_nodup (p : Nat → Bool) (k : Nat) : (nums p k).Nodup := by
  unfold nums
  refine List.Pairwise.map _ (fun a b h => ?_) (List.nodup_range.filter p)
  intro e; exact h (by omega)
theorem nums_sorted (p : Nat → Bool) (k : Nat) : (nums p k).Pairwise (· < ·) := by
  unfold nums
  refine List.Pairwise.map _ (fun a b (h : a < b) => ?_) (List.pairwise_lt_range.filter p)
  omega

/-- All the numbers that are had (nothing where the bytes don't fit). -/
noncomputable def had (bs : List UInt8) (n : Int) : List Int := if fits bs n = true then nums (bit bs) n.toNat else []
theorem had_yes {bs : List UInt8} {n : Int} (h : FitsP bs n) : had bs n = nums (bit bs) n.toNat := by simp [had, fits_true h]
theorem had_no {bs : List UInt8} {n : Int} (h : ¬ FitsP bs n) : had bs n = [] := by simp [had, fits_false h]
theorem had_le (bs : List UInt8) (n : Int) : (had bs n).length ≤ 4096 := by
  unfold had
  split
  · rename_i h; have h := fits_iff.1 h; have := nums_le (bit bs) n.toNat; have := h.hi; omega
  · simp

/-- Without a number. -/
def wo (l : List Int) (x : Int) : List Int := l.filter (fun z => z != x)
theorem wo_snoc_eq (l : List Int) (x : Int) : wo (l ++ [x]) x = wo l x := by simp [wo, List.filter_append]
theorem wo_snoc_ne {l : List Int} {x z : Int} (h : z ≠ x) : wo (l ++ [z]) x = wo l x ++ [z] := by
  have : (z != x) = true := by simpa using h
  simp [wo, List.filter_append, this]
theorem wo_le (l : List Int) (x : Int) : (wo l x).length ≤ l.length := List.length_filter_le _ _
theorem mem_wo {l : List Int} {x z : Int} : z ∈ wo l x ↔ z ∈ l ∧ z ≠ x := by simp [wo, List.mem_filter]
end Go.Cat.Bits
