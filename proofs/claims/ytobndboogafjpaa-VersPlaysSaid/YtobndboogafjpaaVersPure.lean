/- Versions in plain words: what a block's versions are, which is clean, dirty, picked, trimmed. No program in sight. No condition. -/
namespace Go.Cat.Vers

structure Ver where
  ver : Int
  seq : Int
  data : List UInt8

def zero : Ver := ⟨0, 0, []⟩

def atV (l : List Ver) (i : Int) : Ver := if 0 ≤ i then l.getD i.toNat zero else zero
theorem atV_in {l : List Ver} {k : Nat} (h : k < l.length) : atV l (k : Int) = l[k] := by simp [atV, List.getD_eq_getElem?_getD, h]
theorem atV_neg {l : List Ver} {i : Int} (h : i < 0) : atV l i = zero := by unfold atV; rw [if_neg (by omega)]
theorem atV_big {l : List Ver} {i : Int} (h : (l.length : Int) ≤ i) : atV l i = zero := by
  unfold atV; rw [if_pos (by omega), List.getD_eq_getElem?_getD, List.getElem?_eq_none (by omega)]; rfl
theorem atV_mem {l : List Ver} {i : Int} (h : atV l i ≠ zero) : atV l i ∈ l := by
  by_cases h0 : i < 0
  · exact absurd (atV_neg h0) h
  · by_cases h1 : (l.length : Int) ≤ i
    · exact absurd (atV_big h1) h
    · obtain ⟨k, rfl⟩ := Int.eq_ofNat_of_zero_le (by omega : 0 ≤ i)
      rw [atV_in (by omega)]
      exact List.getElem_mem _

/-- How many of a list's first ones a rising test leaves below: the place that a search finds. -/
def least (p : Nat → Bool) : Nat → Nat
  | 0 => 0
  | n + 1 => if p (least p n) then least p n else if least p n = n then n + 1 else least p n
end Go.Cat.Vers
