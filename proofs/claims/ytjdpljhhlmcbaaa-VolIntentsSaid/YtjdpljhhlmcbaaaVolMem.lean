/- Patches in memory: the row of their cells, the bytes of each; and what a check of patches is. No condition. -/
import Derived.Test.YtjdpljhhlmcbaaaVolCheckV
import Derived.Test.YtjdpljhhlmcbaaaFlat
namespace Go.Cat.Vol
open Go.RowKit Go.Cat
/-- A patch, the address and the capacity of its bytes. -/
abbrev Pr := Pv × Option Addr × Nat
def pcells (r : Pr) : List Value := [.int .u32 r.1.key, .int .u64 r.1.ver, .slice r.2.1 r.1.b.length r.2.2]
abbrev prows (rs : List Pr) : List Value := rs.flatMap pcells
theorem prows_length (rs : List Pr) : (prows rs).length = rs.length * 3 := flat_length (f := pcells) (k := 3) (fun _ => rfl) rs
theorem prows_snoc (rs : List Pr) (r : Pr) : prows (rs ++ [r]) = prows rs ++ pcells r := by simp [prows]
theorem one_pcells (r : Pr) : ∀ u ∈ pcells r, u.oneCell' = true := by
  intro u hu
  simp [pcells] at hu
  rcases hu with rfl | rfl | rfl <;> rfl
theorem one_prows (rs : List Pr) : ∀ u ∈ prows rs, u.oneCell' = true := by
  intro u hu
  obtain ⟨r, _, h⟩ := List.mem_flatMap.1 hu
  exact one_pcells r u h
/-- The row shows the patches, each its bytes. -/
structure Pats (w : World) (A : Option Addr) (rs : List Pr) : Prop where
  row : Sees w A (prows rs)
  each : ∀ r ∈ rs, Bytes w r.2.1 r.1.b
theorem Pats.below {w w' : World} {A : Option Addr} {rs : List Pr} (h : Pats w A rs) (hb : Below w.heap.size w w') : Pats w' A rs := ⟨h.row.below hb, fun r hr => (h.each r hr).below hb⟩
theorem Pats.nil_ {w : World} {A : Option Addr} : Pats w A [] := ⟨.inl rfl, fun r hr => by cases hr⟩
/-- Nothing is wrong with the first patches. -/
def Fine (I B : Int) (l : List Pv) (k : Nat) : Prop := ∀ j, j < k → badAt I B l j = 0
theorem Fine.zero (I B : Int) (l : List Pv) : Fine I B l 0 := fun j hj => absurd hj (Nat.not_lt_zero j)
theorem Fine.succ {I B : Int} {l : List Pv} {k : Nat} (h : Fine I B l k) (hk : badAt I B l k = 0) : Fine I B l (k + 1) := fun j hj => by
  rcases Nat.lt_or_ge j k with h1 | h1
  · exact h j h1
  · obtain rfl : j = k := by omega
    exact hk
theorem check_no {I B : Int} {l : List Pv} (h : ¬ rightP I B) : checkV I B l = 1 := by unfold checkV; rw [if_pos h]
theorem check_full {I B : Int} {l : List Pv} (h : rightP I B) (h2 : 20 < l.length) : checkV I B l = 9 := by unfold checkV; rw [if_neg (fun e => e h), if_pos h2]
theorem check_bad {I B e : Int} {l : List Pv} {k : Nat} (h : rightP I B) (h2 : ¬ 20 < l.length) (hk : k < l.length) (h0 : Fine I B l k) (h1 : badAt I B l k = e) (he : e ≠ 0) : checkV I B l = e := by
  unfold checkV
  rw [if_neg (fun e => e h), if_neg h2, find_at hk h0 (by rw [h1]; exact he)]
  exact h1
theorem check_fine {I B : Int} {l : List Pv} (h : rightP I B) (h2 : ¬ 20 < l.length) (h0 : Fine I B l l.length) : checkV I B l = 0 := by
  unfold checkV
  rw [if_neg (fun e => e h), if_neg h2, find_none h0]
  rfl
section
variable {I B : Int} {l : List Pv} {k : Nat} {p : Pv}
theorem bad_range (hk : l[k]? = some p) (h : kind I B p.key < 2) : badAt I B l k = 20 := by unfold badAt; rw [hk]; show (if _ then _ else _) = _; rw [if_pos h]
theorem bad_form {q : Pv} (hk : l[k]? = some p) (h : ¬ kind I B p.key < 2) (h0 : 0 < k) (hq : l[k - 1]? = some q) (h1 : p.key ≤ q.key) : badAt I B l k = 4 := by
  unfold badAt; rw [hk]; show (if _ then _ else _) = _; rw [if_neg h, if_pos ⟨h0, by rw [hq]; exact h1⟩]
theorem bad_long (hk : l[k]? = some p) (h : ¬ kind I B p.key < 2) (h0 : 0 < k → ∀ q, l[k - 1]? = some q → q.key < p.key) (h1 : 64 < p.b.length) : badAt I B l k = 6 := by
  unfold badAt; rw [hk]; show (if _ then _ else _) = _; rw [if_neg h, if_neg, if_pos h1]
  rintro ⟨hk0, hle⟩
  have hl : k < l.length := (List.getElem?_eq_some_iff.1 hk).1
  have hq : l[k - 1]? = some (l[k - 1]'(by omega)) := List.getElem?_eq_getElem _
  rw [hq] at hle
  have h3 := h0 hk0 _ hq
  have : p.key ≤ (l[k - 1]'(by omega)).key := hle
  omega
theorem bad_not (hk : l[k]? = some p) (h : ¬ kind I B p.key < 2) (h0 : 0 < k → ∀ q, l[k - 1]? = some q → q.key < p.key) (h1 : ¬ 64 < p.b.length) : badAt I B l k = 0 := by
  unfold badAt; rw [hk]; show (if _ then _ else _) = _; rw [if_neg h, if_neg, if_neg h1]
  rintro ⟨hk0, hle⟩
  have hl : k < l.length := (List.getElem?_eq_some_iff.1 hk).1
  have hq : l[k - 1]? = some (l[k - 1]'(by omega)) := List.getElem?_eq_getElem _
  rw [hq] at hle
  have h3 := h0 hk0 _ hq
  have : p.key ≤ (l[k - 1]'(by omega)).key := hle
  omega
theorem fine_keys (h : Fine I B l (k + 1)) (hk : l[k]? = some p) : 2 ≤ kind I B p.key ∧ p.b.length ≤ 64 := by
  have h1 := h k (Nat.lt_succ_self _)
  unfold badAt at h1
  rw [hk] at h1
  replace h1 : (if kind I B p.key < 2 then (20 : Int) else if 0 < k ∧ p.key ≤ ((l[k - 1]?).map Pv.key).getD 0 then 4 else if 64 < p.b.length then 6 else 0) = 0 := h1
  by_cases a : kind I B p.key < 2
  · rw [if_pos a] at h1; cases h1
  · rw [if_neg a] at h1
    by_cases b : 0 < k ∧ p.key ≤ ((l[k - 1]?).map Pv.key).getD 0
    · rw [if_pos b] at h1; cases h1
    · rw [if_neg b] at h1
      by_cases c : 64 < p.b.length
      · rw [if_pos c] at h1; cases h1
      · omega
end
end Go.Cat.Vol
