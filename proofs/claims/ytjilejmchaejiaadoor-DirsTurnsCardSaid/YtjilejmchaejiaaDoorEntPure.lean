/- Entries: plain. No condition. -/
import Derived.Test.YtjilejmchaejiaaDoorDirPure
import Derived.Test.YtjilejmchaejiaaDoorFlat
import GoSem.Op.String
namespace Go.Cat.Dir
open Go.RowKit Go.Cat
/-- An entry: its name and its number. -/
abbrev Ent := Txt × Int
def entC (e : Ent) : List Value := [sv e.1, .int .i64 e.2]
theorem entC_len (e : Ent) : (entC e).length = 2 := rfl
abbrev erows (l : List Ent) : List Value := l.flatMap entC
theorem erows_snoc (xs : List Ent) (e : Ent) : erows (xs ++ [e]) = erows xs ++ entC e := by simp [erows]
theorem one_entC (e : Ent) : ∀ u ∈ entC e, u.oneCell' = true := by
  intro u hu
  simp [entC, sv] at hu
  rcases hu with rfl | rfl <;> rfl
theorem erows_at {w : World} {A : Option Addr} {xs : List Ent} (h : Sees w A (erows xs)) {k : Nat} (hk : k < xs.length) : ∃ b off, A = some ⟨b, off, none⟩ ∧ b < w.heap.size ∧
    w.cell? ⟨b, off + k * 2, none⟩ = some (.string (bs xs[k].1)) ∧ w.cell? ⟨b, off + k * 2 + 1, none⟩ = some (.int .i64 xs[k].2) := by
  obtain ⟨b, off, hA, hb, hc⟩ := h.elem (f := entC) (k := 2) (fun _ => rfl) (by omega) (by omega)
  refine ⟨b, off, hA, hb, hc k hk 0 (by omega), ?_⟩
  rw [Nat.add_assoc]; exact hc k hk 1 (by omega)
/-- The order of texts. -/
theorem less_or : ∀ a b : Txt, (Op.bytesLess a b || (a == b)) = !(Op.bytesLess b a)
  | [], [] => rfl
  | [], b :: l => by simp [Op.bytesLess]
  | a :: l, [] => by simp [Op.bytesLess]
  | a :: l, b :: m => by
    have ih := less_or l m
    simp only [Op.bytesLess]
    by_cases h1 : a < b
    · have h2 : ¬ b < a := by rw [UInt8.lt_iff_toNat_lt] at h1 ⊢; omega
      have h3 : b ≠ a := by rintro rfl; exact h2 h1
      simp [h1, h2, h3]
    · by_cases h2 : b < a
      · have h3 : a ≠ b := by rintro rfl; exact h1 h2
        simp [h1, h2, h3]
      · have h3 : a = b := by
          apply UInt8.toNat_inj.1
          rw [UInt8.lt_iff_toNat_lt] at h1 h2
          omega
        subst h3
        simp only [h1, decide_false, Bool.false_or, beq_self_eq_true, Bool.true_and, List.cons_beq_cons]
        exact ih
theorem less_le (a b : Txt) : (Op.bytesLess a b = true ∨ a = b) ↔ Op.bytesLess b a = false := by
  have h := less_or a b
  constructor
  · intro h1
    have h2 : (Op.bytesLess a b || (a == b)) = true := by
      rcases h1 with h1 | rfl
      · rw [h1]; rfl
      · simp
    rw [h2] at h
    cases hb : Op.bytesLess b a
    · rfl
    · rw [hb] at h; cases h
  · intro h1
    rw [h1] at h
    have h2 : (Op.bytesLess a b || (a == b)) = true := h
    rw [Bool.or_eq_true] at h2
    rcases h2 with h2 | h2
    · exact .inl h2
    · exact .inr (by simpa using h2)
def nodeB (n : Int) : Bool := decide (1 ≤ n) && decide (n ≤ 65535)
theorem nodeB_iff (n : Int) : nodeB n = true ↔ 1 ≤ n ∧ n ≤ 65535 := by unfold nodeB; simp
theorem nodeB_not (n : Int) : nodeB n = false ↔ ¬ (1 ≤ n ∧ n ≤ 65535) := by rw [← nodeB_iff]; simp
/-- Does a name stand in order behind the one ahead? -/
def ordB (l : List Ent) (k : Nat) : Bool := decide (k = 0) || Op.bytesLess (l.getD (k - 1) ([], 0)).1 (l.getD k ([], 0)).1
/-- What is wrong with one entry: 0, nothing. -/
def entErr (l : List Ent) (k : Nat) : Int := if nameB (l.getD k ([], 0)).1 = false then 18 else if nodeB (l.getD k ([], 0)).2 = false ∨ ordB l k = false then 4 else 0
/-- The first thing that is wrong. -/
def checkE (l : List Ent) : Int := if 32 < l.length then 17 else (((List.range l.length).map (entErr l)).find? (fun z => z != 0)).getD 0
theorem check_big {l : List Ent} (h : 32 < l.length) : checkE l = 17 := if_pos h
theorem check_ok {l : List Ent} (h : ¬ 32 < l.length) (ha : ∀ j, j < l.length → entErr l j = 0) : checkE l = 0 := by
  unfold checkE
  rw [if_neg h]
  have : ((List.range l.length).map (entErr l)).find? (fun z => z != 0) = none := by
    rw [List.find?_eq_none]
    intro x hx
    obtain ⟨j, hj, rfl⟩ := List.mem_map.1 hx
    rw [ha j (List.mem_range.1 hj)]
    simp
  rw [this]; rfl
theorem check_at {l : List Ent} {k : Nat} (h : ¬ 32 < l.length) (hk : k < l.length) (ha : ∀ j, j < k → entErr l j = 0) (he : entErr l k ≠ 0) : checkE l = entErr l k := by
  unfold checkE
  rw [if_neg h]
  have hl : List.range l.length = List.range k ++ (k :: (List.range (l.length - k - 1)).map (fun i => k + 1 + i)) := by
    have h1 : l.length = k + (1 + (l.length - k - 1)) := by omega
    rw [h1, List.range_add, List.range_add]
    have h2 : k + (1 + (l.length - k - 1)) - k - 1 = l.length - k - 1 := by omega
    rw [h2]
    simp [Nat.add_assoc]
  rw [hl, List.map_append, List.find?_append]
  have : ((List.range k).map (entErr l)).find? (fun z => z != 0) = none := by
    rw [List.find?_eq_none]
    intro x hx
    obtain ⟨j, hj, rfl⟩ := List.mem_map.1 hx
    rw [ha j (List.mem_range.1 hj)]
    simp
  rw [this, List.map_cons, List.find?_cons_of_pos (by simpa using he)]
  rfl
theorem check_zero {l : List Ent} (h : checkE l = 0) : l.length ≤ 32 ∧ ∀ j, j < l.length → entErr l j = 0 := by
  by_cases hb : 32 < l.length
  · rw [check_big hb] at h; cases h
  · refine ⟨by omega, ?_⟩
    intro j
    induction j using Nat.strongRecOn with
    | _ j ih =>
      intro hj
      by_cases he : entErr l j = 0
      · exact he
      · have := check_at hb hj (fun i hi => ih i hi (by omega)) he
        rw [this] at h
        exact absurd h he
theorem ent_name {l : List Ent} {k : Nat} (hk : k < l.length) (h : nameB l[k].1 = false) : entErr l k = 18 := by
  unfold entErr
  rw [List.getD_eq_getElem?_getD, List.getElem?_eq_getElem hk]
  exact if_pos h
theorem ent_form {l : List Ent} {k : Nat} (hk : k < l.length) (h : nameB l[k].1 = true) (h2 : nodeB l[k].2 = false ∨ ordB l k = false) : entErr l k = 4 := by
  unfold entErr
  rw [List.getD_eq_getElem?_getD, List.getElem?_eq_getElem hk]
  show (if nameB l[k].1 = false then _ else if nodeB l[k].2 = false ∨ ordB l k = false then _ else _) = _
  rw [if_neg (by rw [h]; simp), if_pos h2]
theorem ent_ok {l : List Ent} {k : Nat} (hk : k < l.length) (h : nameB l[k].1 = true) (h2 : nodeB l[k].2 = true) (h3 : ordB l k = true) : entErr l k = 0 := by
  unfold entErr
  rw [List.getD_eq_getElem?_getD, List.getElem?_eq_getElem hk]
  show (if nameB l[k].1 = false then _ else if nodeB l[k].2 = false ∨ ordB l k = false then _ else _) = _
  rw [if_neg (by rw [h]; simp), if_neg (by rw [h2, h3]; simp)]
theorem ent_zero {l : List Ent} {k : Nat} (hk : k < l.length) (h : entErr l k = 0) : nameB l[k].1 = true ∧ nodeB l[k].2 = true ∧ ordB l k = true := by
  cases h1 : nameB l[k].1 with
  | false => rw [ent_name hk h1] at h; cases h
  | true =>
    cases h2 : nodeB l[k].2 with
    | false => rw [ent_form hk h1 (.inl h2)] at h; cases h
    | true =>
      cases h3 : ordB l k with
      | false => rw [ent_form hk h1 (.inr h3)] at h; cases h
      | true => exact ⟨rfl, rfl, rfl⟩
theorem ord_zero (l : List Ent) : ordB l 0 = true := rfl
theorem ord_at {l : List Ent} {k : Nat} (hk : k + 1 < l.length) : ordB l (k + 1) = Op.bytesLess l[k].1 l[k + 1].1 := by
  unfold ordB
  rw [List.getD_eq_getElem?_getD, List.getD_eq_getElem?_getD, List.getElem?_eq_getElem hk, show k + 1 - 1 = k by omega, List.getElem?_eq_getElem (show k < l.length by omega)]
  simp
end Go.Cat.Dir
