/- slices.SortStableFunc in plain words: swaps of ranges, the rotation, the binary search, the symmetric merge's step and end, the insertion sort of elements that stand by their tags. No condition. -/
import Derived.Sort.LotA
namespace Go.Sort
set_option linter.unusedVariables false
variable {α : Type} [Inhabited α]

theorem ext_arr {a b : Array α} (hs : a.size = b.size) (h : ∀ t, t < a.size → a[t]! = b[t]!) : a = b :=
  Array.ext hs fun t h1 h2 => by have := h t h1; rwa [getElem!_pos a t h1, getElem!_pos b t h2] at this

/-- 'for i := 0; i < n; i++ { swap a+i, b+i }' behind n rounds. -/
def swR (d : Array α) (a b : Nat) : Nat → Array α
  | 0 => d
  | n + 1 => swp (swR d a b n) (a + n) (b + n)
theorem size_swR (d : Array α) (a b : Nat) : ∀ n, (swR d a b n).size = d.size
  | 0 => rfl
  | n + 1 => by rw [swR, size_swp, size_swR d a b n]
theorem get_swR (d : Array α) (a b : Nat) : ∀ n, a + n ≤ b → b + n ≤ d.size → ∀ t, (swR d a b n)[t]! = if a ≤ t ∧ t < a + n then d[t - a + b]! else if b ≤ t ∧ t < b + n then d[t - b + a]! else d[t]!
  | 0, _, _, t => by rw [swR, if_neg (by omega), if_neg (by omega)]
  | n + 1, h1, h2, t => by
    have ih := get_swR d a b n (by omega) (by omega)
    rw [swR, swp_get _ (by rw [size_swR]; omega) (by rw [size_swR]; omega), ih (a + n), ih (b + n), ih t]
    repeat' split
    all_goals first | omega | rfl | (congr 1 <;> omega)

/-- [lo, m) and [m, hi) exchanged. -/
def rotS (d : Array α) (lo m hi : Nat) : Array α :=
  (Array.range d.size).map fun t => if lo ≤ t ∧ t < hi then (if t < lo + (hi - m) then d[m + (t - lo)]! else d[t - (hi - m)]!) else d[t]!
@[simp] theorem size_rotS (d : Array α) (lo m hi : Nat) : (rotS d lo m hi).size = d.size := by simp [rotS]
theorem get_rotS (d : Array α) (lo m hi t : Nat) (hm : lo ≤ m) (hh : m ≤ hi) (hs : hi ≤ d.size) : (rotS d lo m hi)[t]! = if lo ≤ t ∧ t < hi then (if t < lo + (hi - m) then d[m + (t - lo)]! else d[t - (hi - m)]!) else d[t]! := by
  by_cases ht : t < d.size
  · rw [getElem!_pos _ t (by simpa using ht)]
    simp [rotS]
  · rw [getElem!_neg _ t (by simpa using ht), if_neg (by omega), getElem!_neg d t ht]
theorem rot_left {d : Array α} {lo m hi : Nat} (h : m = lo) (hh : m ≤ hi) (hs : hi ≤ d.size) : rotS d lo m hi = d := by
  subst h
  refine ext_arr (by simp) fun t _ => ?_
  rw [get_rotS _ _ _ _ _ (Nat.le_refl _) hh hs]
  split
  · rw [if_pos (by omega)]; congr 1; omega
  · rfl
theorem rot_right {d : Array α} {lo m hi : Nat} (h : m = hi) (hm : lo ≤ m) (hs : hi ≤ d.size) : rotS d lo m hi = d := by
  subst h
  refine ext_arr (by simp) fun t _ => ?_
  rw [get_rotS _ _ _ _ _ hm (Nat.le_refl _) hs]
  split
  · rw [if_neg (by omega)]; congr 1; omega
  · rfl
theorem rot_perm {d : Array α} {lo m hi : Nat} (hm : lo ≤ m) (hh : m ≤ hi) (hs : hi ≤ d.size) : PermIn lo hi d (rotS d lo m hi) := by
  refine ⟨size_rotS _ _ _ _, fun i hi' => by rw [get_rotS _ _ _ _ _ hm hh hs, if_neg (by omega)], ?_⟩
  rw [extract_toList _ lo hi (by simpa using hs), extract_toList d lo hi hs]
  have e : (List.range' lo (hi - lo)).map (fun i => (rotS d lo m hi)[i]!) = (List.range' m (hi - m)).map (fun i => d[i]!) ++ (List.range' lo (m - lo)).map (fun i => d[i]!) := by
    apply List.ext_getElem
    · simp; omega
    · intro k h1 h2
      have hk : k < hi - lo := by simpa using h1
      rw [List.getElem_append]
      simp only [List.getElem_map, List.getElem_range', Nat.one_mul, List.length_map, List.length_range']
      rw [get_rotS _ _ _ _ _ hm hh hs, if_pos (by omega)]
      by_cases h : k < hi - m
      · rw [if_pos (by omega), dif_pos h]; congr 1; omega
      · rw [if_neg (by omega), dif_neg h]; congr 1; omega
  have e2 : (List.range' lo (hi - lo)).map (fun i => d[i]!) = (List.range' lo (m - lo)).map (fun i => d[i]!) ++ (List.range' m (hi - m)).map (fun i => d[i]!) := by
    rw [← List.map_append]
    congr 1
    have := List.range'_append_1 (s := lo) (m := m - lo) (n := hi - m)
    rw [show lo + (m - lo) = m by omega, show m - lo + (hi - m) = hi - lo by omega] at this
    exact this.symm
  rw [e, e2]
  exact List.perm_append_comm
/-- The rotation's rounds. -/
theorem rot_big {d : Array α} {m i j : Nat} (hij : j < i) (hi : i ≤ m) (hs : m + j ≤ d.size) : rotS (swR d (m - i) m j) (m - (i - j)) m (m + j) = rotS d (m - i) m (m + j) := by
  refine ext_arr (by simp [size_swR]) fun t _ => ?_
  rw [get_rotS _ _ _ _ _ (by omega) (by omega) (by rw [size_swR]; exact hs), get_rotS _ _ _ _ _ (by omega) (by omega) hs]
  have g := get_swR d (m - i) m j (by omega) (by omega)
  simp only [g]
  repeat' split
  all_goals first | omega | rfl | (congr 1 <;> omega)
theorem rot_small {d : Array α} {m i j : Nat} (hij : i < j) (hi : i ≤ m) (hs : m + j ≤ d.size) : rotS (swR d (m - i) (m + j - i) i) (m - i) m (m + (j - i)) = rotS d (m - i) m (m + j) := by
  refine ext_arr (by simp [size_swR]) fun t _ => ?_
  rw [get_rotS _ _ _ _ _ (by omega) (by omega) (by rw [size_swR]; omega), get_rotS _ _ _ _ _ (by omega) (by omega) hs]
  have g := get_swR d (m - i) (m + j - i) i (by omega) (by omega)
  simp only [g]
  repeat' split
  all_goals first | omega | rfl | (congr 1 <;> omega)
theorem rot_even {d : Array α} {m i : Nat} (hi : i ≤ m) (hs : m + i ≤ d.size) : swR d (m - i) m i = rotS d (m - i) m (m + i) := by
  refine ext_arr (by simp [size_swR]) fun t _ => ?_
  rw [get_rotS _ _ _ _ _ (by omega) (by omega) hs, get_swR d (m - i) m i (by omega) (by omega)]
  repeat' split
  all_goals first | omega | rfl | (congr 1 <;> omega)
/-- One element moves up, down, by one. -/
theorem rot_up {d : Array α} {a r : Nat} (hs : a + 1 + r + 1 ≤ d.size) : swp (rotS d a (a + 1) (a + 1 + r)) (a + r) (a + r + 1) = rotS d a (a + 1) (a + 1 + r + 1) := by
  refine ext_arr (by simp [size_swp]) fun t _ => ?_
  rw [swp_get _ (by simp; omega) (by simp; omega)]
  simp only [get_rotS _ _ _ _ _ (Nat.le_succ a) (show a + 1 ≤ a + 1 + r by omega) (show a + 1 + r ≤ d.size by omega), get_rotS _ _ _ _ _ (Nat.le_succ a) (show a + 1 ≤ a + 1 + r + 1 by omega) hs]
  repeat' split
  all_goals first | omega | rfl | (congr 1 <;> omega)
theorem rot_down {d : Array α} {m r : Nat} (hr : r < m) (hs : m + 1 ≤ d.size) : swp (rotS d (m - r) m (m + 1)) (m - r) (m - r - 1) = rotS d (m - (r + 1)) m (m + 1) := by
  refine ext_arr (by simp [size_swp]) fun t _ => ?_
  rw [swp_get _ (by simp; omega) (by simp; omega)]
  simp only [get_rotS _ _ _ _ _ (show m - r ≤ m by omega) (Nat.le_succ m) hs, get_rotS _ _ _ _ _ (show m - (r + 1) ≤ m by omega) (Nat.le_succ m) hs]
  repeat' split
  all_goals first | omega | rfl | (congr 1 <;> omega)
/-- 'for i < j { h := (i + j) / 2; if p(h) { i = h + 1 } else { j = h } }': where i stops. -/
def bsr (p : Nat → Bool) (i j : Nat) : Nat := if i < j then (if p ((i + j) / 2) then bsr p ((i + j) / 2 + 1) j else bsr p i ((i + j) / 2)) else i
termination_by j - i
theorem bsr_le (p : Nat → Bool) : ∀ (n i j : Nat), j - i = n → i ≤ j → i ≤ bsr p i j ∧ bsr p i j ≤ j := by
  intro n
  induction n using Nat.strongRecOn with
  | _ n ih =>
    intro i j hn hij
    rw [bsr]
    split
    · split
      · have := ih (j - ((i + j) / 2 + 1)) (by omega) ((i + j) / 2 + 1) j rfl (by omega)
        omega
      · have := ih ((i + j) / 2 - i) (by omega) i ((i + j) / 2) rfl (by omega)
        omega
    · omega
theorem bsr_cut (p : Nat → Bool) : ∀ (n i j : Nat), j - i = n → i ≤ j → (∀ x y, i ≤ x → x < y → y < j → p y = true → p x = true) → (∀ x, i ≤ x → x < bsr p i j → p x = true) ∧ (∀ x, bsr p i j ≤ x → x < j → p x = false) := by
  intro n
  induction n using Nat.strongRecOn with
  | _ n ih =>
    intro i j hn hij hmono
    rw [bsr]
    split
    · rename_i hlt
      split
      · rename_i hp
        obtain ⟨h1, h2⟩ := ih (j - ((i + j) / 2 + 1)) (by omega) ((i + j) / 2 + 1) j rfl (by omega) (fun x y hx hxy hy => hmono x y (by omega) hxy hy)
        refine ⟨fun x hx hlt2 => ?_, h2⟩
        by_cases hx2 : (i + j) / 2 + 1 ≤ x
        · exact h1 x hx2 hlt2
        · by_cases hx3 : x = (i + j) / 2
          · rw [hx3]; exact hp
          · exact hmono x ((i + j) / 2) hx (by omega) (by omega) hp
      · rename_i hp
        have hp' : p ((i + j) / 2) = false := by simpa using hp
        obtain ⟨h1, h2⟩ := ih ((i + j) / 2 - i) (by omega) i ((i + j) / 2) rfl (by omega) (fun x y hx hxy hy => hmono x y hx hxy (by omega))
        refine ⟨h1, fun x hx hlt2 => ?_⟩
        by_cases hx2 : x < (i + j) / 2
        · exact h2 x hx hx2
        · by_cases hx3 : x = (i + j) / 2
          · rw [hx3]; exact hp'
          · cases hx4 : p x with
            | false => rfl
            | true =>
              have := hmono ((i + j) / 2) x (by omega) (by omega) hlt2 hx4
              rw [hp'] at this; cases this
    · exact ⟨fun x h1 h2 => by omega, fun x h1 h2 => by omega⟩

section
variable {lt lx : α → α → Bool}
/-- The two orders say the same of a right one and a left one. -/
def Agr (lt lx : α → α → Bool) (d : Array α) (a m b : Nat) : Prop := ∀ i j, a ≤ i → i < m → m ≤ j → j < b → lt d[j]! d[i]! = lx d[j]! d[i]!
theorem SortedIn.le {d : Array α} (hS : SWO lx) {a b i j : Nat} (h : SortedIn lx a b d) (hi : a ≤ i) (hij : i ≤ j) (hj : j < b) : lx d[j]! d[i]! = false := by
  rcases Nat.lt_or_eq_of_le hij with h1 | h1
  · exact h i j hi h1 hj
  · subst h1; exact hS.irrefl _
/-- Two sorted halves, the one not above the other. -/
theorem sorted_join {d : Array α} {a m b : Nat} (h1 : SortedIn lx a m d) (h2 : SortedIn lx m b d) (h : ∀ i j, a ≤ i → i < m → m ≤ j → j < b → lx d[j]! d[i]! = false) : SortedIn lx a b d := by
  intro i j hi hij hj
  by_cases c1 : j < m
  · exact h1 i j hi hij c1
  · by_cases c2 : m ≤ i
    · exact h2 i j c2 hij hj
    · exact h i j hi (by omega) (by omega) hj
/-- One element on the left. -/
theorem merge_one {d : Array α} (hS : SWO lx) {a b s : Nat} (hb : b ≤ d.size) (hm : a + 1 < b) (h2 : SortedIn lx (a + 1) b d) (hag : Agr lt lx d a (a + 1) b) (hs : s = bsr (fun h => lt d[h]! d[a]!) (a + 1) b) :
    a + 1 ≤ s ∧ s ≤ b ∧ PermIn a b d (rotS d a (a + 1) s) ∧ SortedIn lx a b (rotS d a (a + 1) s) := by
  have hle := bsr_le (fun h => lt d[h]! d[a]!) _ (a + 1) b rfl (by omega)
  have hcut := bsr_cut (fun h => lt d[h]! d[a]!) _ (a + 1) b rfl (by omega) (fun x y hx hxy hy hp => by
    have e1 := hag a y (Nat.le_refl _) (by omega) (by omega) hy
    have e2 := hag a x (Nat.le_refl _) (by omega) (by omega) (by omega)
    have hp' : lt d[y]! d[a]! = true := hp
    show lt d[x]! d[a]! = true
    rw [e1] at hp'
    rw [e2]
    cases hx2 : lx d[x]! d[a]! with
    | true => rfl
    | false =>
      have := hS.ntrans _ _ _ (h2 x y hx hxy hy) hx2
      rw [this] at hp'; cases hp')
  rw [← hs] at hle hcut
  refine ⟨hle.1, hle.2, permIn_mono _ _ a s a b (Nat.le_refl _) hle.2 hb (rot_perm (by omega) hle.1 (by omega)), ?_⟩
  have g := fun t => get_rotS d a (a + 1) s t (by omega) hle.1 (by omega)
  have gA : ∀ t, a ≤ t → t + 1 < s → (rotS d a (a + 1) s)[t]! = d[t + 1]! := fun t h3 h4 => by rw [g t, if_pos (by omega), if_pos (by omega)]; congr 1; omega
  have gB : ∀ t, t + 1 = s → (rotS d a (a + 1) s)[t]! = d[a]! := fun t h3 => by rw [g t, if_pos (by omega), if_neg (by omega)]; congr 1; omega
  have gC : ∀ t, s ≤ t → (rotS d a (a + 1) s)[t]! = d[t]! := fun t h3 => by rw [g t, if_neg (by omega)]
  have hlo : ∀ x, a + 1 ≤ x → x < s → lx d[a]! d[x]! = false := fun x h3 h4 => by
    have hl : lt d[x]! d[a]! = true := hcut.1 x h3 h4
    rw [hag a _ (Nat.le_refl _) (by omega) (by omega) (by omega)] at hl
    exact hS.asymmA hl
  have hhi : ∀ x, s ≤ x → x < b → lx d[x]! d[a]! = false := fun x h3 h4 => by
    have hl : lt d[x]! d[a]! = false := hcut.2 x h3 h4
    rw [hag a _ (Nat.le_refl _) (by omega) (by omega) (by omega)] at hl
    exact hl
  intro i j hi hij hj
  by_cases ci : i + 1 < s
  · rw [gA i hi ci]
    by_cases cj : j + 1 < s
    · rw [gA j (by omega) cj]; exact h2 _ _ (by omega) (by omega) (by omega)
    · by_cases cj2 : j + 1 = s
      · rw [gB j cj2]; exact hlo _ (by omega) ci
      · rw [gC j (by omega)]; exact h2 _ _ (by omega) (by omega) (by omega)
  · rw [gC j (by omega)]
    by_cases ci2 : i + 1 = s
    · rw [gB i ci2]; exact hhi j (by omega) hj
    · rw [gC i (by omega)]; exact h2 _ _ (by omega) (by omega) (by omega)
/-- One element on the right. -/
theorem merge_last {d : Array α} (hS : SWO lx) {a m s : Nat} (hb : m + 1 ≤ d.size) (hm : a < m) (h1 : SortedIn lx a m d) (hag : Agr lt lx d a m (m + 1)) (hs : s = bsr (fun h => !lt d[m]! d[h]!) a m) :
    a ≤ s ∧ s ≤ m ∧ PermIn a (m + 1) d (rotS d s m (m + 1)) ∧ SortedIn lx a (m + 1) (rotS d s m (m + 1)) := by
  have hle := bsr_le (fun h => !lt d[m]! d[h]!) _ a m rfl (by omega)
  have hcut := bsr_cut (fun h => !lt d[m]! d[h]!) _ a m rfl (by omega) (fun x y hx hxy hy hp => by
    have e1 := hag y m (by omega) (by omega) (Nat.le_refl _) (by omega)
    have e2 := hag x m (by omega) (by omega) (Nat.le_refl _) (by omega)
    have hp' : lt d[m]! d[y]! = false := by simpa using hp
    show (!lt d[m]! d[x]!) = true
    rw [e1] at hp'
    rw [e2, hS.ntrans _ _ _ hp' (h1 x y hx hxy hy)]; rfl)
  rw [← hs] at hle hcut
  refine ⟨hle.1, hle.2, permIn_mono _ _ s (m + 1) a (m + 1) hle.1 (Nat.le_refl _) hb (rot_perm hle.2 (by omega) hb), ?_⟩
  have g := fun t => get_rotS d s m (m + 1) t hle.2 (by omega) hb
  have gA : ∀ t, t < s → (rotS d s m (m + 1))[t]! = d[t]! := fun t h3 => by rw [g t, if_neg (by omega)]
  have gB : ∀ t, t = s → (rotS d s m (m + 1))[t]! = d[m]! := fun t h3 => by rw [g t, if_pos (by omega), if_pos (by omega)]; congr 1; omega
  have gC : ∀ t, s < t → t < m + 1 → (rotS d s m (m + 1))[t]! = d[t - 1]! := fun t h3 h4 => by rw [g t, if_pos (by omega), if_neg (by omega)]; congr 1; omega
  have hlo : ∀ x, a ≤ x → x < s → lx d[m]! d[x]! = false := fun x h3 h4 => by
    have hl : lt d[m]! d[x]! = false := by have := hcut.1 x h3 h4; simpa using this
    rw [hag _ m (by omega) (by omega) (Nat.le_refl _) (by omega)] at hl
    exact hl
  have hhi : ∀ x, s ≤ x → x < m → lx d[x]! d[m]! = false := fun x h3 h4 => by
    have hl : lt d[m]! d[x]! = true := by have := hcut.2 x h3 h4; simpa using this
    rw [hag _ m (by omega) (by omega) (Nat.le_refl _) (by omega)] at hl
    exact hS.asymmA hl
  intro i j hi hij hj
  by_cases ci : i < s
  · rw [gA i ci]
    by_cases cj : j < s
    · rw [gA j cj]; exact h1 _ _ (by omega) (by omega) (by omega)
    · by_cases cj2 : j = s
      · rw [gB j cj2]; exact hlo _ (by omega) ci
      · rw [gC j (by omega) hj]; exact h1 _ _ (by omega) (by omega) (by omega)
  · rw [gC j (by omega) hj]
    by_cases ci2 : i = s
    · rw [gB i ci2]; exact hhi _ (by omega) (by omega)
    · rw [gC i (by omega) (by omega)]; exact h1 _ _ (by omega) (by omega) (by omega)
/-- The symmetric merge's step: where the halves part, and what is known of the rotated row. -/
structure Step (lt lx : α → α → Bool) (d : Array α) (a m b s e : Nat) : Prop where
  bl : a ≤ s
  sm : s ≤ m
  me : m ≤ e
  eb : e ≤ b
  se : s + e = (a + b) / 2 + m
  perm : PermIn a b d (rotS d s m e)
  s1 : SortedIn lx a s (rotS d s m e)
  s2 : SortedIn lx s ((a + b) / 2) (rotS d s m e)
  s3 : SortedIn lx ((a + b) / 2) e (rotS d s m e)
  s4 : SortedIn lx e b (rotS d s m e)
  g1 : Agr lt lx (rotS d s m e) a s ((a + b) / 2)
  g2 : Agr lt lx (rotS d s m e) ((a + b) / 2) e b
  cross : ∀ i j, a ≤ i → i < (a + b) / 2 → (a + b) / 2 ≤ j → j < b → lx (rotS d s m e)[j]! (rotS d s m e)[i]! = false
theorem merge_step {d : Array α} (hS : SWO lx) {a m b s lo hi : Nat} (hb : b ≤ d.size) (ham : a < m) (hmb : m < b) (h1 : SortedIn lx a m d) (h2 : SortedIn lx m b d) (hag : Agr lt lx d a m b)
    (hlo : lo = if (a + b) / 2 < m then (a + b) / 2 + m - b else a) (hhi : hi = if (a + b) / 2 < m then (a + b) / 2 else m)
    (hs : s = bsr (fun c => !lt d[(a + b) / 2 + m - 1 - c]! d[c]!) lo hi) : Step lt lx d a m b s ((a + b) / 2 + m - s) := by
  obtain ⟨mid, hmid⟩ : ∃ mid, mid = (a + b) / 2 := ⟨_, rfl⟩
  rw [← hmid] at hlo hhi hs
  have hbd : a ≤ lo ∧ lo ≤ hi ∧ hi ≤ m ∧ hi ≤ mid ∧ (b ≤ mid + m - lo → mid + m - lo = b) ∧ mid + m - lo ≤ b := by
    by_cases c : mid < m
    · rw [if_pos c] at hlo hhi; omega
    · rw [if_neg c] at hlo hhi; omega
  have hle := bsr_le (fun c => !lt d[mid + m - 1 - c]! d[c]!) _ lo hi rfl hbd.2.1
  have hcut := bsr_cut (fun c => !lt d[mid + m - 1 - c]! d[c]!) _ lo hi rfl hbd.2.1 (fun x y hx hxy hy hp => by
    have e1 := hag y (mid + m - 1 - y) (by omega) (by omega) (by omega) (by omega)
    have e2 := hag x (mid + m - 1 - x) (by omega) (by omega) (by omega) (by omega)
    have hp' : lt d[mid + m - 1 - y]! d[y]! = false := by simpa using hp
    show (!lt d[mid + m - 1 - x]! d[x]!) = true
    rw [e1] at hp'
    rw [e2]
    have q1 := hS.ntrans _ _ _ hp' (h1.le hS (i := x) (j := y) (by omega) (by omega) (by omega))
    have q2 := hS.ntrans _ _ _ (h2.le hS (i := mid + m - 1 - y) (j := mid + m - 1 - x) (by omega) (by omega) (by omega)) q1
    rw [q2]; rfl)
  rw [← hs] at hle hcut
  -- the borders
  have hsm : s ≤ m := by omega
  have hme : m ≤ mid + m - s := by omega
  have heb : mid + m - s ≤ b := by omega
  have has : a ≤ s := by omega
  have hlow : ∀ i j, a ≤ i → i < s → mid + m - s ≤ j → j < b → lx d[j]! d[i]! = false := by
    intro i j hi1 hi2 hj1 hj2
    have hs1 : lo < s := by
      by_cases c : mid < m
      · rw [if_pos c] at hlo; omega
      · rw [if_neg c] at hlo; omega
    have hp := hcut.1 (s - 1) (by omega) (by omega)
    have hp' : lt d[mid + m - 1 - (s - 1)]! d[s - 1]! = false := by simpa using hp
    rw [hag _ _ (by omega) (by omega) (by omega) (by omega)] at hp'
    have q1 := hS.ntrans _ _ _ hp' (h1.le hS (i := i) (j := s - 1) (by omega) (by omega) (by omega))
    exact hS.ntrans _ _ _ (h2.le hS (i := mid + m - 1 - (s - 1)) (j := j) (by omega) (by omega) (by omega)) q1
  have hhigh : ∀ i j, s ≤ i → i < m → m ≤ j → j < mid + m - s → lx d[i]! d[j]! = false := by
    intro i j hi1 hi2 hj1 hj2
    have hs1 : s < hi := by
      by_cases c : mid < m
      · rw [if_pos c] at hhi; omega
      · rw [if_neg c] at hhi; omega
    have hp := hcut.2 s (Nat.le_refl _) hs1
    have hp' : lt d[mid + m - 1 - s]! d[s]! = true := by simpa using hp
    rw [hag _ _ (by omega) (by omega) (by omega) (by omega)] at hp'
    have q0 := hS.asymmA hp'
    have q1 := hS.ntrans _ _ _ (h1.le hS (i := s) (j := i) (by omega) (by omega) (by omega)) q0
    exact hS.ntrans _ _ _ q1 (h2.le hS (i := j) (j := mid + m - 1 - s) (by omega) (by omega) (by omega))
  obtain ⟨e, he⟩ : ∃ e, e = mid + m - s := ⟨_, rfl⟩
  rw [← hmid, ← he]
  rw [← he] at hme heb hlow hhigh
  have hse : s + e = mid + m := by omega
  have hsmid : s ≤ mid := by omega
  have hmide : mid ≤ e := by omega
  have g := fun t => get_rotS d s m e t hsm hme (by omega)
  have gl : ∀ t, t < s → (rotS d s m e)[t]! = d[t]! := fun t ht => by rw [g t, if_neg (by omega)]
  have gh : ∀ t, e ≤ t → (rotS d s m e)[t]! = d[t]! := fun t ht => by rw [g t, if_neg (by omega)]
  have g1 : ∀ t, s ≤ t → t < mid → (rotS d s m e)[t]! = d[m + (t - s)]! := fun t h3 h4 => by rw [g t, if_pos (by omega), if_pos (by omega)]
  have g2 : ∀ t, mid ≤ t → t < e → (rotS d s m e)[t]! = d[t - (e - m)]! := fun t h3 h4 => by rw [g t, if_pos (by omega), if_neg (by omega)]
  have hse' : s + e = (a + b) / 2 + m := by omega
  subst hmid
  refine ⟨has, hsm, hme, heb, hse', permIn_mono _ _ s e a b has heb hb (rot_perm hsm hme (by omega)), ?_, ?_, ?_, ?_, ?_, ?_, ?_⟩
  · intro i j hi hij hj
    rw [gl i (by omega), gl j hj]
    exact h1 i j hi hij (by omega)
  · intro i j hi hij hj
    rw [g1 i hi (by omega), g1 j (by omega) hj]
    exact h2 _ _ (by omega) (by omega) (by omega)
  · intro i j hi hij hj
    rw [g2 i hi (by omega), g2 j (by omega) hj]
    exact h1 _ _ (by omega) (by omega) (by omega)
  · intro i j hi hij hj
    rw [gh i hi, gh j (by omega)]
    exact h2 _ _ (by omega) hij hj
  · intro i j hi1 hi2 hj1 hj2
    rw [gl i hi2, g1 j hj1 hj2]
    exact hag _ _ hi1 (by omega) (by omega) (by omega)
  · intro i j hi1 hi2 hj1 hj2
    rw [g2 i hi1 hi2, gh j hj1]
    exact hag _ _ (by omega) (by omega) (by omega) hj2
  · intro i j hi1 hi2 hj1 hj2
    by_cases ci : i < s
    · rw [gl i ci]
      by_cases cj : j < e
      · rw [g2 j hj1 cj]
        exact h1.le hS hi1 (by omega) (by omega)
      · rw [gh j (by omega)]
        exact hlow i j hi1 ci (by omega) hj2
    · rw [g1 i (by omega) hi2]
      by_cases cj : j < e
      · rw [g2 j hj1 cj]
        exact hhigh _ _ (by omega) (by omega) (by omega) (by omega)
      · rw [gh j (by omega)]
        exact h2.le hS (by omega) (by omega) hj2
/-- The symmetric merge's end. -/
theorem merge_end {d d1 d2 d3 : Array α} {a mid b : Nat} (hb : b ≤ d.size) (ham : a ≤ mid) (hmb : mid ≤ b) (p1 : PermIn a b d d1) (p2 : PermIn a mid d1 d2) (p3 : PermIn mid b d2 d3) (s2 : SortedIn lx a mid d2) (s3 : SortedIn lx mid b d3)
    (hc : ∀ i j, a ≤ i → i < mid → mid ≤ j → j < b → lx d1[j]! d1[i]! = false) : PermIn a b d d3 ∧ SortedIn lx a b d3 := by
  have z1 : d1.size = d.size := p1.1
  have z2 : d2.size = d1.size := p2.1
  refine ⟨permIn_trans _ _ _ _ _ p1 (permIn_trans _ _ _ _ _ (permIn_mono _ _ a mid a b (Nat.le_refl _) hmb (by omega) p2) (permIn_mono _ _ mid b a b ham (Nat.le_refl _) (by omega) p3)), ?_⟩
  refine sorted_join (m := mid) ?_ s3 ?_
  · intro i j hi hij hj
    rw [p3.2.1 i (by omega), p3.2.1 j (by omega)]
    exact s2 i j hi hij hj
  · intro i j hi1 hi2 hj1 hj2
    rw [p3.2.1 i (by omega)]
    have q2 : ∀ x, a ≤ x → x < mid → ∀ y, mid ≤ y → y < b → lx d1[y]! d2[x]! = false := fun x hx1 hx2 y hy1 hy2 =>
      permIn_all d1 d2 a mid (fun v => lx d1[y]! v = false) (by omega) p2 (fun x' h1 h2 => hc x' y h1 h2 hy1 hy2) x hx1 hx2
    exact permIn_all d2 d3 mid b (fun v => lx v d2[i]! = false) (by omega) p3 (fun y h1 h2 => by rw [p2.2.1 y (by omega)]; exact q2 i hi1 hi2 y h1 h2) j hj1 hj2

/-- The insertion sort of elements of which a later one is above an earlier one by the one order just if by the other one. -/
theorem insInner_perm (lt : α → α → Bool) (a : Nat) : ∀ (j : Nat) (d : Array α), a ≤ j → j < d.size → PermIn a (j + 1) d (insInner lt a j d)
  | 0, d, _, _ => permIn_refl _ _ _
  | j + 1, d, ha, hj => by
    unfold insInner
    split
    · rename_i h
      simp only [Bool.and_eq_true, decide_eq_true_iff] at h
      have h1 := swp_permIn d a (j + 1 + 1) (j + 1) j (by omega) (by omega) (by omega) (by omega) (by omega)
      have h2 := insInner_perm lt a j (swp d (j + 1) j) (by omega) (by rw [size_swp]; omega)
      exact permIn_trans _ _ _ _ _ h1 (permIn_mono _ _ a (j + 1) a (j + 1 + 1) (Nat.le_refl _) (by omega) (by rw [size_swp]; omega) h2)
    · exact permIn_refl _ _ _
theorem insInner_agree (a : Nat) : ∀ (j : Nat) (d : Array α), j < d.size → (∀ p, a ≤ p → p < j → lt d[j]! d[p]! = lx d[j]! d[p]!) → insInner lt a j d = insInner lx a j d
  | 0, _, _, _ => rfl
  | j + 1, d, hj, h => by
    unfold insInner
    by_cases ha : j + 1 > a
    · rw [h j (by omega) (by omega)]
      split
      · refine insInner_agree a j _ (by rw [size_swp]; omega) fun p hp1 hp2 => ?_
        rw [swp_right _ _ _ (by omega), swp_other _ _ _ _ (by omega) (by omega)]
        exact h p hp1 (by omega)
      · rfl
    · have e : decide (j + 1 > a) = false := by simpa using ha
      rw [e]; rfl
theorem insOuter_agree (a b : Nat) : ∀ (n i : Nat) (d : Array α), b - i = n → a ≤ i → b ≤ d.size → (∀ p q, a ≤ p → p < q → i ≤ q → q < b → lt d[q]! d[p]! = lx d[q]! d[p]!) → insOuter lt a b i d = insOuter lx a b i d := by
  intro n
  induction n with
  | zero =>
    intro i d hn _ _ _
    rw [insOuter.eq_1 lt, insOuter.eq_1 lx, if_neg (show ¬ i < b by omega), if_neg (show ¬ i < b by omega)]
  | succ n ih =>
    intro i d hn ha hb h
    rw [insOuter.eq_1 lt, insOuter.eq_1 lx, if_pos (show i < b by omega), if_pos (show i < b by omega)]
    rw [insInner_agree a i d (by omega) (fun p h1 h2 => h p i h1 h2 (Nat.le_refl _) (by omega))]
    have hp := insInner_perm lx a i d ha (by omega)
    have hz : (insInner lx a i d).size = d.size := hp.1
    refine ih (i + 1) _ (by omega) (by omega) (by omega) fun p q h1 h2 h3 h4 => ?_
    rw [hp.2.1 q (by omega)]
    by_cases hpi : p < i + 1
    · exact permIn_all d _ a (i + 1) (fun v => lt d[q]! v = lx d[q]! v) (by omega) hp (fun x hx1 hx2 => h x q hx1 (by omega) (by omega) h4) p h1 hpi
    · rw [hp.2.1 p (by omega)]
      exact h p q h1 h2 (by omega) h4
theorem ins_agree {d : Array α} {a b : Nat} (hb : b ≤ d.size) (h : ∀ p q, a ≤ p → p < q → q < b → lt d[q]! d[p]! = lx d[q]! d[p]!) : insertionSort lt d a b = insertionSort lx d a b :=
  insOuter_agree a b _ (a + 1) d rfl (by omega) hb fun p q h1 h2 _ h4 => h p q h1 h2 h4
end

/-- By one order, and where it does not part them by the tag. -/
def lexO (lt : α → α → Bool) (tag : α → Nat) (x y : α) : Bool := lt x y || (!lt y x && decide (tag x < tag y))
omit [Inhabited α] in
theorem swo_lex {lt : α → α → Bool} (h : SWO lt) (tag : α → Nat) : SWO (lexO lt tag) where
  irrefl x := by simp [lexO, h.irrefl]
  trans x y z h1 h2 := by
    unfold lexO at *
    simp only [Bool.or_eq_true, Bool.and_eq_true, Bool.not_eq_true', decide_eq_true_iff] at *
    rcases h1 with h1 | ⟨h1, t1⟩
    · rcases h2 with h2 | ⟨h2, t2⟩
      · exact .inl (h.trans _ _ _ h1 h2)
      · left
        cases c : lt x z with
        | true => rfl
        | false => rw [h.ntrans _ _ _ c h2] at h1; cases h1
    · rcases h2 with h2 | ⟨h2, t2⟩
      · left
        cases c : lt x z with
        | true => rfl
        | false => rw [h.ntrans _ _ _ h1 c] at h2; cases h2
      · right
        exact ⟨h.ntrans _ _ _ h2 h1, by omega⟩
  ntrans x y z h1 h2 := by
    unfold lexO at *
    simp only [Bool.or_eq_false_iff, Bool.and_eq_false_iff, Bool.not_eq_false', decide_eq_false_iff_not] at *
    refine ⟨h.ntrans _ _ _ h1.1 h2.1, ?_⟩
    rcases h1.2 with a1 | a1
    · left
      cases c : lt z x with
      | true => rfl
      | false => rw [h.ntrans _ _ _ h2.1 c] at a1; cases a1
    · rcases h2.2 with a2 | a2
      · left
        cases c : lt z x with
        | true => rfl
        | false => rw [h.ntrans _ _ _ c h1.1] at a2; cases a2
      · right; omega
omit [Inhabited α] in
/-- Where the right one has the greater tag the two orders say the same. -/
theorem lex_agree {lt : α → α → Bool} {tag : α → Nat} {x y : α} (h : tag x < tag y) : lt y x = lexO lt tag y x := by
  have e : decide (tag y < tag x) = false := decide_eq_false (by omega)
  unfold lexO
  rw [e, Bool.and_false, Bool.or_false]
end Go.Sort
