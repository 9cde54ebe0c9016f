/- Plain words on versions behind Put and Trim: rising lists, what a cut leaves. No condition. -/
import Derived.Test.YtobndboogafjpaaVersRead
namespace Go.Cat.Vers

theorem getD_app {l : List Ver} {v : Ver} {i : Nat} (h : i < l.length) : (l ++ [v]).getD i zero = l.getD i zero := by
  rw [List.getD_eq_getElem?_getD, List.getD_eq_getElem?_getD, List.getElem?_append_left h]
theorem getD_new {l : List Ver} {v : Ver} : (l ++ [v]).getD l.length zero = v := by
  rw [List.getD_eq_getElem?_getD, List.getElem?_append_right (Nat.le_refl _)]; simp
theorem lastD {l : List Ver} : l.getLastD zero = l.getD (l.length - 1) zero := by
  rw [List.getLastD_eq_getLast?, List.getLast?_eq_getElem?, List.getD_eq_getElem?_getD]
theorem lastD_new {l : List Ver} {v : Ver} : (l ++ [v]).getLastD zero = v := by
  rw [lastD, List.length_append, show l.length + [v].length - 1 = l.length from by simp, getD_new]

theorem Rising.put {l : List Ver} (h : Rising l) {v : Ver} (hv : 0 < l.length → (l.getLastD zero).seq < v.seq ∧ (l.getLastD zero).ver < v.ver) : Rising (l ++ [v]) := by
  intro i j hij hj
  simp at hj
  rcases Nat.lt_or_ge j l.length with hlt | hge
  · rw [getD_app (by omega), getD_app hlt]
    exact h i j hij hlt
  · obtain rfl : j = l.length := by omega
    rw [getD_app (by omega), getD_new]
    have h1 := hv (by omega)
    rw [lastD] at h1
    have a := h.seq (i := i) (j := l.length - 1) (by omega) (by omega)
    have b := h.ver (i := i) (j := l.length - 1) (by omega) (by omega)
    omega

theorem getD_drop {l : List Ver} {t i : Nat} : (l.drop t).getD i zero = l.getD (t + i) zero := by
  rw [List.getD_eq_getElem?_getD, List.getElem?_drop, List.getD_eq_getElem?_getD]
theorem Rising.cut {l : List Ver} (h : Rising l) (t : Nat) : Rising (l.drop t) := by
  intro i j hij hj
  rw [List.length_drop] at hj
  rw [getD_drop, getD_drop]
  exact h _ _ (by omega) (by omega)
theorem Small.cut {l : List Ver} (h : Small l) (t : Nat) : Small (l.drop t) := ⟨by rw [List.length_drop]; have := h.len; omega, fun v hv => h.data v (List.mem_of_mem_drop hv)⟩

theorem atV_drop {l : List Ver} {t : Nat} {i : Int} (hi : 0 ≤ i) : atV (l.drop t) i = atV l ((t : Int) + i) := by
  obtain ⟨k, rfl⟩ := Int.eq_ofNat_of_zero_le hi
  unfold atV
  rw [if_pos (by omega), if_pos (by omega), getD_drop, show ((t : Int) + (k : Int)).toNat = t + k from by omega, Int.toNat_natCast]

theorem cut_last {l : List Ver} {t : Nat} (ht : t = 0 ∨ t < l.length) : atV (l.drop t) (((l.drop t).length : Int) - 1) = atV l ((l.length : Int) - 1) := by
  rcases ht with rfl | ht
  · simp
  · rw [List.length_drop, atV_drop (by omega)]
    congr 1
    omega

theorem Cleaned.mono {l : List Ver} {done later : Int} {k K : Nat} (h : Cleaned l done k) (H : Cleaned l later K) (hd : done ≤ later) : k ≤ K := by
  rcases Nat.lt_or_ge K k with hlt | hge
  · have a := h.lo K hlt
    have b := H.hi K (Nat.le_refl _) (by have := h.le; omega)
    omega
  · exact hge

theorem Cleaned.cut {l : List Ver} {done : Int} {K t : Nat} (h : Cleaned l done K) (ht : t ≤ K) : Cleaned (l.drop t) done (K - t) := by
  refine ⟨by rw [List.length_drop]; have := h.le; omega, fun i hi => ?_, fun i h1 h2 => ?_⟩
  · rw [getD_drop]; exact h.lo _ (by omega)
  · rw [List.length_drop] at h2
    rw [getD_drop]; exact h.hi _ (by omega) (by omega)

theorem cut_clean {l : List Ver} {done later : Int} {k K K' : Nat} (h : Cleaned l done k) (H : Cleaned l later K) (hd : done ≤ later) (H' : Cleaned (l.drop (k - 1)) later K') :
    atV (l.drop (k - 1)) ((K' : Int) - 1) = atV l ((K : Int) - 1) := by
  have hk := h.mono H hd
  obtain rfl : K' = K - (k - 1) := H'.uniq (H.cut (by omega))
  by_cases h0 : K - (k - 1) = 0
  · rw [atV_neg (by omega), atV_neg (by omega)]
  · rw [atV_drop (by omega)]
    congr 1
    omega

theorem cut_again {l : List Ver} {done : Int} {k k' : Nat} (h : Cleaned l done k) (H' : Cleaned (l.drop (k - 1)) done k') : k' - 1 = 0 := by
  obtain rfl : k' = k - (k - 1) := H'.uniq (h.cut (by omega))
  omega

theorem cut_ok {l : List Ver} {done : Int} {k : Nat} (h : Cleaned l done k) : k - 1 = 0 ∨ k - 1 < l.length := by have := h.le; omega

/-- What Trim of the reference keeps is what a cut leaves. -/
theorem filter_cut {l : List Ver} (hr : Rising l) {done : Int} {k : Nat} (h : Cleaned l done k) (hp : ∀ v ∈ l, 0 < v.seq) :
    l.filter (fun v => decide ((atV l ((k : Int) - 1)).seq ≤ v.seq)) = l.drop (k - 1) := by
  have hk := h.le
  by_cases h0 : k = 0
  · subst h0
    rw [atV_neg (by omega), Nat.zero_sub, List.drop_zero, List.filter_eq_self]
    intro v hv
    have := hp v hv
    rw [decide_eq_true_eq]
    show 0 ≤ v.seq
    omega
  · have e : atV l ((k : Int) - 1) = l.getD (k - 1) zero := by
      unfold atV
      rw [if_pos (by omega)]
      congr 1
      omega
    rw [e]
    obtain ⟨s, hs⟩ : ∃ s, s = (l.getD (k - 1) zero).seq := ⟨_, rfl⟩
    rw [← hs]
    have h1 : (l.take (k - 1)).filter (fun v => decide (s ≤ v.seq)) = [] := by
      rw [List.filter_eq_nil_iff]
      intro v hv
      obtain ⟨i, hi, rfl⟩ := List.getElem_of_mem hv
      rw [List.length_take] at hi
      rw [List.getElem_take]
      have := (hr i (k - 1) (by omega) (by omega)).1
      have e2 : l.getD i zero = l[i]'(by omega) := by rw [List.getD_eq_getElem?_getD, List.getElem?_eq_getElem (by omega)]; rfl
      rw [e2, ← hs] at this
      simp only [decide_eq_true_eq]
      omega
    have h2 : (l.drop (k - 1)).filter (fun v => decide (s ≤ v.seq)) = l.drop (k - 1) := by
      rw [List.filter_eq_self]
      intro v hv
      obtain ⟨i, hi, rfl⟩ := List.getElem_of_mem hv
      rw [List.length_drop] at hi
      rw [List.getElem_drop]
      have := hr.seq (i := k - 1) (j := k - 1 + i) (by omega) (by omega)
      have e2 : l.getD (k - 1 + i) zero = l[k - 1 + i]'(by omega) := by rw [List.getD_eq_getElem?_getD, List.getElem?_eq_getElem (by omega)]; rfl
      rw [e2, ← hs] at this
      simp only [decide_eq_true_eq]
      exact this
    conv => lhs; rw [← List.take_append_drop (k - 1) l]
    rw [List.filter_append, h1, h2, List.nil_append]
end Go.Cat.Vers
