/- A row of elements of some cells each, shown by a slice; the words are general. No condition. -/
import Derived.Test.YtabecceojbeomaaGreatDoorLib
import Derived.OneCell
namespace Go.Cat
open Go.RowKit

section
variable {β : Type} {f : β → List Value} {k : Nat}
theorem flat_length (hk : ∀ b, (f b).length = k) (bs : List β) : (bs.flatMap f).length = bs.length * k := by
  induction bs with
  | nil => simp
  | cons b bs ih => rw [List.flatMap_cons, List.length_append, ih, hk, List.length_cons, Nat.succ_mul, Nat.add_comm]
theorem flat_at (hk : ∀ b, (f b).length = k) {bs : List β} {i j : Nat} (hi : i < bs.length) (hj : j < k) : (bs.flatMap f)[i * k + j]? = (f bs[i])[j]? := by
  induction bs generalizing i with
  | nil => simp at hi
  | cons b bs ih =>
    rw [List.flatMap_cons]
    cases i with
    | zero => rw [List.getElem?_append_left (by rw [hk]; omega)]; simp
    | succ i =>
      have e : (i + 1) * k + j = (f b).length + (i * k + j) := by rw [hk, Nat.succ_mul]; omega
      rw [e, List.getElem?_append_right (Nat.le_add_right _ _), Nat.add_sub_cancel_left, ih (by simpa using hi)]
      simp

/-- The slice shows the row: element i's cells. -/
theorem Sees.elem {w : World} {A : Option Addr} {bs : List β} (h : Sees w A (bs.flatMap f)) (hk : ∀ b, (f b).length = k) (h0 : 0 < k) (hb : 0 < bs.length) :
    ∃ b off, A = some ⟨b, off, none⟩ ∧ b < w.heap.size ∧ ∀ i (hi : i < bs.length) j, j < k → w.cell? ⟨b, off + (i * k + j), none⟩ = (f bs[i])[j]? := by
  have hl := flat_length hk bs
  rcases h with h | ⟨b, off, hA, hc⟩
  · rw [h] at hl
    have := Nat.mul_pos hb h0
    simp at hl
    omega
  · have all : ∀ i (hi : i < bs.length) j, j < k → w.cell? ⟨b, off + (i * k + j), none⟩ = (f bs[i])[j]? := by
      intro i hi j hj
      have e := flat_at hk hi hj
      have hj2 : j < (f bs[i]).length := by rw [hk]; exact hj
      rw [List.getElem?_eq_getElem hj2] at e ⊢
      exact hc _ _ e
    refine ⟨b, off, hA, ?_, all⟩
    have e := all 0 hb 0 h0
    rw [List.getElem?_eq_getElem (show 0 < (f bs[0]).length by rw [hk]; exact h0)] at e
    exact World.block_lt_of_cell? w _ e

theorem Sees.flat_mk {w : World} {b off : Nat} {bs : List β} (hk : ∀ b, (f b).length = k) (h0 : 0 < k) (h : ∀ i (hi : i < bs.length) j, j < k → w.cell? ⟨b, off + (i * k + j), none⟩ = (f bs[i])[j]?) : Sees w (some ⟨b, off, none⟩) (bs.flatMap f) := by
  refine .inr ⟨b, off, rfl, fun m u hu => ?_⟩
  have hm : m < bs.length * k := by rw [← flat_length hk bs]; exact (List.getElem?_eq_some_iff.1 hu).1
  have hi : m / k < bs.length := (Nat.div_lt_iff_lt_mul h0).2 hm
  have hj : m % k < k := Nat.mod_lt _ h0
  have e : m / k * k + m % k = m := Nat.div_add_mod' m k
  have := h _ hi _ hj
  rw [e] at this
  rw [this, ← flat_at hk hi hj, e, hu]
end

/-- A block behind a store into it. -/
theorem set_block {w : World} {g i : Nat} {cs : Array Value} {t : TypeId} {fr : Nat × Nat} (u : Value) (h : w.heap[g]? = some (.cells cs t fr)) : (w.setCell ⟨g, i, none⟩ u).heap[g]? = some (.cells (cs.setIfInBounds i u) t fr) := by
  have hlt := lt_of_block h
  have h' : w.heap[g] = .cells cs t fr := by simpa [Array.getElem?_eq_getElem hlt] using h
  show (w.heap.modify g _)[g]? = _
  rw [Array.getElem?_eq_getElem (by simpa using hlt), Array.getElem_modify_self, h']
  rfl
theorem set_other {w : World} {g b i : Nat} (u : Value) (h : b ≠ g) : (w.setCell ⟨g, i, none⟩ u).heap[b]? = w.heap[b]? := Below.heap_setCell _ _ _ _ h
theorem set3_block {w : World} {g : Nat} {a b c : Value} {t : TypeId} {fr : Nat × Nat} (x y z : Value) (h : w.heap[g]? = some (.cells #[a, b, c] t fr)) :
    (((w.setCell ⟨g, 0, none⟩ x).setCell ⟨g, 1, none⟩ y).setCell ⟨g, 2, none⟩ z).heap[g]? = some (.cells #[x, y, z] t fr) := set_block z (set_block y (set_block x h))
end Go.Cat
