/- A row of elements of k cells that the call itself made, ahead of and behind slices.SortFunc. No condition. -/
import Derived.Test.YtjdpljhhlmcbaaaFlat
import Derived.Shelf.GgSortFunc.InsertionK
import Derived.Sort.OwnSorted
namespace Go.Cat
open Go.RowKit Go.Sort Go.Proofs
section
variable {α : Type} [Inhabited α] {enc : α → List Value} {k : Nat} {w : World} {base : Nat} {e : TypeId}

theorem flatK_list (hk : ∀ x, (enc x).length = k) (d : Array α) : (flatK enc k d).toList = d.toList.flatMap enc := by
  apply List.ext_getElem?
  intro t
  by_cases ht : t < d.size * k
  · have k0 : 0 < k := by rcases Nat.eq_zero_or_pos k with h | h; · subst h; simp at ht
                          · exact h
    have hi : t / k < d.size := Nat.div_lt_of_lt_mul (by rw [Nat.mul_comm]; exact ht)
    have hj : t % k < k := Nat.mod_lt _ k0
    have ht2 : t = t / k * k + t % k := by rw [Nat.mul_comm]; exact (Nat.div_add_mod t k).symm
    have h2 := flat_at hk (bs := d.toList) (i := t / k) (j := t % k) (by simpa using hi) hj
    rw [← ht2] at h2
    rw [h2, Array.getElem?_toList, Array.getElem?_eq_getElem (by simpa using ht)]
    have hg := get_flatK enc k d t ht
    rw [getElem!_pos (flatK enc k d) t (by simpa using ht)] at hg
    rw [hg, getElem!_pos d _ hi, List.getElem?_eq_getElem (by rw [hk]; exact hj)]
    simp only [Array.getElem_toList]
    rw [getElem!_pos _ _ (by rw [hk]; exact hj)]
  · rw [List.getElem?_eq_none (by simp; omega), List.getElem?_eq_none (by rw [flat_length hk]; simpa using ht)]

omit [Inhabited α] in
theorem size_flat (hk : ∀ x, (enc x).length = k) (d : Array α) : (d.toList.flatMap enc).length = d.size * k := by rw [flat_length hk]; simp

theorem holds_own {g n : Nat} {cur : Array Value} (hk : ∀ x, (enc x).length = k) {l : List α} (hb : w.heap[g]? = some (.cells cur e (0, 0))) (hn : n = l.length) (h : cur.toList.take (n * k) = l.flatMap enc) : HoldsK enc k w g 0 l.toArray := by
  intro j hj
  rw [size_flatK] at hj
  have hj' : j < n * k := by rw [hn]; simpa using hj
  refine ⟨?_, by simp [World.frozen?, hb]⟩
  have hl := flatK_list hk l.toArray
  have h1 : (cur.toList.take (n * k))[j]? = (l.flatMap enc)[j]? := by rw [h]
  rw [List.getElem?_take_of_lt hj'] at h1
  have h2 : (l.flatMap enc)[j]? = some (flatK enc k l.toArray)[j]! := by
    rw [show l.flatMap enc = (flatK enc k l.toArray).toList by rw [hl]]
    rw [Array.getElem?_toList, getElem!_pos _ _ (by rw [size_flatK]; exact hj), Array.getElem?_eq_getElem]
  rw [h2, Array.getElem?_toList] at h1
  simp only [World.cell?, hb, Nat.zero_add, Option.isSome_none, Bool.false_eq_true, if_false]
  rw [h1]
  rfl

/-- Behind the sort: the world is the old one but for the row and new blocks, and the same slice owns what the row holds now. -/
theorem own_sortK {A : Option Addr} {c : Nat} {l : List α} (hk : ∀ x, (enc x).length = k) (ho : w.ownsRow base e k (.slice A l.length c) l.length (l.flatMap enc)) (hp : 0 < l.length) :
    ∃ g, A = some ⟨g, 0, none⟩ ∧ base ≤ g ∧ g < w.heap.size ∧ HoldsK enc k w g 0 l.toArray ∧
      ∀ (d' : Array α) (n : Nat) (os : Array Obj), d'.size = l.length → (sortWorldK enc k w g 0 n d' os).ownsRow base e k (.slice A l.length c) l.length (d'.toList.flatMap enc) ∧ w.grownBy (sortWorldK enc k w g 0 n d' os) (some g) := by
  rcases ho.2 with ⟨_, h0⟩ | ⟨g, cap, cur, hv, hg, hb, h1, h2, h3, h4⟩
  · omega
  · injection hv with hA hn hc
    subst hA hc
    have hgl : g < w.heap.size := (Array.getElem?_eq_some_iff.1 hb).1
    refine ⟨g, rfl, hg, hgl, holds_own hk hb rfl h4, fun d' n os hd => ?_⟩
    have hblk : (sortWorldK enc k w g 0 n d' os).heap[g]? = some (.cells (putCells id 0 (flatK enc k d') cur) e (0, 0)) := by
      unfold sortWorldK
      rw [heap_grow_old _ _ (by simpa [putRowK, putRow, mapBlock, Sort.ahead] using hgl)]
      simp [putRowK, putRow, mapBlock, Sort.ahead, Array.getElem?_modify, hb, onCells]
    have hle : l.length * k ≤ c * k := Nat.mul_le_mul_right k h1
    refine ⟨⟨by rw [size_flat hk, hd], .inr ⟨g, c, _, rfl, hg, hblk, h1, h2, by simp [putCells, h3], ?_⟩⟩, ?_⟩
    · rw [← flatK_list hk]
      apply List.ext_getElem?
      intro j
      by_cases hj : j < l.length * k
      · rw [List.getElem?_take_of_lt hj, Array.getElem?_toList, Array.getElem?_toList]
        have hj2 : j < (flatK enc k d').size := by rw [size_flatK, hd]; exact hj
        simp only [putCells, Array.getElem?_mapIdx]
        rw [Array.getElem?_eq_getElem (show j < cur.size by omega), Option.map_some, if_pos ⟨Nat.zero_le _, by omega⟩, Nat.sub_zero, getElem!_pos (flatK enc k d') j hj2, Array.getElem?_eq_getElem hj2]
        rfl
      · rw [List.getElem?_take_eq_none (by omega), List.getElem?_eq_none (by simp [hd]; omega)]
    · refine ⟨rfl, rfl, rfl, ?_, fun j hj hne => ?_⟩
      · unfold sortWorldK
        simp [putRowK, putRow, mapBlock, Sort.ahead]
      · unfold sortWorldK
        rw [heap_grow_old _ _ (by simpa [putRowK, putRow, mapBlock, Sort.ahead] using hj)]
        have : g ≠ j := fun e => hne (by rw [e])
        simp [putRowK, putRow, mapBlock, Sort.ahead, Array.getElem?_modify, this]
end
end Go.Cat
