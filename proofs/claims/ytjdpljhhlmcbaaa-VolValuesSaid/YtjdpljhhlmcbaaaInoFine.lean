/- slices.Sorted of an inode's blocks; whether blocks are all apart: plain. Condition: at most 1000000 extents. -/
import Derived.Test.YtjdpljhhlmcbaaaInoCollect
import Derived.Test.YtjdpljhhlmcbaaaInoShelf
import Derived.Lib.SlKeysI
import Derived.Lib.SlicesCompact
import Derived.Lib.RowBridge
namespace Go.Cat.Ino
open Go.RowKit Go.Cat
abbrev ltI : Int → Int → Bool := fun x y => decide (x ≤ y)
theorem sort_le (l : List Int) : (l.mergeSort ltI).Pairwise (· ≤ ·) := by
  have h := List.pairwise_mergeSort (le := ltI) (fun a b c => by simp [ltI]; omega) (fun a b => by simp [ltI]; omega) l
  exact h.imp (fun h => by simpa [ltI] using h)
theorem nodup_sort (l : List Int) : (l.mergeSort ltI).Nodup ↔ l.Nodup := (List.mergeSort_perm l ltI).nodup_iff
theorem keeps_iff (d : List Int) (j : Nat) (_ : j < d.length) : Lib.keeps d.toArray j = true ↔ j = 0 ∨ d[j]! ≠ d[j - 1]! := by
  unfold Lib.keeps
  simp
theorem compact_len {d : List Int} (hs : d.Pairwise (· ≤ ·)) : (Lib.compact d).length = d.length ↔ d.Nodup := by
  constructor
  · intro h
    have hall : ∀ j, j < d.length → Lib.keeps d.toArray j = true := by
      unfold Lib.compact Lib.compactUpTo at h
      rw [List.length_map] at h
      have h2 := List.filter_eq_self (p := Lib.keeps d.toArray) (l := List.range d.length)
      have h3 : (List.range d.length).filter (Lib.keeps d.toArray) = List.range d.length := List.filter_sublist.eq_of_length (by rw [h, List.length_range])
      intro j hj
      exact h2.1 h3 j (List.mem_range.2 hj)
    rw [List.nodup_iff_pairwise_ne, List.pairwise_iff_getElem]
    intro i j hi hj hij he
    rw [List.pairwise_iff_getElem] at hs
    have h1 := (keeps_iff d (i + 1) (by omega)).1 (hall (i + 1) (by omega))
    have h2 : d[i + 1]! ≠ d[i]! := by
      rcases h1 with h1 | h1
      · omega
      · simpa using h1
    rw [getElem!_pos d (i + 1) (by omega), getElem!_pos d i (by omega)] at h2
    have h3 : d[i] ≤ d[i + 1] := hs i (i + 1) (by omega) (by omega) (by omega)
    have h4 : d[i + 1] ≤ d[j] := by
      rcases Nat.lt_or_ge (i + 1) j with h5 | h5
      · exact hs (i + 1) j (by omega) hj h5
      · have : j = i + 1 := by omega
        subst this; exact Int.le_refl _
    omega
  · intro h
    rw [Lib.compact_all d ?_]
    intro j hj
    rw [keeps_iff d j hj]
    by_cases h0 : j = 0
    · exact .inl h0
    · right
      rw [getElem!_pos d j hj, getElem!_pos d (j - 1) (by omega)]
      rw [List.nodup_iff_pairwise_ne, List.pairwise_iff_getElem] at h
      exact (h (j - 1) j (by omega) hj (by omega)).symm
end Go.Cat.Ino
namespace Go.Proofs.Ytjdpljhhlmcbaaa
open Go.RowKit Go.Shelf Go.Cat Go.Cat.Ino

theorem sortints_any (A : Option Addr) (zs : List Int) (c base : Nat) (w : World) (ho : w.ownsRow base 3 1 (.slice A zs.length c) zs.length (zs.map i64)) (hn : zs.length ≤ 100000000) (hbase : base ≤ w.heap.size) :
    Calls Try.prog 92 #[.slice A zs.length c] w fun e w' => (∃ v, e = .returned v) ∧ w'.ownsRow base 3 1 (.slice A zs.length c) zs.length ((zs.mergeSort ltI).map i64) ∧ Below base w w' ∧ w.heap.size ≤ w'.heap.size := by
  rcases ho.2 with ⟨hv, h0⟩ | ⟨g, cap, cur, hv, hb, hh, r1, r2, r3, r4⟩
  · have hz : zs = [] := List.eq_nil_of_length_eq_zero h0
    subst hz
    injection hv with hA _ hc
    subst hA hc
    refine (Try.slices_Sort_int_none none 0 w).mono ?_
    rintro e w' ⟨rfl, rfl⟩
    exact ⟨⟨_, rfl⟩, by simpa using ho, Below.refl _ _, Nat.le_refl _⟩
  · injection hv with hA _ hc
    subst hA hc
    have hH : Sort.Holds (Value.int .i64) w g 0 zs.toArray := holds_of_block_i hh (by rw [Nat.mul_one] at r4; exact r4)
    refine (Try.slices_Sort_int g 0 c zs w hH (Array.getElem?_eq_some_iff.1 hh).1 (by omega)).mono ?_
    rintro e w' ⟨rfl, n, os, rfl⟩
    have hg := grownBy_sorted_i (w := w) (g := g) (n := n) (os := os) (zs.mergeSort ltI).toArray
    exact ⟨⟨_, rfl⟩, ownsRow_sorted_i (by simp) hb hh r1 r2 r3, ⟨hg.os, hg.tape, hg.output, hg.size, fun k hk => hg.block k (by omega) (fun e => by injection e with e; omega)⟩, hg.size⟩

theorem sorted_any (Bl : Nat) (A : Option Addr) (xs : List Ext) (c : Nat) (hL : xs.length ≤ 1000000) (w : World) (hBl : Bl < w.heap.size) (hd : w.heap[Bl]? = some (.cells #[.slice A xs.length c] 57 (0, 0))) (hrow : Sees w A (erows xs)) :
    Calls Try.prog 87 #[.func (.func 93) #[] #[.pointer (some ⟨Bl, 0, none⟩)]] w (NewInts ((blks xs).mergeSort ltI) w) := by
  have P1 := Lib.hid (callsIn_wide.1 (collect_in 9 (by omega) Bl A xs c hL w hBl hd hrow))
  have hbl := blks_length xs
  clear hd hrow
  go_enter Try.func87, Try.ntmps87
  go_wp2_with fail
  refine (P1.out).mono ?_
  rintro e w1 ⟨A1, c1, rfl, ho, hB⟩
  have P2 := Lib.hid (sortints_any A1 (blks xs) c1 w.heap.size w1 ho (by omega) hB.size)
  have HB := Lib.hid hB
  clear ho hB
  go_wp2_with fail
  refine (P2.out).mono ?_
  rintro e w2 ⟨⟨v, rfl⟩, ho2, hB2, _⟩
  have HO2 := Lib.hid ho2
  have HB2 := Lib.hid (HB.out.trans hB2)
  clear ho2 hB2
  go_wp2_with fail
  go_ret
  have hl : ((blks xs).mergeSort ltI).length = (blks xs).length := List.length_mergeSort _
  exact ⟨A1, c1, ret_slice hl.symm, by rw [hl]; exact HO2.out, HB2.out⟩
end Go.Proofs.Ytjdpljhhlmcbaaa
