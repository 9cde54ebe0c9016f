/- Extents and inodes: plain; and how they lie in memory. No condition. -/
import Derived.Test.YtjdpljhhlmcbaaaTch
import Derived.Test.YtjdpljhhlmcbaaaHeap
import Derived.WalkKit
namespace Go.Cat.Ino
open Go.RowKit Go.Cat
/-- An extent: its start, its length. -/
abbrev Ext := Int × Int
def ecells (e : Ext) : List Value := [.int .i64 e.1, .int .i64 e.2]
abbrev erows (xs : List Ext) : List Value := xs.flatMap ecells
theorem erows_length (xs : List Ext) : (erows xs).length = xs.length * 2 := flat_length (f := ecells) (k := 2) (fun _ => rfl) xs
theorem erows_snoc (xs : List Ext) (e : Ext) : erows (xs ++ [e]) = erows xs ++ ecells e := by simp [erows]
theorem one_ecells (e : Ext) : ∀ u ∈ ecells e, u.oneCell' = true := by
  intro u hu
  simp [ecells] at hu
  rcases hu with rfl | rfl <;> rfl
theorem one_erows (xs : List Ext) : ∀ u ∈ erows xs, u.oneCell' = true := by
  intro u hu
  obtain ⟨r, _, h⟩ := List.mem_flatMap.1 hu
  exact one_ecells r u h
/-- Is an extent's length one? -/
def rightE (e : Ext) : Prop := 1 ≤ e.2 ∧ e.2 ≤ 8
/-- The block of an extent at a place; the first blocks; all of them. -/
def bAt (e : Ext) (j : Nat) : Int := wrap64 (e.1 + (j : Int))
def bTo (e : Ext) (j : Nat) : List Int := (List.range j).map (bAt e)
def blk (e : Ext) : List Int := if 1 ≤ e.2 ∧ e.2 ≤ 8 then bTo e e.2.toNat else []
def blksTo (xs : List Ext) (i : Nat) : List Int := (xs.take i).flatMap blk
def blks (xs : List Ext) : List Int := xs.flatMap blk
theorem blk_yes {e : Ext} (h : rightE e) : blk e = bTo e e.2.toNat := if_pos h
theorem blk_not {e : Ext} (h : ¬ rightE e) : blk e = [] := if_neg h
theorem bTo_succ (e : Ext) (j : Nat) : bTo e (j + 1) = bTo e j ++ [bAt e j] := by simp [bTo, List.range_succ]
theorem bTo_length (e : Ext) (j : Nat) : (bTo e j).length = j := by simp [bTo]
theorem blk_length_le (e : Ext) : (blk e).length ≤ 8 := by
  unfold blk
  split
  · rename_i h
    have := h.2
    rw [bTo_length]; omega
  · exact Nat.zero_le _
theorem blksTo_succ {xs : List Ext} {i : Nat} (h : i < xs.length) : blksTo xs (i + 1) = blksTo xs i ++ blk xs[i] := by
  unfold blksTo
  rw [List.take_succ_eq_append_getElem h, List.flatMap_append]
  simp
theorem blksTo_all (xs : List Ext) : blksTo xs xs.length = blks xs := by unfold blksTo blks; rw [List.take_length]
theorem blksTo_length (xs : List Ext) : ∀ i, (blksTo xs i).length ≤ i * 8
  | 0 => by unfold blksTo; simp
  | i + 1 => by
    by_cases h : i < xs.length
    · rw [blksTo_succ h, List.length_append]
      have h1 := blksTo_length xs i
      have h2 := blk_length_le xs[i]
      omega
    · have e : blksTo xs (i + 1) = blksTo xs i := by unfold blksTo; rw [List.take_of_length_le (by omega), List.take_of_length_le (by omega)]
      rw [e]
      have h1 := blksTo_length xs i
      omega
theorem blks_length (xs : List Ext) : (blks xs).length ≤ xs.length * 8 := by rw [← blksTo_all]; exact blksTo_length xs _
theorem blksTo_le (xs : List Ext) (i : Nat) : (blksTo xs i).length ≤ (blks xs).length := by
  have h : blks xs = blksTo xs i ++ (xs.drop i).flatMap blk := by unfold blks blksTo; rw [← List.flatMap_append, List.take_append_drop]
  rw [h, List.length_append]
  omega
theorem blks_at {xs : List Ext} {i : Nat} (h : i < xs.length) (hr : rightE xs[i]) {j : Nat} (hj : j < xs[i].2.toNat) : (blksTo xs i ++ bTo xs[i] j).length < (blks xs).length ∧ blksTo xs i ++ bTo xs[i] (j + 1) <+: blks xs := by
  have h1 := blksTo_succ h
  have h2 := blksTo_le xs (i + 1)
  have h3 : blks xs = blksTo xs (i + 1) ++ (xs.drop (i + 1)).flatMap blk := by unfold blks blksTo; rw [← List.flatMap_append, List.take_append_drop]
  rw [h1, blk_yes hr, List.length_append, bTo_length] at h2
  refine ⟨by rw [List.length_append, bTo_length]; omega, ?_⟩
  rw [h3, h1, blk_yes hr, List.append_assoc]
  have h4 : bTo xs[i] (j + 1) <+: bTo xs[i] xs[i].2.toNat := by
    refine ⟨((List.range xs[i].2.toNat).drop (j + 1)).map (bAt xs[i]), ?_⟩
    have : List.range (j + 1) = (List.range xs[i].2.toNat).take (j + 1) := by rw [List.take_range, Nat.min_eq_left hj]
    unfold bTo
    rw [this, ← List.map_append, List.take_append_drop]
  obtain ⟨t, ht⟩ := h4
  exact ⟨t ++ (xs.drop (i + 1)).flatMap blk, by rw [← ht]; simp [List.append_assoc]⟩
/-- A row's element, in a world. -/
theorem erows_at {w : World} {A : Option Addr} {xs : List Ext} (h : Sees w A (erows xs)) {k : Nat} (hk : k < xs.length) : ∃ b off, A = some ⟨b, off, none⟩ ∧ b < w.heap.size ∧
    w.cell? ⟨b, off + k * 2, none⟩ = some (.int .i64 xs[k].1) ∧ w.cell? ⟨b, off + k * 2 + 1, none⟩ = some (.int .i64 xs[k].2) := by
  obtain ⟨b, off, hA, hb, hc⟩ := h.elem (f := ecells) (k := 2) (fun _ => rfl) (by omega) (by omega)
  refine ⟨b, off, hA, hb, hc k hk 0 (by omega), ?_⟩
  rw [Nat.add_assoc]; exact hc k hk 1 (by omega)
end Go.Cat.Ino
