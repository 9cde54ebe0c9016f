/- The extents of blocks: plain. No condition. -/
import Derived.Test.YtjdpljhhlmcbaaaInoCheckV
namespace Go.Cat.Ino
open Go.RowKit Go.Cat
/-- The last extent. -/
def lastE (acc : List Ext) : Ext := acc.getLastD (0, 0)
/-- Does a block go on with the last extent? -/
def goesOn (acc : List Ext) (b : Int) : Prop := acc ≠ [] ∧ b = wrap64 ((lastE acc).1 + (lastE acc).2) ∧ (lastE acc).2 < 8
/-- The last extent with one more. -/
def bump (acc : List Ext) : List Ext := acc.dropLast ++ [((lastE acc).1, (lastE acc).2 + 1)]
open Classical in
noncomputable def stepE (acc : List Ext) (b : Int) : List Ext := if goesOn acc b then bump acc else acc ++ [(b, 1)]
noncomputable def extTo (zs : List Int) (k : Nat) : List Ext := (zs.take k).foldl stepE []
noncomputable def exts (zs : List Int) : List Ext := zs.foldl stepE []
theorem step_yes {acc : List Ext} {b : Int} (h : goesOn acc b) : stepE acc b = bump acc := by unfold stepE; rw [if_pos h]
theorem step_not {acc : List Ext} {b : Int} (h : ¬ goesOn acc b) : stepE acc b = acc ++ [(b, 1)] := by unfold stepE; rw [if_neg h]
theorem extTo_succ {zs : List Int} {k : Nat} (h : k < zs.length) : extTo zs (k + 1) = stepE (extTo zs k) zs[k] := by
  unfold extTo
  rw [List.take_succ_eq_append_getElem h, List.foldl_append]
  rfl
theorem extTo_all (zs : List Int) : extTo zs zs.length = exts zs := by unfold extTo exts; rw [List.take_length]
theorem split_last {acc : List Ext} (h : acc ≠ []) : acc = acc.dropLast ++ [lastE acc] := by
  unfold lastE
  rw [List.getLastD_eq_getLast?, List.getLast?_eq_some_getLast h]
  exact (List.dropLast_concat_getLast h).symm
theorem bump_length {acc : List Ext} (h : acc ≠ []) : (bump acc).length = acc.length := by
  unfold bump
  rw [List.length_append, List.length_dropLast]
  have := List.length_pos_iff.2 h
  simp
  omega
theorem last_at {acc : List Ext} (h : acc ≠ []) : acc[acc.length - 1]? = some (lastE acc) := by
  unfold lastE
  rw [List.getLastD_eq_getLast?, List.getLast?_eq_getElem?]
  have := List.length_pos_iff.2 h
  rw [List.getElem?_eq_getElem (by omega)]
  rfl
theorem bump_rows {acc : List Ext} (h : acc ≠ []) : erows (bump acc) = (erows acc).set ((acc.length - 1) * 2 + 1) (.int .i64 ((lastE acc).2 + 1)) := by
  have hl := List.length_pos_iff.2 h
  have h1 := split_last h
  have h2 : erows acc = erows acc.dropLast ++ ecells (lastE acc) := by
    conv => lhs; rw [h1]
    exact erows_snoc _ _
  have h3 : (erows acc.dropLast).length = (acc.length - 1) * 2 := by rw [erows_length, List.length_dropLast]
  rw [h2, List.set_append_right _ _ (by rw [h3]; exact Nat.le_succ _), h3]
  unfold bump
  rw [erows_snoc]
  congr 1
  rw [show (acc.length - 1) * 2 + 1 - (acc.length - 1) * 2 = 1 by omega]
  rfl
/-- What holds of the extents of blocks. -/
structure ExOk (acc : List Ext) (zs : List Int) : Prop where
  right : ∀ e ∈ acc, rightE e
  wide : ∀ e ∈ acc, -9223372036854775808 ≤ e.1 ∧ e.1 ≤ 9223372036854775807
  blks : blks acc = zs
  len : acc.length ≤ zs.length
theorem wrap_self {z : Int} (h : -9223372036854775808 ≤ z ∧ z ≤ 9223372036854775807) : wrap64 z = z := IntWalk.wrap64_in z h
theorem blk_one {b : Int} (h : -9223372036854775808 ≤ b ∧ b ≤ 9223372036854775807) : blk (b, 1) = [b] := by
  unfold blk
  rw [if_pos ⟨Int.le_refl 1, by show (1 : Int) ≤ 8; decide⟩]
  show (List.range 1).map (bAt (b, 1)) = [b]
  simp [bAt, wrap_self h]
theorem blk_more {s n : Int} (h0 : 1 ≤ n) (h : n < 8) : blk (s, n + 1) = blk (s, n) ++ [wrap64 (s + n)] := by
  have e : (n + 1).toNat = n.toNat + 1 := by omega
  unfold blk
  rw [if_pos ⟨by show 1 ≤ n + 1; omega, by show n + 1 ≤ 8; omega⟩, if_pos ⟨h0, by show n ≤ 8; omega⟩]
  show bTo (s, n + 1) (n + 1).toNat = bTo (s, n) n.toNat ++ [_]
  rw [e]
  have : ∀ k, bTo (s, n + 1) k = bTo (s, n) k := fun k => rfl
  rw [this, bTo_succ]
  congr 2
  unfold bAt
  show wrap64 (s + ((n.toNat : Nat) : Int)) = _
  rw [show ((n.toNat : Nat) : Int) = n by omega]
theorem exOk_step {acc : List Ext} {zs : List Int} {b : Int} (h : ExOk acc zs) (hb : -9223372036854775808 ≤ b ∧ b ≤ 9223372036854775807) : ExOk (stepE acc b) (zs ++ [b]) := by
  by_cases hg : goesOn acc b
  · rw [step_yes hg]
    obtain ⟨h1, h2, h3⟩ := hg
    have hs := split_last h1
    have hlm : lastE acc ∈ acc := List.mem_of_getElem? (last_at h1)
    have hr := h.right _ hlm
    refine ⟨fun e he => ?_, fun e he => ?_, ?_, ?_⟩
    · rcases List.mem_append.1 he with h4 | h4
      · exact h.right e (List.dropLast_subset _ h4)
      · rw [List.mem_singleton.1 h4]; exact ⟨by show 1 ≤ (lastE acc).2 + 1; have := hr.1; omega, by show (lastE acc).2 + 1 ≤ 8; omega⟩
    · rcases List.mem_append.1 he with h4 | h4
      · exact h.wide e (List.dropLast_subset _ h4)
      · rw [List.mem_singleton.1 h4]; exact h.wide (lastE acc) hlm
    · have h5 := h.blks
      rw [hs] at h5
      unfold Ino.blks at h5 ⊢
      unfold bump
      rw [List.flatMap_append] at h5 ⊢
      simp only [List.flatMap_cons, List.flatMap_nil, List.append_nil] at h5 ⊢
      rw [blk_more hr.1 h3, ← List.append_assoc, h5, ← h2]
    · rw [bump_length h1, List.length_append]
      have := h.len
      omega
  · rw [step_not hg]
    refine ⟨fun e he => ?_, fun e he => ?_, ?_, ?_⟩
    · rcases List.mem_append.1 he with h4 | h4
      · exact h.right e h4
      · rw [List.mem_singleton.1 h4]; exact ⟨Int.le_refl 1, by show (1 : Int) ≤ 8; decide⟩
    · rcases List.mem_append.1 he with h4 | h4
      · exact h.wide e h4
      · rw [List.mem_singleton.1 h4]; exact hb
    · unfold Ino.blks
      rw [List.flatMap_append]
      simp only [List.flatMap_cons, List.flatMap_nil, List.append_nil]
      rw [blk_one hb]
      exact congrArg (· ++ [b]) h.blks
    · rw [List.length_append, List.length_append]
      have := h.len
      simp
      omega
theorem extTo_ok {zs : List Int} (hz : ∀ z ∈ zs, -9223372036854775808 ≤ z ∧ z ≤ 9223372036854775807) : ∀ k, k ≤ zs.length → ExOk (extTo zs k) (zs.take k)
  | 0, _ => ⟨fun e he => by simp [extTo] at he, fun e he => by simp [extTo] at he, rfl, by simp [extTo]⟩
  | k + 1, hk => by
    have h1 := extTo_ok hz k (by omega)
    rw [extTo_succ (by omega), List.take_succ_eq_append_getElem (by omega)]
    exact exOk_step h1 (hz _ (List.getElem_mem _))
theorem exts_ok {zs : List Int} (hz : ∀ z ∈ zs, -9223372036854775808 ≤ z ∧ z ≤ 9223372036854775807) : ExOk (exts zs) zs := by
  have := extTo_ok hz zs.length (Nat.le_refl _)
  rwa [extTo_all, List.take_length] at this
/-- The last block is the one ahead of what the last extent waits for. -/
theorem next_last {acc : List Ext} {zs : List Int} (h : ExOk acc zs) (hne : acc ≠ []) (hz : zs ≠ []) : wrap64 (zs.getLast hz + 1) = wrap64 ((lastE acc).1 + (lastE acc).2) := by
  have hs := split_last hne
  have hlm : lastE acc ∈ acc := List.mem_of_getElem? (last_at hne)
  have hr := h.right _ hlm
  have h5 := h.blks
  rw [hs] at h5
  unfold Ino.blks at h5
  rw [List.flatMap_append] at h5
  simp only [List.flatMap_cons, List.flatMap_nil, List.append_nil] at h5
  rw [blk_yes hr] at h5
  obtain ⟨n, hn⟩ : ∃ n : Nat, (lastE acc).2.toNat = n + 1 := ⟨(lastE acc).2.toNat - 1, by have := hr.1; omega⟩
  rw [hn, bTo_succ, ← List.append_assoc] at h5
  have h6 : zs.getLast hz = bAt (lastE acc) n := by
    have h7 : zs.getLast? = some (bAt (lastE acc) n) := by rw [← h5]; simp
    rw [List.getLast?_eq_some_getLast hz] at h7
    injection h7
  rw [h6]
  unfold bAt wrap64
  have h8 := hr.1
  omega
/-- No blocks just where there are no extents. -/
theorem ok_nil {acc : List Ext} {zs : List Int} (h : ExOk acc zs) : acc = [] ↔ zs = [] := by
  constructor
  · intro e
    have := h.blks
    rw [e] at this
    exact this.symm
  · intro e
    have := h.len
    rw [e] at this
    exact List.eq_nil_of_length_eq_zero (by simpa using this)
end Go.Cat.Ino
