/- Growing and cutting back, plain. No condition. -/
import Derived.Test.YtkeebkackbkfhaaInoCutV
import Derived.Test.YtkeebkackbkfhaaInoMakes
namespace Go.Cat.Ino
open Go.RowKit Go.Cat
theorem lastE_snoc (acc : List Ext) (e : Ext) : lastE (acc ++ [e]) = e := by unfold lastE; simp [List.getLastD_eq_getLast?]
theorem bump_snoc (acc : List Ext) (s l : Int) : bump (acc ++ [(s, l)]) = acc ++ [(s, l + 1)] := by
  unfold bump
  rw [lastE_snoc, List.dropLast_concat]
theorem fold_bTo {acc : List Ext} {s n : Int} (h0 : 0 ≤ s) (hs : s < 4096) (hno : ¬ goesOn acc s) : ∀ k : Nat, k < 8 → (bTo (s, n) (k + 1)).foldl stepE acc = acc ++ [(s, (k : Int) + 1)]
  | 0, _ => by
    have e : bTo (s, n) 1 = [s] := by
      rw [bTo_succ]
      show [bAt (s, n) 0] = [s]
      have : bAt (s, n) 0 = s := by unfold bAt; show wrap64 (s + ((0 : Nat) : Int)) = s; rw [wrap_self (by omega)]; omega
      rw [this]
    rw [e]
    show stepE acc s = _
    rw [step_not hno]
    rfl
  | k + 1, hk => by
    rw [bTo_succ, List.foldl_append, fold_bTo h0 hs hno k (by omega)]
    show stepE (acc ++ [(s, (k : Int) + 1)]) (bAt (s, n) (k + 1)) = _
    rw [step_yes, bump_snoc]
    · congr 3
    · refine ⟨by simp, ?_, ?_⟩
      · rw [lastE_snoc]; rfl
      · rw [lastE_snoc]; show (k : Int) + 1 < 8; omega
theorem fold_blk {acc : List Ext} {e : Ext} (he : InE e) (hno : ¬ goesOn acc e.1) : (blk e).foldl stepE acc = acc ++ [e] := by
  have h1 := he.right.1
  have h2 := he.right.2
  rw [blk_yes he.right]
  obtain ⟨k, hk⟩ : ∃ k : Nat, e.2.toNat = k + 1 := ⟨e.2.toNat - 1, by omega⟩
  rw [hk]
  have h := fold_bTo (n := e.2) he.s0 he.s1 hno k (by omega)
  rw [show (e.1, e.2) = e from rfl] at h
  rw [h]
  congr 2
  show (e.1, (k : Int) + 1) = e
  have : (k : Int) + 1 = e.2 := by omega
  rw [this]
theorem exts_blks {xs : List Ext} (h : fineP xs) : exts (blks xs) = xs := by
  have key : ∀ k, k ≤ xs.length → exts (blksTo xs k) = xs.take k := by
    intro k
    induction k with
    | zero => intro _; rfl
    | succ k ih =>
      intro hk
      have hkx : k < xs.length := by omega
      have hok := h.1 k hkx xs[k] (List.getElem?_eq_getElem hkx)
      rw [blksTo_succ hkx]
      unfold exts
      rw [List.foldl_append]
      have hi : (blksTo xs k).foldl stepE [] = xs.take k := ih (by omega)
      rw [hi, fold_blk hok.1, List.take_succ_eq_append_getElem hkx]
      intro hg
      have hne := hg.1
      have hk0 : 0 < k := by
        rcases Nat.eq_zero_or_pos k with h0 | h0
        · subst h0; exact absurd (by simp) hne
        · exact h0
      have hk1 : k - 1 < xs.length := by omega
      have hl : lastE (xs.take k) = xs[k - 1] := by
        have := last_at hne
        rw [List.length_take, Nat.min_eq_left (by omega), List.getElem?_take, if_pos (by omega), List.getElem?_eq_getElem hk1] at this
        injection this with this
        exact this.symm
      have hp := (h.1 (k - 1) hk1 xs[k - 1] (List.getElem?_eq_getElem hk1)).1
      have h2 := hg.2.1
      rw [hl, wrap_self (by have := hp.s0; have := hp.s1; have := hp.right.1; have := hp.right.2; omega)] at h2
      exact hok.2 hk0 xs[k - 1] (List.getElem?_eq_getElem hk1) h2
  have := key xs.length (Nat.le_refl _)
  rwa [blksTo_all, List.take_length] at this
theorem ofV_zero {m s : Int} {zs : List Int} (h : (ofV m s zs).2 = 0) : (m = 1 ∨ m = 2) ∧ checkI m s (exts zs) = 0 ∧ ofV m s zs = ((m, s, exts zs), 0) := by
  by_cases h1 : m ≠ 1 ∧ m ≠ 2
  · rw [ofV_mode h1] at h; cases h
  · have h2 : m = 1 ∨ m = 2 := by omega
    by_cases h3 : checkI m s (exts zs) = 0
    · exact ⟨h2, h3, ofV_ok h2 h3⟩
    · rw [ofV_err h2 h3] at h; exact absurd h h3
theorem ofV_none {m s : Int} {zs : List Int} (h : (ofV m s zs).2 ≠ 0) : (ofV m s zs).1 = (0, 0, []) := by
  by_cases h1 : m ≠ 1 ∧ m ≠ 2
  · rw [ofV_mode h1]
  · have h2 : m = 1 ∨ m = 2 := by omega
    by_cases h3 : checkI m s (exts zs) = 0
    · rw [ofV_ok h2 h3] at h; exact absurd rfl h
    · rw [ofV_err h2 h3]
theorem growV_none {m s size : Int} {xs : List Ext} {zs : List Int} (h : (growV m s xs size zs).2 ≠ 0) : (growV m s xs size zs).1 = (0, 0, []) := by
  by_cases h1 : checkI m s xs = 0
  · by_cases h2 : m = 0 ∨ size < s
    · rw [growV_state h1 h2]
    · rw [growV_ok h1 h2] at h ⊢; exact ofV_none h
  · rw [growV_err h1]
theorem back_law {m s size : Int} {xs : List Ext} {zs : List Int} (hz : ∀ z ∈ blks xs ++ zs, -9223372036854775808 ≤ z ∧ z ≤ 9223372036854775807) (h : (growV m s xs size zs).2 = 0) :
    ∃ gx, growV m s xs size zs = ((m, size, gx), 0) ∧ blks gx = blks xs ++ zs ∧ cutV m size gx s = ((m, s, xs), zs, 0) := by
  by_cases h1 : checkI m s xs = 0
  · by_cases h2 : m = 0 ∨ size < s
    · rw [growV_state h1 h2] at h; cases h
    · rw [growV_ok h1 h2] at h ⊢
      obtain ⟨hm, hc, ho⟩ := ofV_zero h
      have hb := (exts_ok hz).blks
      refine ⟨exts (blks xs ++ zs), ho, hb, ?_⟩
      have mb := check_zero h1
      have hs0 := mb.s0
      have hq : (need s).toNat = (blks xs).length := by have := mb.need; omega
      rw [cutV_ok hc (by omega) (by omega), hb, hq, List.take_left', List.drop_left']
      · rw [ofV_ok hm (by rw [exts_blks mb.fine]; exact h1), exts_blks mb.fine]
      · rfl
      · rfl
  · rw [growV_err h1] at h; exact absurd h h1
theorem back_exts {m s size : Int} {xs : List Ext} {zs : List Int} (_ : ∀ z ∈ blks xs ++ zs, -9223372036854775808 ≤ z ∧ z ≤ 9223372036854775807) (h : (growV m s xs size zs).2 = 0) : growV m s xs size zs = ((m, size, exts (blks xs ++ zs)), 0) := by
  by_cases h1 : checkI m s xs = 0
  · by_cases h2 : m = 0 ∨ size < s
    · rw [growV_state h1 h2] at h; cases h
    · rw [growV_ok h1 h2] at h ⊢
      exact (ofV_zero h).2.2
  · rw [growV_err h1] at h; exact absurd h h1
end Go.Cat.Ino
