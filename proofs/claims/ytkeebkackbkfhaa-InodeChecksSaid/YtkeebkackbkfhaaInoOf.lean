/- The contract of inode.Of. Condition: at most 1000000 blocks, each an int. -/
import Derived.Test.YtkeebkackbkfhaaInoTold
import Derived.Test.YtkeebkackbkfhaaInoExtW
namespace Go.Proofs.Ytkeebkackbkfhaa
open Go.RowKit Go.Shelf Go.Cat Go.Cat.Ino

theorem iof_bad (mode size : Int) (V : Value) (w : World) (h : mode ≠ 1 ∧ mode ≠ 2) :
    Calls Try.prog 9 #[.int .i64 mode, .int .i64 size, V] w fun e w' => e = .returned (.tuple #[iv 0 0 none 0 0, .int .i64 1]) ∧ Below w.heap.size w w' := by
  have d1 : (mode != 1) = true := by simpa using h.1
  have d2 : (mode != 2) = true := by simpa using h.2
  clear h
  go_enter Try.func9, Try.ntmps9
  go_wp2_with fail
  refine bodyPost_ret (ret_ii rfl (by rfl) (heap_alloc_new _ _)) rfl ?_
  exact ⟨rfl, (Below.refl _ _).alloc (Nat.le_refl _) _⟩

set_option maxRecDepth 100000 in
set_option maxHeartbeats 4000000 in
theorem iof_good (mode size : Int) (A : Option Addr) (zs : List Int) (c : Nat) (w : World) (hmo : mode = 1 ∨ mode = 2) (hb : Ints w A zs) (hz : ∀ z ∈ zs, -9223372036854775808 ≤ z ∧ z ≤ 9223372036854775807) (hl : zs.length ≤ 1000000) :
    Calls Try.prog 9 #[.int .i64 mode, .int .i64 size, .slice A zs.length c] w (ToldW (ofV mode size zs).1 (ofV mode size zs).2 w) := by
  obtain ⟨n, hn⟩ : ∃ n, n = zs.length := ⟨_, rfl⟩
  obtain ⟨m, hm⟩ : ∃ m, m = (exts zs).length := ⟨_, rfl⟩
  obtain ⟨V, hV⟩ : ∃ V, V = checkI mode size (exts zs) := ⟨_, rfl⟩
  have hb1 : Below w.heap.size w (w.alloc (.cells #[.int .i64 0, .int .i64 0, .slice none 0 0] 26)) := (Below.refl _ _).alloc (Nat.le_refl _) _
  have hle : (exts zs).length ≤ 1000000 := Nat.le_trans (exts_ok hz).len hl
  have p1 := extents_any A zs c (w.alloc (.cells #[.int .i64 0, .int .i64 0, .slice none 0 0] 26)) (Sees.below hb hb1) hz hl
  have p2 := fun A c W (h : Sees W A (erows (exts zs))) => icheck_any mode size A (exts zs) c W h (exts_in hz) hle
  rw [← hn, ← hm] at p1
  rw [← hm, ← hV] at p2
  have herr : V ≠ 0 → ofV mode size zs = ((0, 0, []), V) := fun h => by rw [hV] at h ⊢; exact ofV_err hmo h
  have hok : V = 0 → ofV mode size zs = ((mode, size, exts zs), 0) := fun h => by rw [hV] at h; exact ofV_ok hmo h
  rw [← hn]
  have P1 := Lib.hid p1
  have P2 := Lib.hid p2
  have HM := Lib.hid hm
  have HErr := Lib.hid herr
  have HOk := Lib.hid hok
  have HB1 := Lib.hid hb1
  clear hn hm hV hb1 hle p1 p2 herr hok hb hz hl
  go_enter Try.func9, Try.ntmps9
  have hd : (mode != 1) = false ∨ ((mode != 1) = true ∧ (mode != 2) = false) := by
    rcases hmo with rfl | rfl
    · exact .inl rfl
    · exact .inr ⟨rfl, rfl⟩
  clear hmo
  rcases hd with d1 | ⟨d1, d2⟩
  all_goals
    go_wp2_with fail
    refine (P1.out).mono ?_
    rintro e w2 ⟨A2, c2, rfl, hown, hB⟩
    have hr2 : w2.heap[w.heap.size]? = some (.cells #[.int .i64 0, .int .i64 0, .slice none 0 0] 26 (0, 0)) := (hB.block _ (by simp)).trans (heap_alloc_new _ _)
    have hB2 : Below w.heap.size w w2 := HB1.out.trans (hB.mono (by simp))
    simp at hown
    have HB2 := Lib.hid hB2
    have HR2 := Lib.hid hr2
    have HS2 := Lib.hid hown
    clear hB hr2 hB2 hown
    go_wp2_with fail
    obtain ⟨W3, hW3⟩ : ∃ W3, W3 = w2.alloc (.cells #[.int .i64 mode, .int .i64 size, .slice A2 m c2] 26) := ⟨_, rfl⟩
    rw [← hW3]
    have hb3 : Below w2.heap.size w2 W3 := by rw [hW3]; exact (Below.refl _ _).alloc (Nat.le_refl _) _
    have hx3 : W3.heap[w2.heap.size]? = some (.cells #[.int .i64 mode, .int .i64 size, .slice A2 m c2] 26 (0, 0)) := by rw [hW3]; exact heap_alloc_new _ _
    have hlt3 : w.heap.size < w2.heap.size := (Array.getElem?_eq_some_iff.1 HR2.out).1
    have hr3 := (hb3.block _ hlt3).trans HR2.out
    refine (P2.out A2 c2 W3 (ownN_sees (own_below HS2.out hb3))).mono ?_
    rintro e w4 ⟨rfl, hb4⟩
    have hlx : w2.heap.size < W3.heap.size := (Array.getElem?_eq_some_iff.1 hx3).1
    have hx4 := (hb4.block _ hlx).trans hx3
    have hr4 := (hb4.block _ (by omega)).trans hr3
    have m0 := cell_of_row w4 _ 0 _ _ _ hx4
    have m1 := cell_of_row w4 _ 1 _ _ _ hx4
    have m2 := cell_of_row w4 _ 2 _ _ _ hx4
    have r0 := cell_of_row w4 _ 0 _ _ _ hr4
    have r1 := cell_of_row w4 _ 1 _ _ _ hr4
    have r2 := cell_of_row w4 _ 2 _ _ _ hr4
    have g0 := frozen_of_row w4 _ 0 _ _ hr4
    have g1 := frozen_of_row w4 _ 1 _ _ hr4
    have g2 := frozen_of_row w4 _ 2 _ _ hr4
    simp at m0 m1 m2 r0 r1 r2
    have hB4 : Below w.heap.size w w4 := (HB2.out.trans (hb3.mono (by omega))).trans (hb4.mono (by omega))
    have hs4 := own_below (own_below HS2.out hb3) hb4
    have HB4 := Lib.hid hB4
    have HS4 := Lib.hid hs4
    have HR4 := Lib.hid hr4
    clear hW3 hb3 hx3 hr3 hb4 hx4 hr4 hB4 hs4 HB2 HR2 HS2 P1 P2
    by_cases hv : V = 0
    · have d : (V != 0) = false := by simpa using hv
      have HE := Lib.hid (HOk.out hv)
      subst hv
      go_wp2_with fail
      refine bodyPost_ret (ret_ii rfl (by rfl) (set3_block _ _ _ HR4.out)) rfl ?_
      rw [HE.out]
      exact ⟨A2, c2, by rw [← HM.out]; rfl, ownN_sees (own_set3 HS4.out (Nat.lt_succ_self _) _ _ _), fun a ha => Nat.le_of_succ_le (own_addr HS4.out a ha), below_set3 HB4.out (Nat.le_refl _) _ _ _⟩
    · have d : (V != 0) = true := by simpa using hv
      have HE := Lib.hid (HErr.out hv)
      clear hv
      go_wp2_with fail
      refine bodyPost_ret (ret_ii rfl (by rfl) (set3_block _ _ _ HR4.out)) rfl ?_
      rw [HE.out]
      exact ToldW.none_ _ (below_set3 HB4.out (Nat.le_refl _) _ _ _)

theorem iof_new (mode size : Int) (A : Option Addr) (zs : List Int) (c : Nat) (w : World) (hb : Ints w A zs) (hz : ∀ z ∈ zs, -9223372036854775808 ≤ z ∧ z ≤ 9223372036854775807) (hl : zs.length ≤ 1000000) :
    Calls Try.prog 9 #[.int .i64 mode, .int .i64 size, .slice A zs.length c] w (ToldW (ofV mode size zs).1 (ofV mode size zs).2 w) := by
  by_cases h : mode ≠ 1 ∧ mode ≠ 2
  · rw [ofV_mode h]
    exact (iof_bad mode size _ w h).mono fun e w' ⟨h1, h2⟩ => by rw [h1]; exact ToldW.none_ 1 h2
  · exact iof_good mode size A zs c w (by omega) hb hz hl
theorem iof_any (mode size : Int) (A : Option Addr) (zs : List Int) (c : Nat) (w : World) (hb : Ints w A zs) (hz : ∀ z ∈ zs, -9223372036854775808 ≤ z ∧ z ≤ 9223372036854775807) (hl : zs.length ≤ 1000000) :
    Calls Try.prog 9 #[.int .i64 mode, .int .i64 size, .slice A zs.length c] w (ToldI (ofV mode size zs).1 (ofV mode size zs).2 w) :=
  (iof_new mode size A zs c w hb hz hl).mono fun _ _ h => h.told
end Go.Proofs.Ytkeebkackbkfhaa
