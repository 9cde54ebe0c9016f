/- The contracts of inode.Need and inode.Check. Condition: at most 1000000 extents, each start and length an int. -/
import Derived.Test.YtjdpljhhlmcbaaaInoFineW
import Derived.Deep.RegionWith
namespace Go.Proofs.Ytjdpljhhlmcbaaa
open Go.RowKit Go.Shelf Go.Cat Go.Cat.Ino

theorem need_any (size : Int) (w : World) (h0 : -9223372036854775808 ≤ size) (h1 : size ≤ 9223372036854775807) :
    Calls Try.prog 79 #[.int .i64 size] w fun e w' => e = .returned (.int .i64 (need size)) ∧ w = w' := by
  by_cases h : size ≤ 0
  · have hn : need size = 0 := by unfold need; rw [if_pos h]
    have d : decide (size ≤ 0) = true := by simpa using h
    rw [hn]
    clear hn
    go_enter Try.func79, Try.ntmps79
    go_wp2
    go_ret
    exact ⟨rfl, rfl⟩
  · have hn : need size = (size - 1) / 64 + 1 := by unfold need; rw [if_neg h]
    have d : decide (size ≤ 0) = false := by simpa using h
    have hp : 1 ≤ size := by omega
    have hq : 0 ≤ (size - 1) / 64 := by omega
    have hq2 : (size - 1) / 64 ≤ 9223372036854775806 := by omega
    rw [hn]
    clear hn
    go_enter Try.func79, Try.ntmps79
    go_wp2
    go_ret
    exact ⟨rfl, rfl⟩

/-- A boxed inode, in a later world. -/
structure IbS (H : Nat) (mode size : Int) (A : Option Addr) (xs : List Ext) (c : Nat) (w wr : World) : Prop where
  c0 : wr.cell? ⟨H, 0, none⟩ = some (.int .i64 mode)
  c1 : wr.cell? ⟨H, 1, none⟩ = some (.int .i64 size)
  c2 : wr.cell? ⟨H, 2, none⟩ = some (.slice A xs.length c)
  row : Sees wr A (erows xs)
  bel : Below w.heap.size w wr
theorem IbS.below {H : Nat} {mode size : Int} {A : Option Addr} {xs : List Ext} {c : Nat} {w wr w' : World} (h : IbS H mode size A xs c w wr) (hb : Below wr.heap.size wr w') : IbS H mode size A xs c w w' := by
  have g : H < wr.heap.size := World.block_lt_of_cell? _ _ h.c0
  exact ⟨(hb.cell (p := ⟨H, _, none⟩) g).trans h.c0, (hb.cell (p := ⟨H, _, none⟩) g).trans h.c1, (hb.cell (p := ⟨H, _, none⟩) g).trans h.c2, h.row.below hb, h.bel.trans (hb.mono h.bel.size)⟩
theorem IbS.new {mode size : Int} {A : Option Addr} {xs : List Ext} {c : Nat} {t : TypeId} {w : World} (h : Sees w A (erows xs)) : IbS w.heap.size mode size A xs c w (w.alloc (.cells #[.int .i64 mode, .int .i64 size, .slice A xs.length c] t)) := by
  have hb : Below w.heap.size w (w.alloc (.cells #[.int .i64 mode, .int .i64 size, .slice A xs.length c] t)) := (Below.refl _ _).alloc (Nat.le_refl _) _
  have hx := heap_alloc_new w (.cells #[.int .i64 mode, .int .i64 size, .slice A xs.length c] t)
  exact ⟨cell_of_row _ _ 0 _ _ _ hx, cell_of_row _ _ 1 _ _ _ hx, cell_of_row _ _ 2 _ _ _ hx, h.below hb, hb⟩

theorem blockslen_any (mode size : Int) (A : Option Addr) (xs : List Ext) (c : Nat) (W : World) (hs : Sees W A (erows xs)) (hL : xs.length ≤ 1000000) :
    Calls Try.prog 78 #[iv mode size A xs.length c] W fun e w' => ∃ A' c', e = .returned (.slice A' (blks xs).length c') ∧ Below W.heap.size W w' :=
  (blocks_any mode size A xs c W hs hL).mono fun _ _ ⟨A', c', h1, _, h3⟩ => ⟨A', c', h1, h3⟩

set_option maxRecDepth 100000 in
set_option maxHeartbeats 4000000 in
theorem icheck_zero (A : Option Addr) (c : Nat) (w : World) :
    Calls Try.prog 57 #[iv 0 0 A 0 c] w fun e w' => e = .returned (.int .i64 0) ∧ Below w.heap.size w w' := by
  have HS1 : Hid (IbS w.heap.size 0 0 A [] c w (w.alloc (.cells #[.int .i64 0, .int .i64 0, .slice A 0 c] 59)).drew) :=
    (IbS.new (mode := 0) (size := 0) (c := c) (t := 59) (xs := []) (.inl rfl)).below (Below.refl _ _).drew
  have hf : fineB [] = true := fine_yes ⟨fun i hi => absurd hi (Nat.not_lt_zero i), by simp [blks]⟩
  have p1 := fun W => fine_any A [] c W (.inl rfl) (fun e he => by cases he) (Nat.zero_le _)
  rw [hf] at p1
  have P1 := Lib.hid p1
  have P2 := Lib.hid (fun W => blockslen_any 0 0 A [] c W (.inl rfl) (Nat.zero_le _))
  have p3 := fun W => need_any 0 W (by omega) (by omega)
  rw [show need 0 = 0 from rfl] at p3
  have P3 := Lib.hid p3
  obtain ⟨c0, c1, c2, _, _⟩ := HS1.out
  clear p1 p3 hf
  go_enter Try.func57, Try.ntmps57
  go_wp2_with fail
  first | go_region_with (first
    | (go_at_call 77; refine (P1.out _).mono ?_; rintro e w2 ⟨rfl, h2⟩; obtain ⟨k0, k1, k2, _, _⟩ := HS1.out.below h2; have HS2 := Lib.hid (HS1.out.below h2))
    | (go_at_call 78; refine (P2.out _).mono ?_; rintro e w3 ⟨A3, c3, rfl, h3⟩; obtain ⟨j0, j1, j2, _, _⟩ := HS2.out.below h3; have HS3 := Lib.hid (HS2.out.below h3))
    | (go_at_call 79; refine (P3.out _).mono ?_; rintro e w4 ⟨rfl, rfl⟩)) | fail
  all_goals
    go_wp2
    go_ret
    exact ⟨rfl, HS3.out.bel⟩

set_option maxRecDepth 100000 in
set_option maxHeartbeats 8000000 in
theorem icheck_rest (mode size : Int) (A : Option Addr) (xs : List Ext) (c : Nat) (w : World) (hs : Sees w A (erows xs)) (hin : ∀ e ∈ xs, ExK e) (hn : xs.length ≤ 1000000) (hm0 : 1 ≤ mode) (hm1 : mode ≤ 2) (hz0 : 0 ≤ size) (hz1 : size ≤ 512) :
    Calls Try.prog 57 #[iv mode size A xs.length c] w fun e w' => e = .returned (.int .i64 (checkI mode size xs)) ∧ Below w.heap.size w w' := by
  obtain ⟨V, hV⟩ : ∃ V, V = checkI mode size xs := ⟨_, rfl⟩
  have HS := Lib.hid (IbS.new (mode := mode) (size := size) (c := c) (t := 59) hs)
  have HS1 := Lib.hid (HS.out.below (Below.refl _ _).drew)
  have P1 := Lib.hid (fun W (h : Sees W A (erows xs)) (hl : xs.length ≤ 100) => fine_any A xs c W h hin hl)
  have P2 := Lib.hid (fun W (h : Sees W A (erows xs)) => blockslen_any mode size A xs c W h hn)
  have P3 := Lib.hid (fun W => need_any size W (by omega) (by omega))
  obtain ⟨n, hnn⟩ : ∃ n, n = xs.length := ⟨_, rfl⟩
  obtain ⟨m, hm⟩ : ∃ m, m = (blks xs).length := ⟨_, rfl⟩
  obtain ⟨q, hq⟩ : ∃ q, q = need size := ⟨_, rfl⟩
  rw [← hV, ← hnn]
  rw [← hm] at P2
  rw [← hq] at P3
  rw [← hnn] at hn HS HS1 P1 P2
  have HN := Lib.hid hnn
  have HV := Lib.hid hV
  have HM := Lib.hid hm
  have HQ := Lib.hid hq
  have hb1 : Below w.heap.size w (w.alloc (.cells #[.int .i64 mode, .int .i64 size, .slice A n c] 59)) := (Below.refl _ _).alloc (Nat.le_refl _) _
  have HB1 := Lib.hid hb1
  have hc1 : ¬ (mode < 0 ∨ 2 < mode) := by omega
  have hc2 : ¬ 512 < size := by omega
  have hc3 : ¬ (size < 0 ∨ (mode = 0 ∧ (0 < size ∨ 0 < xs.length))) := by omega
  have C1 := Lib.hid hc1
  have C2 := Lib.hid hc2
  have C3 := Lib.hid hc3
  have d0 : (mode == 0) = false := by simp; omega
  clear hnn hV hs hin hb1 hm hq hc1 hc2 hc3
  by_cases h8 : 8 < n
  · have hv : V = 4 := by rw [HV.out]; exact check_no C1.out C2.out (fun h => by have := h.1; rw [← HN.out] at this; omega)
    have d5 : decide ((8 : Int) < (n : Int)) = true := by simp; omega
    have d5' : decide (8 < n) = true := by simpa using h8
    subst hv
    clear h8
    go_enter Try.func57, Try.ntmps57
    go_wp2
    go_quiet (fail)
    go_wp2
    go_ret
    exact ⟨rfl, below_drewN HB1.out _⟩
  · have d5 : decide ((8 : Int) < (n : Int)) = false := by simp; omega
    have d5' : decide (8 < n) = false := by simpa using h8
    have P1' := Lib.hid (fun W h => P1.out W h (by omega))
    obtain ⟨c0, c1, c2, _, _⟩ := HS1.out
    rw [← HN.out] at c2
    have HN8 : Hid (xs.length ≤ 8) := by show _ ≤ _; rw [← HN.out]; omega
    by_cases hf : fineP xs
    · have hfb := fine_yes hf
      rw [hfb] at P1'
      have HF := Lib.hid hf
      by_cases hnd : (m : Int) = q
      · have hv : V = 0 := by rw [HV.out]; exact check_ok C1.out C2.out C3.out ⟨HN8.out, HF.out, by rw [← HM.out, ← HQ.out]; exact hnd⟩
        have d6 : ((m : Int) != q) = false := by simpa using hnd
        subst hv
        clear h8 hf hfb hnd P1
        go_enter Try.func57, Try.ntmps57
        go_wp2_with fail
        first | go_region_with (first
          | (go_at_call 77; refine (P1'.out _ HS1.out.row).mono ?_; rintro e w2 ⟨rfl, h2⟩; obtain ⟨k0, k1, k2, _, _⟩ := HS1.out.below h2; rw [← HN.out] at k2; have HS2 := Lib.hid (HS1.out.below h2))
          | (go_at_call 78; refine (P2.out _ HS2.out.row).mono ?_; rintro e w3 ⟨A3, c3, rfl, h3⟩; obtain ⟨j0, j1, j2, _, _⟩ := HS2.out.below h3; rw [← HN.out] at j2; have HS3 := Lib.hid (HS2.out.below h3))
          | (go_at_call 79; refine (P3.out _).mono ?_; rintro e w4 ⟨rfl, rfl⟩)) | fail
        all_goals
          go_wp2
          go_ret
          exact ⟨rfl, HS3.out.bel⟩
      · have hv : V = 4 := by rw [HV.out]; exact check_no C1.out C2.out (fun h => hnd (by rw [HM.out, HQ.out]; exact h.2.2))
        have d6 : ((m : Int) != q) = true := by simpa using hnd
        subst hv
        clear h8 hf hfb hnd P1
        go_enter Try.func57, Try.ntmps57
        go_wp2_with fail
        first | go_region_with (first
          | (go_at_call 77; refine (P1'.out _ HS1.out.row).mono ?_; rintro e w2 ⟨rfl, h2⟩; obtain ⟨k0, k1, k2, _, _⟩ := HS1.out.below h2; rw [← HN.out] at k2; have HS2 := Lib.hid (HS1.out.below h2))
          | (go_at_call 78; refine (P2.out _ HS2.out.row).mono ?_; rintro e w3 ⟨A3, c3, rfl, h3⟩; obtain ⟨j0, j1, j2, _, _⟩ := HS2.out.below h3; rw [← HN.out] at j2; have HS3 := Lib.hid (HS2.out.below h3))
          | (go_at_call 79; refine (P3.out _).mono ?_; rintro e w4 ⟨rfl, rfl⟩)) | fail
        all_goals
          go_wp2
          go_ret
          exact ⟨rfl, HS3.out.bel⟩
    · have hfb := fine_not hf
      rw [hfb] at P1'
      have hv : V = 4 := by rw [HV.out]; exact check_no C1.out C2.out (fun h => hf h.2.1)
      subst hv
      clear h8 hf hfb P1
      go_enter Try.func57, Try.ntmps57
      go_wp2_with fail
      first | go_region_with (first
        | (go_at_call 77; refine (P1'.out _ HS1.out.row).mono ?_; rintro e w2 ⟨rfl, h2⟩; obtain ⟨k0, k1, k2, _, _⟩ := HS1.out.below h2; rw [← HN.out] at k2; have HS2 := Lib.hid (HS1.out.below h2))) | fail
      all_goals
        go_wp2
        go_ret
        exact ⟨rfl, HS2.out.bel⟩

set_option maxRecDepth 100000 in
set_option maxHeartbeats 4000000 in
theorem icheck_any (mode size : Int) (A : Option Addr) (xs : List Ext) (c : Nat) (w : World) (hs : Sees w A (erows xs)) (hin : ∀ e ∈ xs, ExK e) (hn : xs.length ≤ 1000000) :
    Calls Try.prog 57 #[iv mode size A xs.length c] w fun e w' => e = .returned (.int .i64 (checkI mode size xs)) ∧ Below w.heap.size w w' := by
  obtain ⟨n, hnn⟩ : ∃ n, n = xs.length := ⟨_, rfl⟩
  have hb1 : Below w.heap.size w (w.alloc (.cells #[.int .i64 mode, .int .i64 size, .slice A n c] 59)) := (Below.refl _ _).alloc (Nat.le_refl _) _
  by_cases h1 : mode < 0
  · rw [check_arg (.inl h1), ← hnn]
    have d1 : decide (mode < 0) = true := by simpa using h1
    clear h1 hs hin hn hnn
    go_enter Try.func57, Try.ntmps57
    go_wp2
    go_ret
    exact ⟨rfl, (Below.refl _ _).alloc (Nat.le_refl _) _⟩
  have d1 : decide (mode < 0) = false := by simpa using h1
  by_cases h2 : 2 < mode
  · rw [check_arg (.inr h2), ← hnn]
    have d2 : decide (2 < mode) = true := by simpa using h2
    clear h1 h2 hs hin hn hnn
    go_enter Try.func57, Try.ntmps57
    go_wp2
    go_ret
    exact ⟨rfl, (Below.refl _ _).alloc (Nat.le_refl _) _⟩
  have d2 : decide (2 < mode) = false := by simpa using h2
  have hm : ¬ (mode < 0 ∨ 2 < mode) := by omega
  by_cases h3 : 512 < size
  · rw [check_big hm h3, ← hnn]
    have d3 : decide (512 < size) = true := by simpa using h3
    clear h1 h2 h3 hm hs hin hn hnn
    go_enter Try.func57, Try.ntmps57
    go_wp2
    go_ret
    exact ⟨rfl, (Below.refl _ _).alloc (Nat.le_refl _) _⟩
  have d3 : decide (512 < size) = false := by simpa using h3
  by_cases h4 : size < 0
  · rw [check_form hm h3 (.inl h4), ← hnn]
    have d4 : decide (size < 0) = true := by simpa using h4
    clear h1 h2 h3 h4 hm hs hin hn hnn
    go_enter Try.func57, Try.ntmps57
    go_wp2
    go_ret
    exact ⟨rfl, (Below.refl _ _).alloc (Nat.le_refl _) _⟩
  have d4 : decide (size < 0) = false := by simpa using h4
  by_cases h5 : mode = 0
  · subst h5
    by_cases h6 : 0 < size
    · rw [check_form hm h3 (.inr ⟨rfl, .inl h6⟩), ← hnn]
      have d6 : decide (0 < size) = true := by simpa using h6
      clear h1 h2 h3 h4 hm h6 hs hin hn hnn
      go_enter Try.func57, Try.ntmps57
      go_wp2
      go_ret
      exact ⟨rfl, (Below.refl _ _).alloc (Nat.le_refl _) _⟩
    · have d6 : decide (0 < size) = false := by simpa using h6
      by_cases h7 : 0 < n
      · rw [check_form hm h3 (.inr ⟨rfl, .inr (by omega)⟩), ← hnn]
        have d7 : decide (0 < n) = true := by simpa using h7
        have d7' : decide ((0 : Int) < (n : Int)) = true := by simpa using h7
        clear h1 h2 h3 h4 hm h6 h7 hs hin hn hnn
        go_enter Try.func57, Try.ntmps57
        go_wp2
        go_ret
        exact ⟨rfl, (Below.refl _ _).alloc (Nat.le_refl _) _⟩
      · obtain rfl : size = 0 := by omega
        have hx : xs = [] := List.eq_nil_of_length_eq_zero (by omega)
        subst hx
        have hv : checkI 0 0 [] = 0 := MayBe.check ⟨by omega, by omega, by omega, by omega, fun _ => ⟨rfl, rfl⟩, by simp, ⟨fun i hi => absurd hi (Nat.not_lt_zero i), by simp [blks]⟩, rfl⟩
        rw [hv]
        exact icheck_zero A c w
  · exact icheck_rest mode size A xs c w hs hin hn (by omega) (by omega) (by omega) (by omega)
end Go.Proofs.Ytjdpljhhlmcbaaa
