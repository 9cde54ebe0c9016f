/- Bytes that are read, the reference's: the contracts of Get, Read, Done. Condition: lengths within a slice's; widths 1 to 8. -/
import Derived.Test.YtjdpljhhlmcbaaaRefGet
namespace Go.Proofs.Ytjdpljhhlmcbaaa
open Go.RowKit Go.Cat

theorem rget_any (s : IS) (A : Option Addr) (c n : Nat) (w0 w : World) (h : RI s A c w0) (hw : Below w0.heap.size w0 w) (hn1 : 1 ≤ n) (hn8 : n ≤ 8) :
    Calls Try.prog 40 #[ri A s.b.length c s.e, .int .i64 (n : Int)] w (ToldRU (s.upto n 18446744073709551615) w0 w) := by
  have hB0 := below2 w (.cells #[.slice A s.b.length c, .int .i64 s.e] 83) (.cells #[.slice none 0 0, .int .i64 0] 83)
  have p1 := fun w' (hB : Below w.heap.size w w') => rupto_any s A c n 18446744073709551615 w0 w' h (hw.trans (hB.mono hw.size)) hn1 hn8
  obtain ⟨r, hr⟩ : ∃ r, r = s.upto n 18446744073709551615 := ⟨_, rfl⟩
  rw [← hr] at p1 ⊢
  have P1 := Lib.hid p1
  clear p1 h hr hn1 hn8
  go_enter Try.func40, Try.ntmps40
  go_wp2_with fail
  refine (P1.out _ hB0).mono ?_
  rintro e w1 ⟨A1, c1, rfl, hr1, hB1⟩
  have hbx : w1.heap[w.heap.size + 1]? = some (.cells #[.slice none 0 0, .int .i64 0] 83 (0, 0)) := (hB1.block _ (by simp)).trans (heap2 _ _ _)
  have m0 : w1.cell? ⟨w.heap.size + 1, 0, none⟩ = some (.slice none 0 0) := cell_of_row w1 _ 0 _ _ _ hbx
  have m1 : w1.cell? ⟨w.heap.size + 1, 1, none⟩ = some (.int .i64 0) := cell_of_row w1 _ 1 _ _ _ hbx
  have g0 : w1.frozen? ⟨w.heap.size + 1, 0, none⟩ = false := frozen_of_row w1 _ 0 _ _ hbx
  have g1 : w1.frozen? ⟨w.heap.size + 1, 1, none⟩ = false := frozen_of_row w1 _ 1 _ _ hbx
  have hB1w : Below w.heap.size w w1 := hB0.trans (hB1.mono hB0.size)
  have HBx := Lib.hid hbx
  have HR1 := Lib.hid hr1
  have HBw := Lib.hid hB1w
  clear hr1 hB1 hB1w hB0 hbx
  go_wp2_with fail
  refine bodyPost_ret (ret_ri rfl (by rfl) (set_block _ (set_block _ HBx.out))) rfl ?_
  exact ⟨A1, c1, rfl, HR1.out, (HBw.out.setCell (Nat.le_succ _) _).setCell (Nat.le_succ _) _⟩

theorem rdone_any (s : IS) (A : Option Addr) (c : Nat) (w : World) :
    Calls Try.prog 42 #[ri A s.b.length c s.e] w fun e w' => e = .returned (.int .i64 s.done) ∧ Below w.heap.size w w' := by
  have hd : s.done = if s.e ≠ 0 then s.e else if 0 < s.b.length then 4 else 0 := rfl
  by_cases he : s.e = 0
  · have d : (s.e == 0) = true := by simpa using he
    by_cases hl : 0 < s.b.length
    · have d2 : decide (0 < s.b.length) = true := by simpa using hl
      rw [if_neg (by simpa using he), if_pos hl] at hd
      have HD := Lib.hid hd
      clear hd he hl
      go_enter Try.func42, Try.ntmps42
      go_wp2_with fail
      go_ret
      rw [HD.out]
      exact ⟨rfl, (Below.refl _ _).alloc (Nat.le_refl _) _⟩
    · have d2 : decide (0 < s.b.length) = false := by simpa using hl
      rw [if_neg (by simpa using he), if_neg hl] at hd
      have HD := Lib.hid hd
      have HE := Lib.hid he
      clear hd he hl
      go_enter Try.func42, Try.ntmps42
      go_wp2_with fail
      go_ret
      rw [HD.out]
      exact ⟨by show Ending.returned (.int .i64 s.e) = _; rw [HE.out], (Below.refl _ _).alloc (Nat.le_refl _) _⟩
  · have d : (s.e == 0) = false := by simpa using he
    rw [if_pos (by simpa using he)] at hd
    have HD := Lib.hid hd
    clear hd he
    go_enter Try.func42, Try.ntmps42
    go_wp2_with fail
    go_ret
    rw [HD.out]
    exact ⟨rfl, (Below.refl _ _).alloc (Nat.le_refl _) _⟩
end Go.Proofs.Ytjdpljhhlmcbaaa
