/- The walk of the law InodeMakes: it answers true, whatever comes in. Condition: numbers within their kinds. -/
import Derived.Test.YtkeebkackbkfhaaInoROf
import Derived.Test.YtkeebkackbkfhaaInoLike
import Derived.Test.YtkeebkackbkfhaaInoAwake
import Derived.Test.YtkeebkackbkfhaaSameI
namespace Go.Cat.Ino
open Go.RowKit Go.Cat
theorem ofV_len (mode size : Int) {zs : List Int} (hz : ∀ z ∈ zs, -9223372036854775808 ≤ z ∧ z ≤ 9223372036854775807) : (ofV mode size zs).1.2.2.length ≤ zs.length := by
  have h := (exts_ok hz).len
  unfold ofV
  split
  · exact Nat.zero_le _
  · split
    · exact Nat.zero_le _
    · exact h
theorem ofV_blks (mode size : Int) {zs : List Int} (hz : ∀ z ∈ zs, -9223372036854775808 ≤ z ∧ z ≤ 9223372036854775807) : (ofV mode size zs).2 = 0 → blks (ofV mode size zs).1.2.2 = zs := by
  have h := (exts_ok hz).blks
  unfold ofV
  split
  · intro e; cases e
  · split
    · intro e; rename_i h2; exact absurd e h2
    · exact fun _ => h
end Go.Cat.Ino
namespace Go.Proofs.Ytkeebkackbkfhaa
open Go.RowKit Go.Shelf Go.Cat Go.Cat.Ino

set_option maxRecDepth 100000 in
set_option maxHeartbeats 4000000 in
theorem makes_walk (mode size : Int) (A : Option Addr) (zs : List Int) (c : Nat) (w : World) (hb : Ints w A zs) (hz : ∀ z ∈ zs, -9223372036854775808 ≤ z ∧ z ≤ 9223372036854775807) (hs0 : -9223372036854775808 ≤ size) (hs1 : size ≤ 9223372036854775807) :
    Calls Try.prog 3 #[.int .i64 mode, .int .i64 size, .slice A zs.length c] w fun e w' => e = .returned (.bool true) ∧ Below w.heap.size w w' := by
  by_cases hn : zs.length ≤ 40
  · have d0 : decide ((40 : Int) < (zs.length : Int)) = false := by simp; omega
    have hlen := ofV_len mode size hz
    have hblk := ofV_blks mode size hz
    have p1 := fun W (h : Ints W A zs) => iof_any mode size A zs c W h hz (by omega)
    have p2 := fun W (h : Ints W A zs) => rof_any mode size A zs c W h hz (by omega)
    obtain ⟨X, hX⟩ : ∃ X, X = ofV mode size zs := ⟨_, rfl⟩
    rw [← hX] at hlen hblk p1 p2
    obtain ⟨⟨m, s, xs⟩, er⟩ := X
    obtain ⟨k, hk⟩ : ∃ k, k = xs.length := ⟨_, rfl⟩
    obtain ⟨n, hnn⟩ : ∃ n, n = zs.length := ⟨_, rfl⟩
    have hxl : xs.length ≤ 40 := Nat.le_trans hlen hn
    have P1 : Hid (∀ W, Ints W A zs → Calls Try.prog 9 #[.int .i64 mode, .int .i64 size, .slice A n c] W fun e w' => ∃ A' c', e = .returned (.tuple #[iv m s A' k c', .int .i64 er]) ∧ Sees w' A' (erows xs) ∧ Below W.heap.size W w') := by
      rw [hnn, hk]; exact fun W h => (p1 W h).mono fun e w' h => h
    have P2 : Hid (∀ W, Ints W A zs → Calls Try.prog 10 #[.int .i64 mode, .int .i64 size, .slice A n c] W fun e w' => ∃ A' c', e = .returned (.tuple #[iv m s A' k c', .int .i64 er]) ∧ Sees w' A' (erows xs) ∧ Below W.heap.size W w') := by
      rw [hnn, hk]; exact fun W h => (p2 W h).mono fun e w' h => h
    have P3 : Hid (∀ B C b c' W, Sees W B (erows xs) → Sees W C (erows xs) → Calls Try.prog 11 #[iv m s B k b, iv m s C k c'] W fun e w' => e = .returned (.bool true) ∧ Below W.heap.size W w') := by
      rw [hk]; exact fun B C b c' W h1 h2 => like_eq m s xs B C b c' W h1 h2 (by omega)
    have P4 := Lib.hid (fun W => need_any size W hs0 hs1)
    have P5 := Lib.hid (fun W => rneed_any size W hs0 hs1)
    have P6 : Hid (∀ B b W, Sees W B (erows xs) → Calls Try.prog 15 #[iv m s B k b] W fun e w' => ∃ A' c', e = .returned (.slice A' (blks xs).length c') ∧ Ints w' A' (blks xs) ∧ Below W.heap.size W w') := by
      rw [hk]; exact fun B b W h => (blocks_any m s B xs b W h (by omega)).mono fun e w' ⟨A', c', h1, h2, h3⟩ => ⟨A', c', h1, Sees.of_own h2, h3⟩
    have P7 : Hid (∀ B b W, Ints W A zs → Ints W B zs → Calls Try.prog 14 #[.slice B n b, .slice A n c] W fun e w' => e = .returned (.bool true) ∧ Below W.heap.size W w') := by
      rw [hnn]; exact fun B b W h1 h2 => (sameI_any B A zs.length zs.length b c zs zs W h2 h1 rfl rfl (by omega) (by omega)).mono fun e w' ⟨h3, q, h4⟩ => ⟨by rw [h3]; simp, by rw [h4]; exact below_drewN (Below.refl _ _) _⟩
    rw [← hnn] at d0 hn ⊢
    have HI := Lib.hid hb
    have HBlk : Hid (er = 0 → blks xs = zs) := hblk
    have HNN := Lib.hid hnn
    have e1 : (er == er) = true := by simp
    have e2 : (need size == need size) = true := by simp
    have HK := Lib.hid hk
    clear hb hz hs0 hs1 hlen hblk p1 p2 hX hk hnn hxl
    go_enter Try.func3, Try.ntmps3
    go_wp2_with fail
    refine (P1.out w HI.out).mono ?_
    rintro e w1 ⟨A1, c1, rfl, hs1, hB1⟩
    obtain ⟨W2, hW2⟩ : ∃ W2, W2 = w1.alloc (.cells #[.int .i64 m, .int .i64 s, .slice A1 k c1] 26) := ⟨_, rfl⟩
    have hi2 : IbS w1.heap.size m s A1 xs c1 w1 W2 := by rw [hW2, HK.out]; exact IbS.new hs1
    have HI2 := Lib.hid hi2
    have HB1 := Lib.hid hB1
    have HW2 := Lib.hid hW2
    clear hs1 hB1 hi2 hW2
    go_upto_region 4 with (fail)
    rw [← HW2.out]
    have hi2 := HI.out.below (HB1.out.trans (HI2.out.bel.mono HB1.out.size))
    go_wp2_with fail
    refine (P2.out W2 hi2).mono ?_
    rintro e w3 ⟨A3, c3, rfl, hs3, hB3⟩
    obtain ⟨W4, hW4⟩ : ∃ W4, W4 = w3.alloc (.cells #[.int .i64 m, .int .i64 s, .slice A3 k c3] 32) := ⟨_, rfl⟩
    have hi4 : IbS w3.heap.size m s A3 xs c3 w3 W4 := by rw [hW4, HK.out]; exact IbS.new hs3
    have hj4 : IbS w1.heap.size m s A1 xs c1 w1 W4 := (HI2.out.below hB3).below hi4.bel
    have HW4 := Lib.hid hW4
    have HI4 := Lib.hid hi4
    have HJ4 := Lib.hid hj4
    clear hs3 hB3 hi2 hi4 hj4 hW4 HI2
    go_upto_region 5 with (fail)
    rw [← HW4.out]
    obtain ⟨a0, a1, a2, ha, _⟩ := HJ4.out
    obtain ⟨b0, b1, b2, hb, _⟩ := HI4.out
    rw [← HK.out] at a2 b2
    have P3' := Lib.hid (P3.out A1 A3 c1 c3 W4 ha hb)
    clear ha hb
    go_wp2_with fail
    refine (P3'.out).mono ?_
    rintro e w5 ⟨rfl, hB5⟩
    have HJ5 := Lib.hid (HJ4.out.below hB5)
    clear a0 a1 a2 b0 b1 b2 hB5
    obtain ⟨a0, a1, a2, ha, _⟩ := HJ5.out
    rw [← HK.out] at a2
    have HA := Lib.hid ha
    clear ha
    go_wp2_with fail
    refine (P4.out _).mono ?_
    rintro e w6 ⟨rfl, rfl⟩
    go_wp2_with fail
    refine (P5.out _).mono ?_
    rintro e w6 ⟨rfl, rfl⟩
    by_cases h0 : er = 0
    · have t0 : (er != 0) = false := by simpa using h0
      have P6' := P6.out A1 c1 w5 HA.out
      rw [HBlk.out h0, ← HNN.out] at P6'
      have HP6 := Lib.hid P6'
      clear P6' h0
      go_wp2_with fail
      refine (HP6.out).mono ?_
      rintro e w7 ⟨A7, c7, rfl, hz7, hB7⟩
      have hB5 := HB1.out.trans (HJ5.out.bel.mono HB1.out.size)
      have hB7w := hB5.trans (hB7.mono hB5.size)
      have P7' := Lib.hid (P7.out A7 c7 w7 (HI.out.below hB7w) hz7)
      have HB7 := Lib.hid hB7w
      clear hz7 hB7 hB7w hB5
      go_wp2_with fail
      refine (P7'.out).mono ?_
      rintro e w8 ⟨rfl, hB8⟩
      have HB8 := Lib.hid (HB7.out.trans (hB8.mono HB7.out.size))
      clear hB8
      go_wp2_with fail
      refine (awake_any w8).mono ?_
      rintro e w9 ⟨rfl, hB9⟩
      go_wp2
      go_ret
      exact ⟨rfl, HB8.out.trans (hB9.mono HB8.out.size)⟩
    · have t0 : (er != 0) = true := by simpa using h0
      have HB5 := Lib.hid (HB1.out.trans (HJ5.out.bel.mono HB1.out.size))
      clear h0
      go_wp2_with fail
      refine (awake_any w5).mono ?_
      rintro e w9 ⟨rfl, hB9⟩
      go_wp2
      go_ret
      exact ⟨rfl, HB5.out.trans (hB9.mono HB5.out.size)⟩
  · have d0 : decide ((40 : Int) < (zs.length : Int)) = true := by simp; omega
    obtain ⟨n, hnn⟩ : ∃ n, n = zs.length := ⟨_, rfl⟩
    rw [← hnn] at d0 ⊢
    clear hb hz hs0 hs1 hn hnn
    go_enter Try.func3, Try.ntmps3
    go_wp2_with fail
    refine (awake_any w).mono ?_
    rintro e w9 ⟨rfl, hB9⟩
    go_wp2
    go_ret
    exact ⟨rfl, hB9⟩
end Go.Proofs.Ytkeebkackbkfhaa
