/- The walk of the law VolValues: it answers true, whatever comes in. No condition. -/
import Derived.Test.YtjdpljhhlmcbaaaVolWhole
import Derived.Test.YtjdpljhhlmcbaaaVolLaw
import Derived.Test.YtjdpljhhlmcbaaaSame
import Derived.Test.YtjdpljhhlmcbaaaCut8
namespace Go.Proofs.Ytjdpljhhlmcbaaa
open Go.RowKit Go.Cat Go.Cat.Ino

/-- The law's two boxes of inodes. -/
structure TwoN (m s : Int) (n : Nat) (A B : Option Addr) (a b X Y : Nat) (xs : List Ext) (w wr : World) : Prop where
  x : IbS X m s A xs a w wr
  y0 : wr.cell? ⟨Y, 0, none⟩ = some (.int .i64 m)
  y1 : wr.cell? ⟨Y, 1, none⟩ = some (.int .i64 s)
  y2 : wr.cell? ⟨Y, 2, none⟩ = some (.slice B n b)
  yr : Sees wr B (erows xs)
theorem TwoN.below {m s : Int} {n : Nat} {A B : Option Addr} {a b X Y : Nat} {xs : List Ext} {w wr w' : World} (h : TwoN m s n A B a b X Y xs w wr) (hb : Below wr.heap.size wr w') : TwoN m s n A B a b X Y xs w w' := by
  have g : Y < wr.heap.size := World.block_lt_of_cell? _ _ h.y0
  exact ⟨h.x.below hb, (hb.cell (p := ⟨Y, _, none⟩) g).trans h.y0, (hb.cell (p := ⟨Y, _, none⟩) g).trans h.y1, (hb.cell (p := ⟨Y, _, none⟩) g).trans h.y2, h.yr.below hb⟩

set_option maxRecDepth 100000 in
set_option maxHeartbeats 4000000 in
theorem values_walk (i : Int) (A : Option Addr) (c : Nat) (bs : List UInt8) (w : World) (hb : Bytes w A bs) (hn : bs.length ≤ c) (hc : c ≤ maxLen) (hnil : A = none → c = 0) :
    Calls Try.prog 6 #[.int .i64 i, .slice A bs.length c] w fun e w' => e = .returned (.bool true) ∧ Below w.heap.size w w' := by
  obtain ⟨ys, hys⟩ : ∃ ys, ys = bs.take 200 := ⟨_, rfl⟩
  have hyl : ys.length ≤ 200 := by rw [hys, List.length_take]; omega
  have hyc : ys.length ≤ c := by rw [hys, List.length_take]; omega
  have hyb : Bytes w A ys := by rw [hys]; exact hb.take 200
  have p1 := cut_any A c 200 bs w hn hc
  rw [← hys] at p1
  have p2 := vnode_any i A c ys w hyb (by omega)
  have p3 := fun W (h : Bytes W A ys) => rvnode_any i A c ys W h hyc hc hnil
  have p5 := fun W (h : Bytes W A ys) => vwhole_any A c ys W h
  have p6 := fun W (h : Bytes W A ys) => rwhole_any A c ys W h
  have hin := node_in (i := i) (b := ys)
  have hlen := node_len (i := i) (b := ys)
  have hput := node_put (i := i) (b := ys)
  obtain ⟨X, hX⟩ : ∃ X, X = nodeV i ys := ⟨_, rfl⟩
  rw [← hX] at p2 p3 hin hlen hput
  obtain ⟨⟨m, s, xs⟩, er⟩ := X
  obtain ⟨Y, hY⟩ : ∃ Y, Y = putI m s xs := ⟨_, rfl⟩
  have p4 := fun A' c' W (h : Sees W A' (erows xs)) => iput_any m s A' xs c' W h hin (Nat.le_trans hlen (by omega))
  rw [← hY] at p4
  have hpe : er = 0 → Y.2 = 0 := by rw [hY]; exact hput
  obtain ⟨y, pe⟩ := Y
  obtain ⟨n, hnn⟩ : ∃ n, n = xs.length := ⟨_, rfl⟩
  obtain ⟨l, hll⟩ : ∃ l, l = ys.length := ⟨_, rfl⟩
  obtain ⟨q, hq⟩ : ∃ q, q = y.length := ⟨_, rfl⟩
  have hn8 : n ≤ 8 := by rw [hnn]; exact hlen
  have P1 : Hid (Calls Try.prog 16 #[.slice A bs.length c, .int .i64 ((200 : Nat) : Int)] w fun e w' => e = .returned (.slice A l c) ∧ w = w') := by rw [hll]; exact p1
  have P2 : Hid (Calls Try.prog 29 #[.int .i64 i, .slice A l c] w fun e w' => ∃ A' c', e = .returned (.tuple #[iv m s A' n c', .int .i64 er]) ∧ Sees w' A' (erows xs) ∧ Below w.heap.size w w') := by
    rw [hll, hnn]; exact p2.mono fun e w' h => h.told
  have P3 : Hid (∀ W, Bytes W A ys → Calls Try.prog 30 #[.int .i64 i, .slice A l c] W fun e w' => ∃ A' c', e = .returned (.tuple #[iv m s A' n c', .int .i64 er]) ∧ Sees w' A' (erows xs) ∧ Below W.heap.size W w') := by
    rw [hll, hnn]; exact fun W h => (p3 W h).mono fun e w' h => h.told
  have P4 : Hid (∀ A' c' W, Sees W A' (erows xs) → Calls Try.prog 31 #[iv m s A' n c'] W fun e w' => ∃ A' c', e = .returned (.tuple #[.slice A' q c', .int .i64 pe]) ∧ Bytes w' A' y ∧ Below W.heap.size W w') := by
    rw [hnn, hq]; exact fun A' c' W h => (p4 A' c' W h).mono fun e w' h => h
  have P5 : Hid (∀ W, Bytes W A ys → Calls Try.prog 32 #[.slice A l c] W (ToldWh ys W)) := by rw [hll]; exact p5
  have P6 : Hid (∀ W, Bytes W A ys → Calls Try.prog 33 #[.slice A l c] W (ToldWh ys W)) := by rw [hll]; exact p6
  have P7 : Hid (∀ B C b b' W, Bytes W B (wholeTo ys 64) → Bytes W C (wholeTo ys 64) → Calls Try.prog 21 #[.slice B 64 b, .slice C 64 b'] W fun e w' => e = .returned (.bool true) ∧ Below W.heap.size W w') := by
    have h64 := wholeTo_length ys 64
    exact fun B C b b' W h1 h2 => (same8_any B C 64 64 b b' _ _ W h1 h2 h64.symm h64.symm (by omega) (by omega)).mono fun e w' ⟨h3, q, h4⟩ => ⟨by rw [h3]; simp, by rw [h4]; exact below_drewN (Below.refl _ _) _⟩
  have e1 : (er != er) = false := by simp
  have e2 : (m != m) = false := by simp
  have e3 : (s != s) = false := by simp
  have e4 : ((n : Int) != (n : Int)) = false := by simp
  have HPe : Hid (er = 0 → pe = 0) := hpe
  have HNN := Lib.hid hnn
  have HYb := Lib.hid hyb
  clear hb hn hc hnil hys hyl hyc hyb p1 p2 p3 p4 p5 p6 hin hlen hput hX hY hpe hnn hll hq
  go_enter Try.func6, Try.ntmps6
  go_wp2_with fail
  refine (P1.out).mono ?_
  rintro e w1 ⟨rfl, rfl⟩
  go_wp2_with fail
  refine (P2.out).mono ?_
  rintro e w1 ⟨A1, c1, rfl, hs1, hB1⟩
  obtain ⟨W2, hW2⟩ : ∃ W2, W2 = w1.alloc (.cells #[.int .i64 m, .int .i64 s, .slice A1 n c1] 59) := ⟨_, rfl⟩
  have hi2 : IbS w1.heap.size m s A1 xs c1 w1 W2 := by rw [hW2, HNN.out]; exact IbS.new hs1
  have HI2 := Lib.hid hi2
  have HB1 := Lib.hid hB1
  have HW2 := Lib.hid hW2
  clear hs1 hB1 hi2 hW2 P1 P2
  go_upto_region 3 with (fail)
  rw [← HW2.out]
  have P3' := Lib.hid (P3.out W2 (HYb.out.below (HB1.out.trans (HI2.out.bel.mono HB1.out.size))))
  clear P3
  go_wp2_with fail
  refine (P3'.out).mono ?_
  rintro e w3 ⟨A3, c3, rfl, hs3, hB3⟩
  obtain ⟨W4, hW4⟩ : ∃ W4, W4 = w3.alloc (.cells #[.int .i64 m, .int .i64 s, .slice A3 n c3] 64) := ⟨_, rfl⟩
  have hi4 : IbS w3.heap.size m s A3 xs c3 w3 W4 := by rw [hW4, HNN.out]; exact IbS.new hs3
  have hj4 : IbS w1.heap.size m s A1 xs c1 w1 W4 := (HI2.out.below hB3).below hi4.bel
  have ht4 : TwoN m s n A1 A3 c1 c3 w1.heap.size w3.heap.size xs w1 W4 := ⟨hj4, hi4.c0, hi4.c1, by rw [HNN.out]; exact hi4.c2, hi4.row⟩
  have HW4 := Lib.hid hW4
  have HT4 := Lib.hid ht4
  clear hs3 hB3 hi4 hj4 hW4 ht4 HI2 P3' HW2
  go_upto_region 4 with (fail)
  rw [← HW4.out]
  clear HW4
  obtain ⟨⟨a0, a1, a2, _, _⟩, b0, b1, b2, _⟩ := HT4.out
  rw [← HNN.out] at a2
  go_wp2_with fail
  go_loopw [9] (fun iv' wr => ∃ k : Nat, k ≤ n ∧ iv' = .int .i64 k ∧ ∃ dd, wr = W4.drewN dd) (fun iv' _ => n - (intOf iv').toNat)
  case atStart => exact ⟨0, Nat.zero_le _, rfl, 0, rfl⟩
  case round =>
    obtain ⟨k, hk, rfl, dd, rfl⟩ := hrel
    by_cases hlt : k < n
    · have t1 : decide ((k : Int) < (n : Int)) = true := by simp; omega
      have hkx : k < xs.length := by rw [← HNN.out]; exact hlt
      obtain ⟨b, off, hA, hbl, f0, f1⟩ := erows_at HT4.out.x.row hkx
      obtain ⟨b', off', hB, hbl', g0, g1⟩ := erows_at HT4.out.yr hkx
      obtain ⟨p, hp⟩ : ∃ p, p = xs[k] := ⟨_, rfl⟩
      rw [← hp] at f0 f1 g0 g1
      have hkI : (k : Int) < (n : Int) := by omega
      have hk0 : (0 : Int) ≤ (k : Int) := by omega
      have u1 : (p.1 == p.1) = true := by simp
      have u2 : (p.2 == p.2) = true := by simp
      rw [hA] at a2
      rw [hB] at b2
      clear hp hkx hbl hbl' hA hB
      go_wp2_with fail
      go_quiet (fail)
      go_wp2
      go_roundw
      case rel => exact ⟨k + 1, by omega, by go_num, _, rfl⟩
      case measure => simp [intOf]; omega
    · obtain rfl : k = n := by omega
      have t1 : decide ((k : Int) < (k : Int)) = false := by simp
      obtain ⟨W5, hW5⟩ : ∃ W5, W5 = W4.drewN dd := ⟨_, rfl⟩
      have hbd : Below W4.heap.size W4 W5 := by rw [hW5]; exact below_drewN (Below.refl _ _) _
      have HT5 := Lib.hid (HT4.out.below hbd)
      rw [← hW5]
      clear hW5 hbd a0 a1 a2 b0 b1 b2 HT4
      obtain ⟨⟨a0, a1, a2, ha, _⟩, b0, b1, b2, _⟩ := HT5.out
      rw [← HNN.out] at a2
      have P4' := Lib.hid (P4.out A1 c1 W5 ha)
      clear ha P4
      go_wp2_with fail
      refine (P4'.out).mono ?_
      rintro e w6 ⟨A6, c6, rfl, hy6, hB6⟩
      have hB6w : Below w.heap.size w w6 := (HB1.out.trans (HT5.out.x.bel.mono HB1.out.size)).trans (hB6.mono (HB1.out.trans (HT5.out.x.bel.mono HB1.out.size)).size)
      have HB6 := Lib.hid hB6w
      have P5' := Lib.hid (P5.out w6 (HYb.out.below hB6w))
      clear a0 a1 a2 b0 b1 b2 hy6 hB6 hB6w P4' HT5 P5
      go_wp2_with fail
      refine (P5'.out).mono ?_
      rintro e w7 ⟨A7, c7, rfl, hs7, hB7⟩
      have hB7w := HB6.out.trans (hB7.mono HB6.out.size)
      have HB7 := Lib.hid hB7w
      have HS7 := Lib.hid hs7
      have P6' := Lib.hid (P6.out w7 (HYb.out.below hB7w))
      clear hB7 hB7w hs7 P5' P6
      go_wp2_with fail
      refine (P6'.out).mono ?_
      rintro e w8 ⟨A8, c8, rfl, hs8, hB8⟩
      have HB8 := Lib.hid (HB7.out.trans (hB8.mono HB7.out.size))
      have P7' := Lib.hid (P7.out A7 A8 c7 c8 w8 (HS7.out.below hB8) hs8)
      clear hB8 hs8 P6' P7
      go_wp2_with fail
      refine (P7'.out).mono ?_
      rintro e w9 ⟨rfl, hB9⟩
      have HB9 := Lib.hid (HB8.out.trans (hB9.mono HB8.out.size))
      clear hB9 P7'
      by_cases h0 : er = 0
      · have t2 : (er != 0) = false := by simpa using h0
        have t3 : (pe == 0) = true := by simpa using HPe.out h0
        clear h0
        go_wp2_with fail
        refine (vawake_any w9).mono ?_
        rintro e w10 ⟨rfl, hB10⟩
        have HF := Lib.hid (HB9.out.trans (hB10.mono HB9.out.size))
        clear hB10
        go_wp2_with fail
        go_ret
        exact ⟨rfl, HF.out⟩
      · have t2 : (er != 0) = true := by simpa using h0
        clear h0
        go_wp2_with fail
        refine (vawake_any w9).mono ?_
        rintro e w10 ⟨rfl, hB10⟩
        have HF := Lib.hid (HB9.out.trans (hB10.mono HB9.out.size))
        clear hB10
        go_wp2_with fail
        go_ret
        exact ⟨rfl, HF.out⟩
end Go.Proofs.Ytjdpljhhlmcbaaa
