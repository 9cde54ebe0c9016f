/- The walk of the law InodeGets: it answers true, whatever comes in. No condition. -/
import Derived.Test.YtkeebkackbkfhaaInoGetP
import Derived.Test.YtkeebkackbkfhaaInoGetR
import Derived.Test.YtkeebkackbkfhaaInoBackG
import Derived.Test.YtkeebkackbkfhaaInoLike
import Derived.Test.YtkeebkackbkfhaaInoAwake
import Derived.Test.YtkeebkackbkfhaaSame
import Derived.Test.YtkeebkackbkfhaaCut8
namespace Go.Proofs.Ytkeebkackbkfhaa
open Go.RowKit Go.Shelf Go.Cat Go.Cat.Ino

set_option maxRecDepth 100000 in
set_option maxHeartbeats 4000000 in
theorem gets_walk (A : Option Addr) (c : Nat) (bs : List UInt8) (w : World) (hb : Bytes w A bs) (hn : bs.length ≤ c) (hc : c ≤ maxLen) (hnil : A = none → c = 0) :
    Calls Try.prog 7 #[.slice A bs.length c] w fun e w' => e = .returned (.bool true) ∧ Below w.heap.size w w' := by
  obtain ⟨ys, hys⟩ : ∃ ys, ys = bs.take 100 := ⟨_, rfl⟩
  have hyl : ys.length ≤ 100 := by rw [hys, List.length_take]; omega
  have hyc : ys.length ≤ c := by rw [hys, List.length_take]; omega
  have hyb : Bytes w A ys := by rw [hys]; exact hb.take 100
  have p1 := cut_any A c 100 bs w hn hc
  rw [← hys] at p1
  have p2 := iget_any A c ys w hyb (by omega)
  have p3 := fun W (h : Bytes W A ys) => riget_any A c ys W h hyc hc hnil
  have hin := gotI_in (b := ys)
  have hlen := gotI_len (b := ys)
  have hback : (getI ys).2 = 0 → (putI (getI ys).1.1 (getI ys).1.2.1 (getI ys).1.2.2).2 = 0 ∧ ((putI (getI ys).1.1 (getI ys).1.2.1 (getI ys).1.2.2).1 = ys ∨ ys = []) := fun h => by
    by_cases h0 : ys = []
    · subst h0; exact ⟨putI_nil, .inr rfl⟩
    · rw [putI_back h0 h]; exact ⟨rfl, .inl rfl⟩
  obtain ⟨X, hX⟩ : ∃ X, X = getI ys := ⟨_, rfl⟩
  rw [← hX] at p2 p3 hin hlen hback
  obtain ⟨⟨m, s, xs⟩, er⟩ := X
  obtain ⟨Y, hY⟩ : ∃ Y, Y = putI m s xs := ⟨_, rfl⟩
  have p4 := fun A' c' W (h : Sees W A' (erows xs)) => iput_any m s A' xs c' W h hin (Nat.le_trans hlen (by omega))
  rw [← hY] at p4
  have hbk : er = 0 → Y.2 = 0 ∧ (Y.1 = ys ∨ ys = []) := by rw [hY]; exact hback
  have hY8 : Y.1.length ≤ 1000 := by
    rw [hY]
    by_cases h : checkI m s xs = 0
    · rw [putI_yes h, ← encIT_all]
      show (encIT m s xs xs.length).length ≤ 1000
      rw [encIT_length _ (Nat.le_refl _)]
      have : xs.length ≤ 8 := hlen
      omega
    · rw [putI_no h]; exact Nat.zero_le _
  obtain ⟨y, pe⟩ := Y
  obtain ⟨n, hnn⟩ : ∃ n, n = xs.length := ⟨_, rfl⟩
  obtain ⟨l, hll⟩ : ∃ l, l = ys.length := ⟨_, rfl⟩
  obtain ⟨q, hq⟩ : ∃ q, q = y.length := ⟨_, rfl⟩
  have P1 : Hid (Calls Try.prog 30 #[.slice A bs.length c, .int .i64 ((100 : Nat) : Int)] w fun e w' => e = .returned (.slice A l c) ∧ w = w') := by rw [hll]; exact p1
  have P2 : Hid (Calls Try.prog 27 #[.slice A l c] w fun e w' => ∃ A' c', e = .returned (.tuple #[iv m s A' n c', .int .i64 er]) ∧ Sees w' A' (erows xs) ∧ Below w.heap.size w w') := by
    rw [hll, hnn]; exact p2.mono fun e w' h => h.told
  have P3 : Hid (∀ W, Bytes W A ys → Calls Try.prog 31 #[.slice A l c] W fun e w' => ∃ A' c', e = .returned (.tuple #[iv m s A' n c', .int .i64 er]) ∧ Sees w' A' (erows xs) ∧ Below W.heap.size W w') := by
    rw [hll, hnn]; exact fun W h => (p3 W h).mono fun e w' h => h.told
  have P4 : Hid (∀ A' c' W, Sees W A' (erows xs) → Calls Try.prog 23 #[iv m s A' n c'] W fun e w' => ∃ A' c', e = .returned (.tuple #[.slice A' q c', .int .i64 pe]) ∧ Bytes w' A' y ∧ Below W.heap.size W w') := by
    rw [hnn, hq]; exact fun A' c' W h => (p4 A' c' W h).mono fun e w' h => h
  have P5 : Hid (∀ B C b c' W, Sees W B (erows xs) → Sees W C (erows xs) → Calls Try.prog 11 #[iv m s B n b, iv m s C n c'] W fun e w' => e = .returned (.bool true) ∧ Below W.heap.size W w') := by
    rw [hnn]; exact fun B C b c' W h1 h2 => like_eq m s xs B C b c' W h1 h2 (Nat.le_trans hlen (by omega))
  have P6 : Hid (∀ B b W, Bytes W B y → Bytes W A ys → Calls Try.prog 28 #[.slice B q b, .slice A l c] W fun e w' => e = .returned (.bool (decide (y = ys))) ∧ ∃ k, w' = W.drewN k) := by
    exact fun B b W h1 h2 => same8_any B A q l b c y ys W h1 h2 hq hll (by have : y.length ≤ 1000 := hY8; omega) (by omega)
  have e1 : (er == er) = true := by simp
  have HBk := Lib.hid hbk
  have HNN := Lib.hid hnn
  have HYb := Lib.hid hyb
  have hl0 : ys = [] → l = 0 := fun h => by rw [hll, h]; rfl
  have HL0 := Lib.hid hl0
  clear hb hn hc hnil hys hyl hyc hyb p1 p2 p3 p4 hin hlen hback hX hY hbk hY8 hnn hll hq hl0
  go_enter Try.func7, Try.ntmps7
  go_wp2_with fail
  refine (P1.out).mono ?_
  rintro e w1 ⟨rfl, rfl⟩
  go_wp2_with fail
  refine (P2.out).mono ?_
  rintro e w1 ⟨A1, c1, rfl, hs1, hB1⟩
  obtain ⟨W2, hW2⟩ : ∃ W2, W2 = w1.alloc (.cells #[.int .i64 m, .int .i64 s, .slice A1 n c1] 26) := ⟨_, rfl⟩
  have hi2 : IbS w1.heap.size m s A1 xs c1 w1 W2 := by rw [hW2, HNN.out]; exact IbS.new hs1
  have HI2 := Lib.hid hi2
  have HB1 := Lib.hid hB1
  have HW2 := Lib.hid hW2
  clear hs1 hB1 hi2 hW2 P1 P2
  go_upto_region 3 with (fail)
  rw [← HW2.out]
  have P3' := Lib.hid (P3.out W2 (HYb.out.below (HB1.out.trans (HI2.out.bel.mono HB1.out.size))))
  clear P3
  go_wp2_with fail
  refine (P3'.out).mono ?_
  rintro e w3 ⟨A3, c3, rfl, hs3, hB3⟩
  obtain ⟨W4, hW4⟩ : ∃ W4, W4 = w3.alloc (.cells #[.int .i64 m, .int .i64 s, .slice A3 n c3] 32) := ⟨_, rfl⟩
  have hi4 : IbS w3.heap.size m s A3 xs c3 w3 W4 := by rw [hW4, HNN.out]; exact IbS.new hs3
  have hj4 : IbS w1.heap.size m s A1 xs c1 w1 W4 := (HI2.out.below hB3).below hi4.bel
  have HW4 := Lib.hid hW4
  have HI4 := Lib.hid hi4
  have HJ4 := Lib.hid hj4
  clear hs3 hB3 hi4 hj4 hW4 HI2 P3' HW2
  go_upto_region 4 with (fail)
  rw [← HW4.out]
  clear HW4
  obtain ⟨a0, a1, a2, ha, _⟩ := HJ4.out
  rw [← HNN.out] at a2
  have P4' := Lib.hid (P4.out A1 c1 W4 ha)
  clear ha P4
  go_wp2_with fail
  refine (P4'.out).mono ?_
  rintro e w5 ⟨A5, c5, rfl, hy5, hB5⟩
  have HI5 := Lib.hid (HI4.out.below hB5)
  have HJ5 := Lib.hid (HJ4.out.below hB5)
  have HY5 := Lib.hid hy5
  clear a0 a1 a2 hy5 hB5 P4' HI4 HJ4
  obtain ⟨a0, a1, a2, ha, _⟩ := HJ5.out
  obtain ⟨b0, b1, b2, hb, _⟩ := HI5.out
  rw [← HNN.out] at a2 b2
  have P5' := Lib.hid (P5.out A1 A3 c1 c3 w5 ha hb)
  clear ha hb P5
  go_wp2_with fail
  refine (P5'.out).mono ?_
  rintro e w6 ⟨rfl, hB6⟩
  have hB6w := (HB1.out.trans (HJ5.out.bel.mono HB1.out.size)).trans (hB6.mono (HB1.out.trans (HJ5.out.bel.mono HB1.out.size)).size)
  have HY6 := Lib.hid (HY5.out.below hB6)
  have HB6 := Lib.hid hB6w
  clear a0 a1 a2 b0 b1 b2 hB6 hB6w P5' HI5 HJ5 HY5
  by_cases h0 : er = 0
  · have t0 : (er != 0) = false := by simpa using h0
    have hbk := HBk.out h0
    have t1 : (pe == 0) = true := by simpa using hbk.1
    have P6' := Lib.hid (P6.out A5 c5 w6 HY6.out (HYb.out.below HB6.out))
    obtain ⟨B, hB⟩ : ∃ B, B = decide (y = ys) := ⟨_, rfl⟩
    rw [← hB] at P6'
    cases B with
    | true =>
      clear h0 hbk hB
      go_wp2_with fail
      refine (P6'.out).mono ?_
      rintro e w7 ⟨rfl, q7, rfl⟩
      go_wp2_with fail
      refine (awake_any _).mono ?_
      rintro e w8 ⟨rfl, hB8⟩
      have hfin := (below_drewN HB6.out q7).trans (hB8.mono HB6.out.size)
      have HF := Lib.hid hfin
      clear hB8 hfin
      go_wp2_with fail
      go_ret
      exact ⟨rfl, HF.out⟩
    | false =>
      have hl : l = 0 := by
        rcases hbk.2 with h | h
        · rw [eq_comm, decide_eq_false_iff_not] at hB; exact absurd h hB
        · exact HL0.out h
      have t2 : ((l : Int) == 0) = true := by simpa using hl
      clear h0 hbk hB hl
      go_wp2_with fail
      refine (P6'.out).mono ?_
      rintro e w7 ⟨rfl, q7, rfl⟩
      go_wp2_with fail
      refine (awake_any _).mono ?_
      rintro e w8 ⟨rfl, hB8⟩
      have hfin := (below_drewN HB6.out q7).trans (hB8.mono HB6.out.size)
      have HF := Lib.hid hfin
      clear hB8 hfin
      go_wp2_with fail
      go_ret
      exact ⟨rfl, HF.out⟩
  · have t0 : (er != 0) = true := by simpa using h0
    clear h0
    go_wp2_with fail
    refine (awake_any w6).mono ?_
    rintro e w9 ⟨rfl, hB9⟩
    have HF := Lib.hid (HB6.out.trans (hB9.mono HB6.out.size))
    clear hB9
    go_wp2_with fail
    go_ret
    exact ⟨rfl, HF.out⟩
end Go.Proofs.Ytkeebkackbkfhaa
