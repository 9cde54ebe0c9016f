/- The walk of the law DirsBytes: it answers true, whatever comes in. Condition: the library's variable MaxLen holds an int. -/
import Derived.Test.YtjilejmchaejiaaDoorDirsGets
namespace Go.Proofs.YtjilejmchaejiaaDoor
open Go.RowKit Go.Cat Go.Cat.Dir

set_option maxRecDepth 100000 in
set_option maxHeartbeats 2000000 in
theorem dbytes_walk (A : Option Addr) (c : Nat) (l : List Ent) (x : Txt) (m : Int) (w : World) (hm : MaxL m w) (hs : Sees w A (erows l)) (hn : l.length ≤ 9223372036854775807) :
    Calls Tryd.prog 4 #[.slice A l.length c, .string (bs x)] w fun e w' => e = .returned (.bool true) ∧ Below w.heap.size w w' := by
  have p1 := far_any A l c w hs hn
  have hx := bs_size x
  have HM : Hid (MaxL m w) := hm
  have HS := Lib.hid hs
  have PA := Lib.hid (fun W (h : MaxL m W) => dawake_any m W h)
  have PN := Lib.hid (fun W => name_any x W)
  have PR := Lib.hid (fun W => rname_any x W)
  have p2 := fun (h : l.length ≤ 40) W (h2 : Below w.heap.size w W) => ours_any A l c W (hs.below h2) (by omega)
  have p3 := fun (h : l.length ≤ 40) B d W (h2 : Sees W B (erows l)) => dcheck_any B l d W h2 (by omega)
  have p4 := fun (h : l.length ≤ 40) W (h2 : Below w.heap.size w W) => rcheck_any A l c W (hs.below h2) (by omega)
  have p5 := fun (h : l.length ≤ 40) (hz : checkE l ≠ 0) B d W (h2 : Sees W B (erows l)) => dput_no B l d W h2 (by omega) hz
  have p6 := fun (hz : checkE l = 0) B d W (h2 : Sees W B (erows l)) => dput_ok B l d W h2 hz
  have p7 := fun (hz : checkE l = 0) B d W (h2 : Bytes W B (bytesE l)) (h3 : (bytesE l).length ≤ 140737488355328) => dget_any B d (bytesE l) W h2 h3
  have p8 := fun (hz : checkE l = 0) W (h2 : Below w.heap.size w W) => rbytes_any A l c W (hs.below h2) (check_fine hz).1 (check_fine hz).2
  have p9 := fun (h : l.length ≤ 40) B d W (h2 : Sees W B (erows l)) (h3 : Below w.heap.size w W) => elike_yes B A l d c W h2 (hs.below h3) (by omega)
  have hgb := get_bytes (l := l)
  have hbl : checkE l = 0 → (bytesE l).length ≤ 512 := fun hz => by
    have h := check_fine hz
    rw [bytesE_length (fun e he => by
      obtain ⟨j, hj, rfl⟩ := List.getElem_of_mem he
      exact (h.2 j hj).1.2.2.2.1)]
    omega
  unfold ToldL at p2
  unfold ToldP at p6
  unfold ToldG at p7
  obtain ⟨n, hnn⟩ : ∃ n, n = l.length := ⟨_, rfl⟩
  have HNn : Hid (n = l.length) := hnn
  rw [← hnn] at p1 p2 p3 p4 p5 p6 p8 p9 hn ⊢
  obtain ⟨z, hz⟩ : ∃ z, z = checkE l := ⟨_, rfl⟩
  rw [← hz] at p3 p4 p5 p6 p7 p8 hgb hbl
  obtain ⟨y, hy⟩ : ∃ y, y = bytesE l := ⟨_, rfl⟩
  rw [← hy] at p6 p7 p8 hgb hbl
  obtain ⟨yl, hyl⟩ : ∃ yl, yl = y.length := ⟨_, rfl⟩
  rw [← hyl] at p6 p7 p8 hbl
  have P1 := Lib.hid p1
  have P2 := Lib.hid p2
  have P3 := Lib.hid p3
  have P4 := Lib.hid p4
  have P5 := Lib.hid p5
  have P6 := Lib.hid p6
  have P7 := Lib.hid p7
  have P8 := Lib.hid p8
  have P9 := Lib.hid p9
  have HGb := Lib.hid hgb
  have HBl := Lib.hid hbl
  have HYl := Lib.hid hyl
  have e1 : (z != z) = false := by simp
  have e3 : (nameB x != nameB x) = false := by simp
  clear p1 p2 p3 p4 p5 p6 p7 p8 p9 hgb hbl hyl hy hz hnn hm hs
  go_enter Tryd.func4, Tryd.ntmps4
  go_wp2_with fail
  refine (P1.out).mono ?_
  rintro e w1 ⟨⟨f, rfl, hf⟩, rfl⟩
  cases f with
  | true =>
    have PA' := Lib.hid (PA.out _ HM.out)
    clear hf
    go_wp2_with fail
    refine (PA'.out).mono ?_
    rintro e w7 ⟨rfl, hB7⟩
    go_wp2_with fail
    go_ret
    exact ⟨rfl, hB7⟩
  | false =>
    have hll := (hf rfl).1
    have hl : n ≤ 40 := hll
    have P2 := Lib.hid (P2.out (by first | exact hl | exact hll))
    have P3 := Lib.hid (P3.out (by first | exact hl | exact hll))
    have P4 := Lib.hid (P4.out (by first | exact hl | exact hll))
    have P5 := Lib.hid (P5.out (by first | exact hl | exact hll))
    have P9 := Lib.hid (P9.out (by first | exact hl | exact hll))
    clear hf hll
    by_cases hx60 : 60 < x.length
    · have dx : (60 : Int) < ((bs x).size : Int) := by omega
      have dx2 : 60 < (bs x).size := by omega
      have PA' := Lib.hid (PA.out _ HM.out)
      clear hx hx60
      go_wp2_with fail
      refine (PA'.out).mono ?_
      rintro e w7 ⟨rfl, hB7⟩
      go_wp2_with fail
      go_ret
      exact ⟨rfl, hB7⟩
    · have dx : ¬ (60 : Int) < ((bs x).size : Int) := by omega
      have dx2 : ¬ 60 < (bs x).size := by omega
      have P2' := Lib.hid (P2.out w (Below.refl _ _))
      clear hx hx60
      go_wp2_with fail
      refine (P2'.out).mono ?_
      rintro e w2 ⟨A2, c2, rfl, hs2, hB2⟩
      have HB2 := Lib.hid hB2
      have P3' := Lib.hid (P3.out A2 c2 w2 hs2)
      clear hs2 hB2 P2'
      go_wp2_with fail
      refine (P3'.out).mono ?_
      rintro e w3 ⟨rfl, hB3⟩
      have hB3w := HB2.out.trans (hB3.mono HB2.out.size)
      have HB3 := Lib.hid hB3w
      have P2' := Lib.hid (P2.out w3 hB3w)
      clear hB3 hB3w P3' HB2
      go_wp2_with fail
      refine (P2'.out).mono ?_
      rintro e w4 ⟨A4, c4, rfl, hs4, hB4⟩
      have hB4w := HB3.out.trans (hB4.mono HB3.out.size)
      have HB4 := Lib.hid hB4w
      have HS4 := Lib.hid hs4
      clear hs4 hB4 hB4w P2' HB3
      by_cases hz0 : z = 0
      · subst hz0
        have P6' := Lib.hid (P6.out rfl A4 c4 w4 HS4.out)
        have P7' := Lib.hid (P7.out rfl)
        have hgb := HGb.out rfl
        rw [hgb] at P7'
        have hbl := HBl.out rfl
        have P8' := Lib.hid (P8.out rfl)
        rw [← HNn.out] at P7'
        clear hgb P6 P7 P8 P5
        go_wp2_with fail
        refine (P6'.out).mono ?_
        rintro e w5 ⟨A5, c5, rfl, hy5, hB5⟩
        have hB5w := HB4.out.trans (hB5.mono HB4.out.size)
        have HB5 := Lib.hid hB5w
        have HY5 := Lib.hid hy5
        have P4' := Lib.hid (P4.out w5 hB5w)
        clear hy5 hB5 hB5w P6' HB4
        go_wp2_with fail
        refine (P4'.out).mono ?_
        rintro e w6 ⟨rfl, hB6⟩
        have HB6 := Lib.hid (HB5.out.trans (hB6.mono HB5.out.size))
        have HY6 := Lib.hid (HY5.out.below hB6)
        have PN' := Lib.hid (PN.out w6)
        clear hB6 P4' HB5 HY5
        go_wp2_with fail
        refine (PN'.out).mono ?_
        rintro e w7 ⟨rfl, hB7⟩
        have HB7 := Lib.hid (HB6.out.trans (hB7.mono HB6.out.size))
        have HY7 := Lib.hid (HY6.out.below hB7)
        have PR' := Lib.hid (PR.out w7)
        clear hB7 PN' HB6 HY6
        go_wp2_with fail
        refine (PR'.out).mono ?_
        rintro e w8 ⟨rfl, rfl⟩
        have P7'' := Lib.hid (P7'.out A5 c5 w7 HY7.out (by omega))
        clear PR' P7'
        go_wp2_with fail
        refine (P7''.out).mono ?_
        rintro e w9 ⟨A9, c9, rfl, hs9, hB9⟩
        have hB9w := HB7.out.trans (hB9.mono HB7.out.size)
        have HB9 := Lib.hid hB9w
        have HY9 := Lib.hid (HY7.out.below hB9)
        have HS9 := Lib.hid hs9
        have P8'' := Lib.hid (P8'.out w9 hB9w)
        clear hs9 hB9 hB9w P7'' HB7 HY7 P8'
        go_wp2_with fail
        refine (P8''.out).mono ?_
        rintro e w10 ⟨A10, c10, rfl, hy10, hB10⟩
        have HB10 := Lib.hid (HB9.out.trans (hB10.mono HB9.out.size))
        have HS10 := Lib.hid (HS9.out.below hB10)
        have p10 := same8_any A5 A10 yl yl c5 c10 y y w10 (HY9.out.below hB10) hy10 HYl.out HYl.out (by rw [← HYl.out]; omega) (by rw [← HYl.out]; omega)
        simp only [eq_self, decide_true] at p10
        have P10 := Lib.hid p10
        clear hy10 hB10 P8'' HB9 HY9 HS9 p10
        go_wp2_with fail
        refine (P10.out).mono ?_
        rintro e w11 ⟨rfl, q, rfl⟩
        have hB11 := below_drewN HB10.out q
        have HB11 := Lib.hid hB11
        have P9' := Lib.hid (P9.out A9 c9 (w10.drewN q) (HS10.out.drewN q) hB11)
        clear hB11 P10 P9
        go_wp2_with fail
        refine (P9'.out).mono ?_
        rintro e w12 ⟨rfl, hB12⟩
        have hB12w := HB11.out.trans (hB12.mono HB11.out.size)
        have HB12 := Lib.hid hB12w
        have PA' := Lib.hid (PA.out _ (HM.out.below hB12w))
        clear hB12 hB12w P9'
        go_wp2_with fail
        refine (PA'.out).mono ?_
        rintro e w13 ⟨rfl, hB13⟩
        have HF := Lib.hid (HB12.out.trans (hB13.mono HB12.out.size))
        clear hB13
        go_wp2_with fail
        go_ret
        exact ⟨rfl, HF.out⟩
      · have dz : (z != 0) = true := by simpa using hz0
        have P5' := Lib.hid (P5.out hz0 A4 c4 w4 HS4.out)
        clear hz0 P6 P7 P8 P5
        go_wp2_with fail
        refine (P5'.out).mono ?_
        rintro e w5 ⟨rfl, hB5⟩
        have hB5w := HB4.out.trans (hB5.mono HB4.out.size)
        have HB5 := Lib.hid hB5w
        have P4' := Lib.hid (P4.out w5 hB5w)
        clear hB5 hB5w P5' HB4
        go_wp2_with fail
        refine (P4'.out).mono ?_
        rintro e w6 ⟨rfl, hB6⟩
        have HB6 := Lib.hid (HB5.out.trans (hB6.mono HB5.out.size))
        have PN' := Lib.hid (PN.out w6)
        clear hB6 P4' HB5
        go_wp2_with fail
        refine (PN'.out).mono ?_
        rintro e w7 ⟨rfl, hB7⟩
        have hB7w := HB6.out.trans (hB7.mono HB6.out.size)
        have HB7 := Lib.hid hB7w
        have PR' := Lib.hid (PR.out w7)
        have PA' := Lib.hid (PA.out _ (HM.out.below hB7w))
        clear hB7 hB7w PN' HB6
        go_wp2_with fail
        refine (PR'.out).mono ?_
        rintro e w8 ⟨rfl, rfl⟩
        go_wp2_with fail
        refine (PA'.out).mono ?_
        rintro e w13 ⟨rfl, hB13⟩
        have HF := Lib.hid (HB7.out.trans (hB13.mono HB7.out.size))
        clear hB13
        go_wp2_with fail
        go_ret
        exact ⟨rfl, HF.out⟩
end Go.Proofs.YtjilejmchaejiaaDoor
