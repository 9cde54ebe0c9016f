/- The walk of the law DirsGets: it answers true, whatever comes in. Condition: the library's variable MaxLen holds an int. -/
import Derived.Test.YtjilejmchaejiaaDoorEntGetR
import Derived.Test.YtjilejmchaejiaaDoorEntLike
import Derived.Test.YtjilejmchaejiaaDoorCut8
import Derived.Test.YtjilejmchaejiaaDoorDirsPaths
namespace Go.Cat.Dir
open Go.RowKit Go.Cat
theorem checkE_nil : checkE [] = 0 := rfl
theorem getE_fine (b : List UInt8) : checkE (getE b).1 = 0 ∧ ((getE b).2 = 0 → bytesE (getE b).1 = b) ∧ (getE b).1.length ≤ 1000000 := by
  by_cases h : (getE b).2 = 0
  · obtain ⟨h1, h2, h3, h4, h5⟩ := get_ok h
    rw [h5]
    exact ⟨h4, fun _ => bytes_good h2 h3, by show (entsE b).length ≤ _; rw [ents_length]; omega⟩
  · have : (getE b).1 = [] := by
      unfold getE at h ⊢
      split
      · rfl
      · rename_i h1
        rw [if_neg h1] at h
        split
        · rfl
        · rename_i h2
          rw [if_neg h2] at h
          split
          · rename_i h3
            rw [if_pos h3] at h
            exact absurd rfl h
          · rfl
    rw [this]
    exact ⟨rfl, fun h2 => absurd h2 h, by simp⟩
end Go.Cat.Dir
namespace Go.Proofs.YtjilejmchaejiaaDoor
open Go.RowKit Go.Cat Go.Cat.Dir

set_option maxRecDepth 100000 in
set_option maxHeartbeats 2000000 in
theorem dgets_walk (A : Option Addr) (c : Nat) (b : List UInt8) (m : Int) (w : World) (hm : MaxL m w) (hb : Bytes w A b) (hn : b.length ≤ c) (hc : c ≤ maxLen) :
    Calls Tryd.prog 5 #[.slice A b.length c] w fun e w' => e = .returned (.bool true) ∧ Below w.heap.size w w' := by
  obtain ⟨xs, hxs⟩ : ∃ xs, xs = b.take 700 := ⟨_, rfl⟩
  have hxl : xs.length ≤ 700 := by rw [hxs, List.length_take]; omega
  have hxc : xs.length ≤ c := by rw [hxs, List.length_take]; omega
  have hxb : Bytes w A xs := by rw [hxs]; exact hb.take 700
  have p1 := cut_any A c 700 b w hn hc
  rw [← hxs] at p1
  have p2 := dget_any A c xs w hxb (by omega)
  have p3 := fun W (h : Below w.heap.size w W) => rget_any A c xs W (hxb.below h) hxc (by omega)
  obtain ⟨hf1, hf2, hf3⟩ := getE_fine xs
  have p4 := fun A2 c2 W (h : Sees W A2 (erows (getE xs).1)) => dput_ok A2 (getE xs).1 c2 W h hf1
  have p5 := fun A2 B c2 d W (h : Sees W A2 (erows (getE xs).1)) (h2 : Sees W B (erows (getE xs).1)) => elike_yes A2 B (getE xs).1 c2 d W h h2 hf3
  unfold ToldG at p2 p3
  unfold ToldP at p4
  obtain ⟨l, hl⟩ : ∃ l, l = (getE xs).1 := ⟨_, rfl⟩
  obtain ⟨z, hz⟩ : ∃ z, z = (getE xs).2 := ⟨_, rfl⟩
  rw [← hl] at p2 p3 p4 p5 hf2
  rw [← hz] at p2 p3 hf2
  obtain ⟨n, hnl⟩ : ∃ n, n = l.length := ⟨_, rfl⟩
  rw [← hnl] at p2 p3 p4 p5
  obtain ⟨y, hy⟩ : ∃ y, y = bytesE l := ⟨_, rfl⟩
  rw [← hy] at p4 hf2
  obtain ⟨yl, hyl⟩ : ∃ yl, yl = y.length := ⟨_, rfl⟩
  rw [← hyl] at p4
  obtain ⟨xl, hxll⟩ : ∃ xl, xl = xs.length := ⟨_, rfl⟩
  rw [← hxll] at p1 p2 p3
  have HM : Hid (MaxL m w) := hm
  have P1 := Lib.hid p1
  have P2 := Lib.hid p2
  have P3 := Lib.hid p3
  have P4 := Lib.hid p4
  have P5 := Lib.hid p5
  have HF2 := Lib.hid hf2
  have HXb := Lib.hid hxb
  have HYl := Lib.hid hyl
  have HXl := Lib.hid hxll
  have HL := Lib.hid hxl
  have PA := Lib.hid (fun W (h : MaxL m W) => dawake_any m W h)
  have e1 : (z == z) = true := by simp
  clear hm hb hn hc hxs hxc hxb p1 p2 p3 p4 p5 hf1 hf2 hf3 hl hz hnl hy hyl hxll hxl
  go_enter Tryd.func5, Tryd.ntmps5
  go_wp2_with fail
  refine (P1.out).mono ?_
  rintro e w1 ⟨rfl, rfl⟩
  go_wp2_with fail
  refine (P2.out).mono ?_
  rintro e w2 ⟨A2, c2, rfl, hs2, hB2⟩
  have HS2 := Lib.hid hs2
  have HB2 := Lib.hid hB2
  have P3' := Lib.hid (P3.out w2 hB2)
  clear hs2 hB2 P1 P2 P3
  go_wp2_with fail
  refine (P3'.out).mono ?_
  rintro e w3 ⟨A3, c3, rfl, hs3, hB3⟩
  have HS2' := Lib.hid (HS2.out.below hB3)
  have HS3 := Lib.hid hs3
  have HB3 := Lib.hid (HB2.out.trans (hB3.mono HB2.out.size))
  have P4' := Lib.hid (P4.out A2 c2 w3 HS2'.out)
  clear hs3 hB3 P3' P4 HB2
  go_wp2_with fail
  refine (P4'.out).mono ?_
  rintro e w4 ⟨A4, c4, rfl, hy4, hB4⟩
  have hB4w := HB3.out.trans (hB4.mono HB3.out.size)
  have HY4 := Lib.hid hy4
  have HB4 := Lib.hid hB4w
  have P5' := Lib.hid (P5.out A2 A3 c2 c3 w4 (HS2'.out.below hB4) (HS3.out.below hB4))
  clear hy4 hB4 hB4w P4' P5 HB3 HS2 HS2' HS3
  go_wp2_with fail
  refine (P5'.out).mono ?_
  rintro e w5 ⟨rfl, hB5⟩
  have hB5w := HB4.out.trans (hB5.mono HB4.out.size)
  have HB5 := Lib.hid hB5w
  have HY5 := Lib.hid (HY4.out.below hB5)
  clear hB5 P5' HY4 HB4
  by_cases hz0 : z = 0
  · have e2 : (z != 0) = false := by simpa using hz0
    have hyx := HF2.out hz0
    have p6 := same8_any A4 A yl xl c4 c y xs w5 HY5.out (HXb.out.below hB5w) HYl.out HXl.out (by rw [hyx]; have := HL.out; omega) (by have := HL.out; omega)
    rw [hyx] at p6
    simp only [eq_self, decide_true] at p6
    have P6 := Lib.hid p6
    clear hz0 hyx p6 hB5w
    go_wp2_with fail
    refine (P6.out).mono ?_
    rintro e w6 ⟨rfl, q, rfl⟩
    have hB6 := below_drewN HB5.out q
    have HB6 := Lib.hid hB6
    have PA' := Lib.hid (PA.out _ (HM.out.below hB6))
    clear hB6
    go_wp2_with fail
    refine (PA'.out).mono ?_
    rintro e w7 ⟨rfl, hB7⟩
    have HF := Lib.hid (HB6.out.trans (hB7.mono HB6.out.size))
    clear hB7
    go_wp2_with fail
    go_ret
    exact ⟨rfl, HF.out⟩
  · have e2 : (z != 0) = true := by simpa using hz0
    have PA' := Lib.hid (PA.out _ (HM.out.below hB5w))
    clear hz0 hB5w
    go_wp2_with fail
    refine (PA'.out).mono ?_
    rintro e w7 ⟨rfl, hB7⟩
    have HF := Lib.hid (HB5.out.trans (hB7.mono HB5.out.size))
    clear hB7
    go_wp2_with fail
    go_ret
    exact ⟨rfl, HF.out⟩
end Go.Proofs.YtjilejmchaejiaaDoor
