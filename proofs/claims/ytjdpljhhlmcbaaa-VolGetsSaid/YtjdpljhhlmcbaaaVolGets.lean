/- The walk of the law VolGets: it answers true, whatever comes in. No condition. -/
import Derived.Test.YtjdpljhhlmcbaaaVolGetR
import Derived.Test.YtjdpljhhlmcbaaaVolBack
import Derived.Test.YtjdpljhhlmcbaaaVolLike
import Derived.Test.YtjdpljhhlmcbaaaVolLaw
import Derived.Test.YtjdpljhhlmcbaaaCut8
namespace Go.Proofs.Ytjdpljhhlmcbaaa
open Go.RowKit Go.Cat Go.Cat.Vol

/-- The two boxes of the law. -/
structure TwoB (g : Nat) (I B : Int) (w w' : World) : Prop where
  a : w'.cell? ⟨g, 0, none⟩ = some (.int .i64 I)
  b : w'.cell? ⟨g, 1, none⟩ = some (.int .i64 B)
  c : w'.cell? ⟨g + 1, 0, none⟩ = some (.int .i64 I)
  d : w'.cell? ⟨g + 1, 1, none⟩ = some (.int .i64 B)
  bel : Below w.heap.size w w'
theorem TwoB.below {g : Nat} {I B : Int} {w w1 w2 : World} (h : TwoB g I B w w1) (hb : Below w1.heap.size w1 w2) : TwoB g I B w w2 := by
  obtain ⟨a, b, c, d, e⟩ := four_below ⟨h.a, h.b, h.c, h.d, h.bel⟩ hb
  exact ⟨a, b, c, d, e⟩

set_option maxRecDepth 100000 in
set_option maxHeartbeats 2000000 in
theorem gets_walk (I B : Int) (A : Option Addr) (c : Nat) (bs : List UInt8) (w : World) (hb : Bytes w A bs) (hn : bs.length ≤ c) (hc : c ≤ maxLen) (hnil : A = none → c = 0) :
    Calls Try.prog 4 #[.agg #[.int .i64 I, .int .i64 B], .slice A bs.length c] w fun e w' => e = .returned (.bool true) ∧ Below w.heap.size w w' := by
  obtain ⟨xs, hxs⟩ : ∃ xs, xs = bs.take 2500 := ⟨_, rfl⟩
  have hxl : xs.length ≤ 2500 := by rw [hxs, List.length_take]; omega
  have hxc : xs.length ≤ c := by rw [hxs, List.length_take]; omega
  have hxb : Bytes w A xs := by rw [hxs]; exact hb.take 2500
  have P1 := fun W => cut_any A c 2500 bs W hn hc
  rw [← hxs] at P1
  have HT0 : Hid (TwoB w.heap.size I B w ((w.alloc (.cells #[.int .i64 I, .int .i64 B] 23)).alloc (.cells #[.int .i64 I, .int .i64 B] 25))) := by
    obtain ⟨a, b, c, d, e⟩ := four_new w I B 23 25
    exact ⟨a, b, c, d, e⟩
  have hback := put_back (I := I) (B := B) (b := xs)
  have hin := got_in (I := I) (B := B) (b := xs)
  have hlen := got_length (I := I) (B := B) (b := xs)
  have P2 := fun W (h : Below w.heap.size w W) => vget_any I B A c xs W (hxb.below h) (by omega)
  have P3 := fun W (h : Below w.heap.size w W) => rgetP_any I B A c xs W (hxb.below h) hxc hc hnil
  obtain ⟨l, hl⟩ : ∃ l, l = (getV I B xs).1 := ⟨_, rfl⟩
  obtain ⟨z, hz⟩ : ∃ z, z = (getV I B xs).2 := ⟨_, rfl⟩
  have hlz : getV I B xs = (l, z) := by rw [hl, hz]
  rw [hlz] at P2 P3 hback hin hlen
  have HP1 := Lib.hid P1
  have HP2 := Lib.hid P2
  have HP3 := Lib.hid P3
  have HBack := Lib.hid hback
  have HIn := Lib.hid hin
  have HXb := Lib.hid hxb
  have HLen := Lib.hid hlen
  have c0 : (w.alloc (.cells #[.int .i64 I, .int .i64 B] 23)).cell? ⟨w.heap.size, 0, none⟩ = some (.int .i64 I) := by simp
  have c1 : (w.alloc (.cells #[.int .i64 I, .int .i64 B] 23)).cell? ⟨w.heap.size, 1, none⟩ = some (.int .i64 B) := by simp
  clear hb hn hc hnil hxs hxc hxb P1 P2 P3 hback hin hlen hl hz hlz
  go_enter Try.func4, Try.ntmps4
  go_wp2_with fail
  refine (HP1.out _).mono ?_
  rintro e w1 ⟨rfl, rfl⟩
  go_upto_region 3 with (fail)
  obtain ⟨W2, hW2⟩ : ∃ W2, W2 = (w.alloc (.cells #[.int .i64 I, .int .i64 B] 23)).alloc (.cells #[.int .i64 I, .int .i64 B] 25) := ⟨_, rfl⟩
  have HT2 : Hid (TwoB w.heap.size I B w W2) := by show TwoB _ _ _ _ _; rw [hW2]; exact HT0.out
  rw [← hW2]
  obtain ⟨a0, a1, b0, b1, hbel2⟩ := HT2.out
  have HQ2 := Lib.hid (HP2.out W2 hbel2)
  clear hW2 HT0 c0 c1 HP1 HP2 hbel2
  go_wp2_with fail
  refine (HQ2.out).mono ?_
  rintro e w3 ⟨A3, c3, rs, rfl, hrs, hpa3, hB3⟩
  have HT3 := Lib.hid (HT2.out.below hB3)
  replace hrs : rs.map (·.1) = l := hrs
  have HRs := Lib.hid hrs
  have HPa3 := Lib.hid hpa3
  have HQ3 := Lib.hid (HP3.out w3 HT3.out.bel)
  obtain ⟨n, hn⟩ : ∃ n, n = rs.length := ⟨_, rfl⟩
  have HN := Lib.hid hn
  rw [← hn]
  have hn20 : n ≤ 20 := by
    have h1 := HLen.out
    have h2 : l.length = n := by rw [hn, ← hrs]; simp
    omega
  clear hrs hpa3 hB3 hn a0 a1 b0 b1 HT2 HQ2 HP3
  obtain ⟨a0, a1, b0, b1, _⟩ := HT3.out
  go_wp2_with fail
  refine (HQ3.out).mono ?_
  rintro e w4 ⟨A4, c4, qs, rfl, hqs, hpa4, hB4⟩
  have HT4 := Lib.hid (HT3.out.below hB4)
  replace hqs : qs.map (·.1) = l := hqs
  have HQs := Lib.hid hqs
  have HPa4 := Lib.hid hpa4
  have hpk : ∀ r ∈ rs, PvK r.1 := fun r hr => HIn.out r.1 (by rw [← HRs.out]; exact List.mem_map_of_mem hr)
  have hpa34 := HPa3.out.below hB4
  have p5 := vput_any I B A3 rs c3 w4 hpa34 hpk
  rw [HRs.out, ← HN.out] at p5
  have HP5 := Lib.hid p5
  have HPa34 := Lib.hid hpa34
  have HPk := Lib.hid hpk
  obtain ⟨m, hm⟩ : ∃ m, m = qs.length := ⟨_, rfl⟩
  have HM := Lib.hid hm
  rw [← hm]
  clear hqs hpa4 hB4 hpk hpa34 p5 a0 a1 b0 b1 HT3 HQ3 HPa3 hm
  obtain ⟨a0, a1, b0, b1, _⟩ := HT4.out
  go_wp2_with fail
  refine (HP5.out).mono ?_
  rintro e w5 ⟨A5, c5, rfl, hby5, hB5⟩
  have HT5 := Lib.hid (HT4.out.below hB5)
  have p6 := vlike_eq A3 A4 rs qs c3 c4 w5 (HPa34.out.below hB5) (HPa4.out.below hB5) (by rw [HRs.out, HQs.out]) HPk.out (by rw [← HN.out]; omega)
  rw [← HN.out, ← HM.out] at p6
  have HP6 := Lib.hid p6
  have HBy5 := Lib.hid hby5
  clear hby5 hB5 p6 a0 a1 b0 b1 HT4 HP5
  obtain ⟨y, hy⟩ : ∃ y, y = (putV I B l).1 := ⟨_, rfl⟩
  have HY := Lib.hid hy
  obtain ⟨yl, hyl⟩ : ∃ yl, yl = (putV I B l).1.length := ⟨_, rfl⟩
  have HYl := Lib.hid hyl
  rw [← hyl]
  clear hy hyl
  go_wp2_with fail
  refine (HP6.out).mono ?_
  rintro e w6 ⟨rfl, hB6⟩
  have HT6 := Lib.hid (HT5.out.below hB6)
  have HB6 := Lib.hid hB6
  have e1 : (z == z) = true := by simp
  clear hB6 HP6 HT5
  by_cases hz0 : z = 0
  · have e2 : (z != 0) = false := by simpa using hz0
    have hbk : y = xs := by rw [HY.out]; exact HBack.out hz0
    have p7 := same8_any A5 A yl xs.length c5 c y xs w6 (by rw [HY.out]; exact HBy5.out.below HB6.out) (HXb.out.below HT6.out.bel) (by rw [HYl.out, HY.out]) rfl (by rw [hbk]; omega) (by omega)
    rw [hbk] at p7
    simp only [eq_self, decide_true] at p7
    have HP7 := Lib.hid p7
    clear hz0 hbk p7
    go_wp2_with fail
    refine (HP7.out).mono ?_
    rintro e w7 ⟨rfl, q7, rfl⟩
    go_wp2_with fail
    refine (vawake_any _).mono ?_
    rintro e w8 ⟨rfl, hB8⟩
    have hfin := (below_drewN HT6.out.bel q7).trans (hB8.mono HT6.out.bel.size)
    have HF := Lib.hid hfin
    clear hB8 hfin
    go_wp2_with fail
    go_ret
    exact ⟨rfl, HF.out⟩
  · have e2 : (z != 0) = true := by simpa using hz0
    clear hz0
    go_wp2_with fail
    refine (vawake_any _).mono ?_
    rintro e w8 ⟨rfl, hB8⟩
    have hfin := HT6.out.bel.trans (hB8.mono HT6.out.bel.size)
    have HF := Lib.hid hfin
    clear hB8 hfin
    go_wp2_with fail
    go_ret
    exact ⟨rfl, HF.out⟩
end Go.Proofs.Ytjdpljhhlmcbaaa
