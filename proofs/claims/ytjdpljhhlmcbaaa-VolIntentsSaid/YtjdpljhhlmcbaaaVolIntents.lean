/- The walk of the law VolIntents: it answers true, whatever comes in. Condition: keys and versions within their types. -/
import Derived.Test.YtjdpljhhlmcbaaaIntVSort
import Derived.Test.YtjdpljhhlmcbaaaIntRSort
import Derived.Test.YtjdpljhhlmcbaaaIntRBytes
import Derived.Test.YtjdpljhhlmcbaaaIntVG
import Derived.Deep.DeepCutAuto
namespace Go.Cat.Vol
open Go.RowKit Go.Cat
theorem put_err (I B : Int) (l : List Pv) : (putV I B l).2 = checkV I B l := by
  by_cases h : checkV I B l = 0
  · by_cases h2 : l = []
    · rw [putV_no (.inr h2)]
    · rw [putV_yes h h2, h]
  · rw [putV_no (.inl h)]
theorem put_none {I B : Int} {l : List Pv} (h : checkV I B l ≠ 0) : (putV I B l).1 = [] := by rw [putV_no (.inl h)]
theorem put_bytes {I B : Int} {l : List Pv} (h : checkV I B l = 0) : (putV I B l).1 = bytesP l := by
  unfold bytesP
  by_cases h2 : l = []
  · rw [putV_no (.inr h2), if_pos h2]
  · rw [putV_yes h h2, if_neg h2]
theorem get_of {I B : Int} {l : List Pv} (h : checkV I B l = 0) (hk : ∀ p ∈ l, PvK p) : getV I B (bytesP l) = (l, 0) := by
  unfold bytesP
  by_cases h2 : l = []
  · rw [if_pos h2, getV_nil, h2]
  · rw [if_neg h2]
    exact get_put h h2 (fits_of h fun p hp => ⟨(hk p hp).key0, by have := (hk p hp).key1; omega, (hk p hp).ver0, by have := (hk p hp).ver1; omega⟩)
theorem bytes_le {I B : Int} {l : List Pv} (h : checkV I B l = 0) (hk : ∀ p ∈ l, PvK p) : (bytesP l).length ≤ 1561 := by
  have hf := fits_of h fun p hp => ⟨(hk p hp).key0, by have := (hk p hp).key1; omega, (hk p hp).ver0, by have := (hk p hp).ver1; omega⟩
  have hl := (check_zero h).2.1
  unfold bytesP
  by_cases h2 : l = []
  · rw [if_pos h2]; simp
  · rw [if_neg h2, ← encTo_all]
    have := encTo_le (l := l) (fun p hp => (hf p hp).2.2.2.2) l.length (Nat.le_refl _)
    omega
end Go.Cat.Vol
namespace Go.Proofs.Ytjdpljhhlmcbaaa
open Go.RowKit Go.Cat Go.Cat.Vol

set_option maxRecDepth 100000 in
set_option maxHeartbeats 8000000 in
theorem intents_walk (I B : Int) (A : Option Addr) (c : Nat) (rs : List Pr) (w : World) (hp : Pats w A rs) (hin : ∀ r ∈ rs, PvK r.1) (hn : rs.length ≤ 9223372036854775807) :
    Calls Try.prog 5 #[.agg #[.int .i64 I, .int .i64 B], .slice A rs.length c] w fun e w' => e = .returned (.bool true) ∧ Below w.heap.size w w' := by
  have HT0 : Hid (TwoB w.heap.size I B w ((w.alloc (.cells #[.int .i64 I, .int .i64 B] 23)).alloc (.cells #[.int .i64 I, .int .i64 B] 25))) := by
    obtain ⟨a, b, c, d, e⟩ := four_new w I B 23 25
    exact ⟨a, b, c, d, e⟩
  have p1 := pfar_any A rs c (w.alloc (.cells #[.int .i64 I, .int .i64 B] 23)) (hp.row.alloc _) hn
  have p2 := fun (h : rs.length ≤ 40) W (h2 : Below w.heap.size w W) => (pours_any A rs c W (hp.row.below h2) (by omega)).mono (R' := fun e w' => ∃ A' c', e = .returned (.slice A' rs.length c') ∧ Pats w' A' rs ∧ Below W.heap.size W w') fun e w' ⟨A', c', h3, h4, h5⟩ => ⟨A', c', h3, ⟨h4, fun r hr => ((hp.each r hr).below h2).below h5⟩, h5⟩
  have p3 := fun A' c' W (h : Pats W A' rs) => vcheck_any I B A' rs c' W h.row hin
  have p4 := fun A' c' W (h : Pats W A' rs) => vput_any I B A' rs c' W h hin
  have p5 := fun W (h2 : Below w.heap.size w W) => rcheck_any I B A rs c W (hp.below h2).row hin
  have p6 := fun (h : rs.length ≤ 40) (hb : ∀ r ∈ rs, r.1.b.length ≤ 200) A' c' W (h2 : Pats W A' rs) => vsort_any A' rs c' W h2 h hb
  have p7 := fun (h : rs.length ≤ 40) W (h2 : Below w.heap.size w W) => rsort_any A rs c W (hp.below h2) h
  have hinL : ∀ p ∈ rs.map (·.1), PvK p := fun p hp' => by obtain ⟨r, hr, rfl⟩ := List.mem_map.1 hp'; exact hin r hr
  have p8 : Hid (rs.length ≤ 40 → ∀ A1 A2 c1 c2 xs ys W, Pats W A1 xs → Pats W A2 ys → xs.map (·.1) = sortV (rs.map (·.1)) → ys.map (·.1) = sortV (rs.map (·.1)) → Calls Try.prog 20 #[.slice A1 xs.length c1, .slice A2 ys.length c2] W fun e w' => e = .returned (.bool true) ∧ Below W.heap.size W w') := fun h A1 A2 c1 c2 xs ys W h1 h2 h3 h4 => vlike_eq A1 A2 xs ys c1 c2 W h1 h2 (h3.trans h4.symm) (fun r hr => hinL _ ((sortV_perm _).mem_iff.1 (by rw [← h3]; exact List.mem_map.2 ⟨r, hr, rfl⟩))) (by
    have := congrArg List.length h3
    rw [List.length_map, (sortV_perm _).length_eq, List.length_map] at this
    omega)
  have p9 : Hid (checkV I B (rs.map (·.1)) = 0 → ∀ A1 c1 xs W, Pats W A1 xs → xs.map (·.1) = rs.map (·.1) → Below w.heap.size w W → Calls Try.prog 20 #[.slice A1 xs.length c1, .slice A rs.length c] W fun e w' => e = .returned (.bool true) ∧ Below W.heap.size W w') := fun hc A1 c1 xs W h1 h2 h3 => vlike_eq A1 A xs rs c1 c W h1 (hp.below h3) h2 (fun r hr => hinL _ (by rw [← h2]; exact List.mem_map.2 ⟨r, hr, rfl⟩)) (by
    have := congrArg List.length h2
    rw [List.length_map, List.length_map] at this
    have := (check_zero hc).2.1
    rw [List.length_map] at this
    omega)
  have p10 := fun (hc : checkV I B (rs.map (·.1)) = 0) W (h2 : Below w.heap.size w W) => rpbytes_any A rs c W (hp.below h2) (by have := (check_zero hc).2.1; rw [List.length_map] at this; omega) (fun r hr => fits_of hc (fun p hp' => ⟨(hinL p hp').key0, by have := (hinL p hp').key1; omega, (hinL p hp').ver0, by have := (hinL p hp').ver1; omega⟩) r.1 (List.mem_map.2 ⟨r, hr, rfl⟩))
  have e1 : (putV I B (rs.map (·.1))).2 = checkV I B (rs.map (·.1)) := put_err I B _
  have e2 : checkV I B (rs.map (·.1)) ≠ 0 → (putV I B (rs.map (·.1))).1 = [] := put_none
  have e3 : checkV I B (rs.map (·.1)) = 0 → (putV I B (rs.map (·.1))).1 = bytesP (rs.map (·.1)) := put_bytes
  have e4 : checkV I B (rs.map (·.1)) = 0 → getV I B (bytesP (rs.map (·.1))) = (rs.map (·.1), 0) := fun h => get_of h hinL
  have e5 : checkV I B (rs.map (·.1)) = 0 → (bytesP (rs.map (·.1))).length ≤ 1561 := fun h => bytes_le h hinL
  unfold ToldPut at p4
  rw [e1] at p4
  unfold ToldV at p6 p7
  unfold ToldBy at p10
  obtain ⟨L, hL⟩ : ∃ L, L = rs.map (·.1) := ⟨_, rfl⟩
  rw [← hL] at p3 p4 p5 p6 p7 p8 p9 p10 e2 e3 e4 e5
  obtain ⟨Sl, hSl⟩ : ∃ Sl, Sl = sortV L := ⟨_, rfl⟩
  rw [← hSl] at p6 p7 p8
  obtain ⟨Y, hY⟩ : ∃ Y, Y = (putV I B L).1 := ⟨_, rfl⟩
  rw [← hY] at p4 e2 e3
  obtain ⟨V, hV⟩ : ∃ V, V = checkV I B L := ⟨_, rfl⟩
  rw [← hV] at p3 p4 p5 p9 p10 e2 e3 e4 e5
  obtain ⟨n, hnn⟩ : ∃ n, n = rs.length := ⟨_, rfl⟩
  rw [← hnn] at p1 p2 p3 p4 p5 p6 p7 p8 p9 p10 hn ⊢
  have p11 := fun (A' : Option Addr) c' W (h : Bytes W A' (bytesP L)) (hl : (bytesP L).length ≤ 1561) => vget_any I B A' c' (bytesP L) W h (by omega)
  unfold GotP at p11
  obtain ⟨Z, hZ⟩ : ∃ Z, Z = bytesP L := ⟨_, rfl⟩
  rw [← hZ] at p10 p11 e3 e4 e5
  have P1 := Lib.hid p1
  have P2 := Lib.hid p2
  have P3 := Lib.hid p3
  have P4 := Lib.hid p4
  have P5 := Lib.hid p5
  have P6 := Lib.hid p6
  have P7 := Lib.hid p7
  have P10 := Lib.hid p10
  have P11 := Lib.hid p11
  have E2 := Lib.hid e2
  have E3 := Lib.hid e3
  have E4 := Lib.hid e4
  have E5 := Lib.hid e5
  have HN := Lib.hid hnn
  have PA := Lib.hid (fun W => vawake_any W)
  have d1 : (V != V) = false := by simp
  have c0 : (w.alloc (.cells #[.int .i64 I, .int .i64 B] 23)).cell? ⟨w.heap.size, 0, none⟩ = some (.int .i64 I) := by simp
  have c1 : (w.alloc (.cells #[.int .i64 I, .int .i64 B] 23)).cell? ⟨w.heap.size, 1, none⟩ = some (.int .i64 B) := by simp
  have hB0 : Below w.heap.size w (w.alloc (.cells #[.int .i64 I, .int .i64 B] 23)) := (Below.refl _ _).alloc (Nat.le_refl _) _
  have HB0 := Lib.hid hB0
  clear p1 p2 p3 p4 p5 p6 p7 p10 p11 e1 e2 e3 e4 e5 hL hSl hY hV hZ hnn hinL hin hp hB0
  go_enter Try.func5, Try.ntmps5
  go_wp2_with fail
  refine (P1.out).mono ?_
  rintro e w1 ⟨⟨f, rfl, hf⟩, rfl⟩
  cases f with
  | true =>
    have PA' := Lib.hid (PA.out (w.alloc (.cells #[.int .i64 I, .int .i64 B] 23)))
    clear hf
    go_wp2_with fail
    refine (PA'.out).mono ?_
    rintro e w7 ⟨rfl, hB7⟩
    have HF := Lib.hid (HB0.out.trans (hB7.mono HB0.out.size))
    clear hB7
    go_wp2_with fail
    go_ret
    exact ⟨rfl, HF.out⟩
  | false =>
    have hl := hf rfl
    have hl40 : n ≤ 40 := hl.1
    replace P2 := Lib.hid (P2.out hl40)
    replace P6 := Lib.hid (P6.out hl40 hl.2)
    replace P7 := Lib.hid (P7.out hl40)
    replace p8 := Lib.hid (p8.out hl40)
    clear hf hl
    go_upto_region 4 with (fail)
    obtain ⟨W2, hW2⟩ : ∃ W2, W2 = (w.alloc (.cells #[.int .i64 I, .int .i64 B] 23)).alloc (.cells #[.int .i64 I, .int .i64 B] 25) := ⟨_, rfl⟩
    have HT2 : Hid (TwoB w.heap.size I B w W2) := by show TwoB _ _ _ _ _; rw [hW2]; exact HT0.out
    rw [← hW2]
    clear hW2 c0 c1 HT0
    go_cut [6] (fun s6 wc => s6 = .int .i64 V ∧ Hid (TwoB w.heap.size I B w wc))
    case first =>
      obtain ⟨c0, c1, c2, c3, _⟩ := HT2.out
      go_region_law (first
        | (go_simp; go_at_call 24; refine (P2.out W2.drew HT2.out.bel.drew).mono ?_; rintro e w3 ⟨A3, c3', rfl, hp3, hB3⟩; have HT3 := Lib.hid (HT2.out.below (below_undrew hB3)); obtain ⟨b0, b1, b2, b3, _⟩ := HT3.out; have HP3 := Lib.hid hp3; clear hp3 hB3)
        | (go_simp; go_at_call 23; refine (P3.out A3 c3' w3 HP3.out).mono ?_; rintro e w4 ⟨rfl, hB4⟩; have HT4 := Lib.hid (HT3.out.below hB4); clear hB4)
        | fail)
      all_goals
        go_wp2_with fail
        go_meet
        exact ⟨rfl, HT4⟩
    case rest =>
      obtain ⟨rfl, HT4⟩ := hcut
      clear HT2
      go_upto_region 5 with (fail)
      go_cut [7, 8] (fun s7 s8 wd => ∃ (Ab : Option Addr) (cb : Nat), s7 = .slice Ab Y.length cb ∧ s8 = .int .i64 V ∧ Hid (Bytes wd Ab Y) ∧ Hid (TwoB w.heap.size I B w wd))
      case first =>
        obtain ⟨c0, c1, c2, c3, _⟩ := HT4.out
        go_region_law (first
          | (go_simp; go_at_call 24; refine (P2.out wc.drew HT4.out.bel.drew).mono ?_; rintro e w3 ⟨A3, c3', rfl, hp3, hB3⟩; have HT3 := Lib.hid (HT4.out.below (below_undrew hB3)); obtain ⟨b0, b1, b2, b3, _⟩ := HT3.out; have HP3 := Lib.hid hp3; clear hp3 hB3)
          | (go_simp; go_at_call 19; refine (P4.out A3 c3' w3 HP3.out).mono ?_; rintro e w4 ⟨Ab, cb, rfl, hb4, hB4⟩; have HT5 := Lib.hid (HT3.out.below hB4); have HY4 := Lib.hid hb4; clear hB4 hb4)
          | fail)
        all_goals
          go_wp2_with fail
          go_meet
          exact ⟨Ab, cb, rfl, rfl, HY4, HT5⟩
      case rest =>
        obtain ⟨Ab, cb, rfl, rfl, HY, HT5⟩ := hcut
        obtain ⟨c0, c1, c2, c3, _⟩ := HT5.out
        have P5' := Lib.hid (P5.out wc HT5.out.bel)
        clear HT4
        go_wp2_with fail
        refine (P5'.out).mono ?_
        rintro e w6 ⟨rfl, hB6⟩
        have HT6 := Lib.hid (HT5.out.below hB6)
        have HY6 := Lib.hid (HY.out.below hB6)
        have P2' := Lib.hid (P2.out w6 HT6.out.bel)
        clear hB6 c0 c1 c2 c3 P5' HT5 HY
        go_wp2_with fail
        refine (P2'.out).mono ?_
        rintro e w7 ⟨A7, c7, rfl, hp7, hB7⟩
        have HT7 := Lib.hid (HT6.out.below hB7)
        have HY7 := Lib.hid (HY6.out.below hB7)
        have P6' := Lib.hid (P6.out A7 c7 w7 hp7)
        clear hB7 hp7 P2' HT6 HY6
        go_wp2_with fail
        refine (P6'.out).mono ?_
        rintro e w8 ⟨A8, c8, xs, rfl, hx8, hp8, hB8⟩
        have HT8 := Lib.hid (HT7.out.below hB8)
        have HY8 := Lib.hid (HY7.out.below hB8)
        have HP8 := Lib.hid hp8
        have HX8 := Lib.hid hx8
        have P7' := Lib.hid (P7.out w8 HT8.out.bel)
        obtain ⟨nx, hnx⟩ : ∃ nx, nx = xs.length := ⟨_, rfl⟩
        have HNx := Lib.hid hnx
        rw [← hnx]
        clear hB8 hp8 hx8 hnx P6' HT7 HY7
        go_wp2_with fail
        refine (P7'.out).mono ?_
        rintro e w9 ⟨A9, c9, ys, rfl, hx9, hp9, hB9⟩
        have HT9 := Lib.hid (HT8.out.below hB9)
        have HY9 := Lib.hid (HY8.out.below hB9)
        have P8' := Lib.hid (p8.out A8 A9 c8 c9 xs ys w9 (HP8.out.below hB9) hp9 HX8.out hx9)
        rw [← HNx.out] at P8'
        obtain ⟨ny, hny⟩ : ∃ ny, ny = ys.length := ⟨_, rfl⟩
        rw [← hny] at P8' ⊢
        clear hB9 hp9 hx9 hny P7' HT8 HY8
        go_wp2_with fail
        refine (P8'.out).mono ?_
        rintro e w10 ⟨rfl, hB10⟩
        have HT10 := Lib.hid (HT9.out.below hB10)
        have HY10 := Lib.hid (HY9.out.below hB10)
        clear hB10 P8' HT9 HY9
        by_cases hv : V = 0
        · have dv : (V != 0) = false := by simpa using hv
          have hYZ := E3.out hv
          have hg := E4.out hv
          have hle := E5.out hv
          have P10' := Lib.hid (P10.out hv)
          have P9' := Lib.hid (p9.out hv)
          subst hYZ
          have P11' := Lib.hid (fun A' c' W (h : Bytes W A' Y) => P11.out A' c' W h hle)
          rw [hg] at P11'
          obtain ⟨c0, c1, c2, c3, _⟩ := HT10.out
          have P11'' := Lib.hid (P11'.out Ab cb w10 HY10.out)
          have HLe := Lib.hid hle
          obtain ⟨ly, hly⟩ : ∃ ly, ly = Y.length := ⟨_, rfl⟩
          have HLy := Lib.hid hly
          rw [← hly] at P11'' P10' hle ⊢
          clear hv hg P11 P11' P10 p9 P4 hly
          have hle2 : (ly : Int) ≤ 2048 := by omega
          have hle3 : ly ≤ 2048 := by omega
          go_wp2_with fail
          refine (P11''.out).mono ?_
          rintro e w11 ⟨A11, c11, ks, rfl, hk11, hp11, hB11⟩
          have HT11 := Lib.hid (HT10.out.below hB11)
          have HY11 := Lib.hid (HY10.out.below hB11)
          have HK := Lib.hid hk11
          have HP11 := Lib.hid hp11
          have P10'' := Lib.hid (P10'.out w11 HT11.out.bel)
          obtain ⟨nk, hnk⟩ : ∃ nk, nk = ks.length := ⟨_, rfl⟩
          have HNk := Lib.hid hnk
          rw [← hnk]
          clear hB11 hk11 hp11 hnk P11'' HT10 HY10 c0 c1 c2 c3
          go_wp2_with fail
          refine (P10''.out).mono ?_
          rintro e w12 ⟨A12, c12, rfl, hb12, hB12⟩
          have HT12 := Lib.hid (HT11.out.below hB12)
          have HP12 := Lib.hid (HP11.out.below hB12)
          have p12 := same8_any Ab A12 ly ly cb c12 Y Y w12 (HY11.out.below hB12) hb12 HLy.out HLy.out (by rw [← HLy.out]; omega) (by rw [← HLy.out]; omega)
          simp only [eq_self, decide_true] at p12
          have P12 := Lib.hid p12
          clear hB12 hb12 P10'' HT11 HY11 HP11 p12
          go_wp2_with fail
          refine (P12.out).mono ?_
          rintro e w13 ⟨rfl, q, rfl⟩
          have hB13 := below_drewN HT12.out.bel q
          have P13 := Lib.hid (P9'.out A11 c11 ks (w12.drewN q) ⟨HP12.out.row.drewN q, fun r hr => (HP12.out.each r hr)⟩ HK.out hB13)
          rw [← HNk.out] at P13
          have HB13 := Lib.hid hB13
          clear hB13 P12
          go_wp2_with fail
          refine (P13.out).mono ?_
          rintro e w14 ⟨rfl, hB14⟩
          have HB14 := Lib.hid (HB13.out.trans (hB14.mono HB13.out.size))
          have PA' := Lib.hid (PA.out w14)
          clear hB14 P13
          go_wp2_with fail
          refine (PA'.out).mono ?_
          rintro e w15 ⟨rfl, hB15⟩
          have HF := Lib.hid (HB14.out.trans (hB15.mono HB14.out.size))
          clear hB15
          go_wp2_with fail
          go_ret
          exact ⟨rfl, HF.out⟩
        · have dv : (V != 0) = true := by simpa using hv
          have hY := E2.out hv
          subst hY
          have PA' := Lib.hid (PA.out w10)
          clear hv
          go_wp2_with fail
          refine (PA'.out).mono ?_
          rintro e w15 ⟨rfl, hB15⟩
          have HF := Lib.hid (HT10.out.bel.trans (hB15.mono HT10.out.bel.size))
          clear hB15
          go_wp2_with fail
          go_ret
          exact ⟨rfl, HF.out⟩
end Go.Proofs.Ytjdpljhhlmcbaaa
