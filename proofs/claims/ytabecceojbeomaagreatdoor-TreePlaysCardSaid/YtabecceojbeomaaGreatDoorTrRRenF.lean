/- The reference's rename where it is done, one of two ways. Conditions: the tree's invariant; at most 400 things; paths below 2^32 bytes; kind Rename. -/
import Derived.Test.YtabecceojbeomaaGreatDoorTrRB
import Derived.Test.YtabecceojbeomaaGreatDoorDirUnder2
import Derived.Deep.DeepCutAuto
namespace Go.Proofs.YtabecceojbeomaaGreatDoor
open Go.RowKit Go.Cat Go.Cat.Dir Go.Cat.Tree

set_option maxRecDepth 100000 in
set_option maxHeartbeats 8000000 in
theorem rren_goodF (I J : Int) (A : Option Addr) (es : List (Txt × El)) (ca : Nat) (c : CallV) (Ac : Option Addr) (cA : Nat) (w : World) (h : RT w A ca es) (hi : Inv (fullR es)) (hn : es.length ≤ 400) (hp : c.path.length < 4294967281) (hto : c.to.length < 4294967281) (hkd : c.kind = 5) (hA : abe c.path = 0 ∧ abe c.to = 0) (hF : (findV (fullR es) c.path).1 = 0) (hd : (findV (fullR es) c.path).2.dir = false) (hG : lgB (findV (fullR es) c.path).2.dir c = false) (hU : (upV (fullR es) c.to).1 = 0) (hM : (getR c.to es).isSome = false) (hb : bgB (fullR es) c = false) :
    Calls Tryz.prog 42 #[.agg #[.int .i64 I, .int .i64 J, .slice A es.length ca], .agg (callC c Ac cA)] w (ToldRDo (doV I J (fullR es) c) I J w) := by
  have HInv := Lib.hid hi
  have pa1 := fun W => rabove_any c.path W hp
  have pa2 := fun W => rabove_any c.to W hto
  unfold ToldAb at pa1 pa2
  have pf := fun W (hW : Below w.heap.size w W) => rfind_any I J A es ca c.path W (h.below hW) (by omega) hp
  unfold ToldRF rtC at pf
  have pu := fun W => runder_any c.to c.path W hto hp
  have ps1 := fun W => rsplit_any c.path W hp
  have ps2 := fun W => rsplit_any c.to W hto
  unfold ToldSp at ps1 ps2
  have pp := fun W (hW : Below w.heap.size w W) => rplace_any I J A es ca c.to W (h.below hW) (by omega) hto
  have pt := fun W (hW : Below w.heap.size w W) => rat_any I J A es ca c.to W (h.below hW) (by omega)
  unfold ToldAt rtC at pt
  have pn := fun W (hW : Below w.heap.size w W) => rnames_any I J A es ca (upV (fullR es) c.to).2 W (h.below hW) (fun y hy => full_abe hi hy) (full_rise hi) (by omega)
  unfold ToldT at pn
  simp only [← names_full] at pn
  have hnl : (namesV (upV (fullR es) c.to).2 (fullR es)).length ≤ 100000 := by rw [names_full]; have := namesV_le (upV (fullR es) c.to).2 (ths es); rw [ths_length] at this; omega
  have hl : lpB (findV (fullR es) c.path).2.dir c = false := by unfold lpB; rw [hd]; rfl
  have e8 := ren_ok (es := es) (c := c) (I := I) (J := J) hi hkd hA hF hl hG hU (by rw [full_some]; exact hM) hb
  unfold bgB at hb
  obtain ⟨na, hna⟩ : ∃ na, na = (spl c.path).length := ⟨_, rfl⟩
  obtain ⟨nb, hnb⟩ : ∃ nb, nb = (spl c.to).length := ⟨_, rfl⟩
  simp only [← hna] at ps1
  simp only [← hnb] at ps2
  obtain ⟨mt, hmt⟩ : ∃ mt, mt = (getR c.to es).isSome := ⟨_, rfl⟩
  obtain ⟨zx, hzx⟩ : ∃ zx, zx = (getR c.to es).getD zeroE := ⟨_, rfl⟩
  obtain ⟨zq, hzq⟩ : ∃ zq, zq = if (getR c.to es).isSome then c.to else [] := ⟨_, rfl⟩
  simp only [← hzq] at pt
  simp only [← hzx, ← hmt] at pt
  obtain ⟨a1, ha1⟩ : ∃ a1, a1 = abe c.path := ⟨_, rfl⟩
  obtain ⟨a2, ha2⟩ : ∃ a2, a2 = abe c.to := ⟨_, rfl⟩
  rw [← ha1, ← ha2] at hA
  simp only [← ha1] at pa1
  simp only [← ha2] at pa2
  obtain ⟨fr, hfr⟩ : ∃ fr, fr = (abv c.path).1 := ⟨_, rfl⟩
  simp only [← hfr] at pa1
  rw [← hmt] at hM
  subst hM
  obtain ⟨Q, hQ⟩ : ∃ Q, Q = doV I J (fullR es) c := ⟨_, rfl⟩
  rw [← hQ] at e8 ⊢
  obtain ⟨r, hr⟩ : ∃ r, r = findV (fullR es) c.path := ⟨_, rfl⟩
  rw [← hr] at pf hF hd
  obtain ⟨up, hup⟩ : ∃ up, up = upV (fullR es) c.to := ⟨_, rfl⟩
  rw [← hup] at hU hnl hb
  simp only [← hup] at pp pn
  obtain ⟨nm, hnm⟩ : ∃ nm, nm = (namesV up.2 (fullR es)).length := ⟨_, rfl⟩
  rw [← hnm] at hnl hb
  simp only [← hnm] at pn
  rw [← hfr] at hb
  obtain ⟨tp, htp⟩ : ∃ tp, tp = if r.1 = 0 then c.path else [] := ⟨_, rfl⟩
  simp only [← htp] at pf
  have PA1 := Lib.hid pa1
  have PA2 := Lib.hid pa2
  have PU := Lib.hid pu
  have PS1 := Lib.hid ps1
  have PS2 := Lib.hid ps2
  have HE := Lib.hid e8
  have HNl := Lib.hid hnl
  have HA := Lib.hid hA
  have HF := Lib.hid hF
  have HDir := Lib.hid hd
  have HU := Lib.hid hU
  have HBg := Lib.hid hb
  have HRT := Lib.hid h
  obtain ⟨k, hk⟩ : ∃ k, k = es.length := ⟨_, rfl⟩
  have HK := Lib.hid hk
  rw [← hk] at pf pp pt pn ⊢
  have PF0 := Lib.hid pf
  have PP0 := Lib.hid pp
  have PT0 := Lib.hid pt
  have PN0 := Lib.hid pn
  obtain ⟨W0, hW0⟩ : ∃ W0, W0 = (((w.alloc (.cells #[.int .i64 I, .int .i64 J, .slice A k ca] 53)).alloc (.cells (callC c Ac cA) 33)).alloc (.cells #[.int .i64 0, .int .i64 0, .slice none 0 0] 53)).alloc (.cells #[.int .i64 0, .slice none 0 0, .slice none 0 0, .int .i64 0, .bool false] 36) := ⟨_, rfl⟩
  have HX0 := Lib.hid (RxW.new hW0)
  have HW0 := Lib.hid hW0
  clear hk hW0 h hi pa1 pa2 pf pu ps1 ps2 pp pt pn hnl e8 hA hF hd hG hU hl hb hQ hr hna hnb ha1 ha2 hfr hup hnm hmt hzx hzq htp
  go_enter Tryz.func42, Tryz.ntmps42
  go_upto_region 1 with (fail)
  rw [← HW0.out, show w.heap.size + 1 + 1 = w.heap.size + 2 from rfl, show w.heap.size + 2 + 1 = w.heap.size + 3 from rfl]
  clear HW0
  obtain ⟨c0, c1, c2, c3, c4, c5, lC⟩ := HX0.out.call
  go_wp2_with fail
  refine (PA1.out W0).mono ?_
  rintro e w1 ⟨rfl, hB1⟩
  have HX1 := Lib.hid (HX0.out.below hB1)
  clear hB1 PA1 HX0 c0 c1 c2 c3 c4 c5 lC
  obtain ⟨c0, c1, c2, c3, c4, c5, lC⟩ := HX1.out.call
  go_wp2_with fail
  refine (PA2.out w1).mono ?_
  rintro e w2 ⟨rfl, hB2⟩
  have HX2 := Lib.hid (HX1.out.below hB2)
  clear hB2 PA2 HX1 c0 c1 c2 c3 c4 c5 lC
  have d1 : (a1 != 0) = false := by rw [HA.out.1]; rfl
  have d2 : (a2 != 0) = false := by rw [HA.out.2]; rfl
  obtain ⟨t0, t1, t2, lT⟩ := HX2.out.tree
  obtain ⟨c0, c1, c2, c3, c4, c5, lC⟩ := HX2.out.call
  have PF := Lib.hid (PF0.out w2 HX2.out.bel)
  clear PF0
  go_wp2_with fail
  refine (PF.out).mono ?_
  rintro e w3 ⟨⟨⟨xd, xb⟩, xa, xc⟩, rfl, hx2, _, hB3⟩
  have HXd : Hid (xd = r.2.dir) := Lib.hid (by rw [← hx2])
  have HX3 := Lib.hid (HX2.out.below hB3)
  clear hB3 hx2 PF HX2 d1 d2 t0 t1 t2 lT c0 c1 c2 c3 c4 c5 lC
  have hx3 := heap_alloc_new w3 (.cells #[.string (bs tp), .bool xd, .slice xa xb.length xc] 80)
  have HX4 := Lib.hid (HX3.out.alloc (.cells #[.string (bs tp), .bool xd, .slice xa xb.length xc] 80))
  go_upto_region 6 with (fail)
  generalize w3.alloc (.cells #[.string (bs tp), .bool xd, .slice xa xb.length xc] 80) = W4 at hx3 HX4 ⊢
  generalize w3.heap.size = N4 at hx3 ⊢
  have y1 : W4.cell? ⟨N4, 1, none⟩ = some (.bool xd) := cell_of_row _ _ 1 _ _ _ hx3
  have HY := Lib.hid hx3
  clear hx3 HX3
  have d3 : (r.1 != 0) = false := by rw [HF.out]; rfl
  obtain ⟨c0, c1, c2, c3, c4, c5, lC⟩ := HX4.out.call
  obtain rfl : xd = false := by rw [HXd.out]; exact HDir.out
  go_wp2_with fail
  clear y1
  refine (PS1.out _).mono ?_
  rintro e w6 ⟨B6, k6, rfl, _, _, _, hB6⟩
  have HX6 := Lib.hid (HX4.out.below hB6)
  have HY6 := Lib.hid (heap_below HY.out hB6)
  clear hB6 c0 c1 c2 c3 c4 c5 lC
  obtain ⟨c0, c1, c2, c3, c4, c5, lC⟩ := HX6.out.call
  go_wp2_with fail
  refine (PS2.out _).mono ?_
  rintro e w7 ⟨B7, k7, rfl, _, _, _, hB7⟩
  have HX7 := Lib.hid (HX6.out.below hB7)
  have y1 : w7.cell? ⟨N4, 1, none⟩ = some (.bool false) := cell_of_row _ _ 1 _ _ _ (heap_below HY6.out hB7)
  clear hB7 HX6 HY6 c0 c1 c2 c3 c4 c5 lC
  clear d3
  obtain ⟨c0, c1, c2, c3, c4, c5, lC⟩ := HX7.out.call
  obtain ⟨t0, t1, t2, lT⟩ := HX7.out.tree
  have PP := Lib.hid (PP0.out w7 HX7.out.bel)
  clear PP0
  go_wp2_with fail
  refine (PP.out).mono ?_
  rintro e w8 ⟨rfl, hB8⟩
  have HX8 := Lib.hid (HX7.out.below hB8)
  clear hB8 HX7 PP y1 c0 c1 c2 c3 c4 c5 lC t0 t1 t2 lT
  have d4 : (up.1 != 0) = false := by rw [HU.out]; rfl
  obtain ⟨c0, c1, c2, c3, c4, c5, lC⟩ := HX8.out.call
  obtain ⟨t0, t1, t2, lT⟩ := HX8.out.tree
  have PT := Lib.hid (PT0.out w8 HX8.out.bel)
  clear PT0
  go_wp2_with fail
  refine (PT.out).mono ?_
  rintro e w9 ⟨rfl, _, hB9⟩
  have HX9' := Lib.hid (HX8.out.below hB9)
  clear hB9 HX8 PT d4 c0 c1 c2 c3 c4 c5 lC t0 t1 t2 lT
  have hx3 := heap_alloc_new w9 (.cells #[.string (bs zq), .bool zx.1.dir, .slice zx.2.1 zx.1.b.length zx.2.2] 80)
  have HX9 := Lib.hid (HX9'.out.alloc (.cells #[.string (bs zq), .bool zx.1.dir, .slice zx.2.1 zx.1.b.length zx.2.2] 80))
  go_upto_region 18 with (fail)
  generalize w9.alloc (.cells #[.string (bs zq), .bool zx.1.dir, .slice zx.2.1 zx.1.b.length zx.2.2] 80) = W9 at hx3 HX9 ⊢
  generalize w9.heap.size = N9 at hx3 ⊢
  clear hx3
  obtain ⟨t0, t1, t2, lT⟩ := HX9.out.tree
  go_upto_region 20 with (fail)
  go_cut [130] (fun s wc => s = .bool false ∧ Hid (Below W9.heap.size W9 wc))
  case first =>
    clear PU PS1 PS2
    by_cases hne2 : up.2 = fr
    · have g1b : ((bs up.2).toList == (bs fr).toList) = true := by rw [hne2]; simp
      clear hne2
      go_wp2_with fail
      go_meet
      exact ⟨rfl, Lib.hid (Below.refl _ _)⟩
    · have g1b : ((bs up.2).toList == (bs fr).toList) = false := by rw [bs_toList, bs_toList]; simpa using hne2
      have h32 : ¬ 32 ≤ nm := by have := HBg.out; simpa [hne2] using this
      have g3 : decide ((32 : Int) ≤ (nm : Int)) = false := by simp; omega
      have g3' : decide (32 ≤ nm) = false := by simpa using h32
      have PN := Lib.hid (PN0.out W9 HX9.out.bel)
      have hnl := HNl.out
      clear hne2 h32
      go_wp2_with fail
      refine (PN.out).mono ?_
      rintro e w10 ⟨A10, c10, rfl, _, hB10⟩
      have HB10 := Lib.hid hB10
      clear hB10
      go_wp2_with fail
      go_meet
      exact ⟨rfl, HB10⟩
  case rest =>
   obtain ⟨rfl, HB10⟩ := hcut
   have HX10 := Lib.hid (HX9.out.below HB10.out)
   clear t0 t1 t2 lT HB10 HX9 PN0 PU PS1 PS2
   obtain ⟨hinv, hqe⟩ := HE.out
   have HInv2 := Lib.hid hinv
   have HQe := Lib.hid hqe
   clear hinv hqe HE
   obtain ⟨t0, t1, t2, lT⟩ := HX10.out.tree
   have hltu : w.heap.size + 3 < wc.heap.size := heap_lt HX10.out.sb
   have hr11 : RnW w I J A k ca c Ac cA wc.heap.size A ca es (wc.alloc (.cells #[.int .i64 I, .int .i64 J, .slice A es.length ca] 53)) := ⟨HX10.out.alloc _, heap_alloc_new _ _, HRT.out.below (HX10.out.alloc _).bel⟩
   rw [← HK.out] at hr11
   go_upto_region 23 with (fail)
   generalize wc.alloc (.cells #[.int .i64 I, .int .i64 J, .slice A k ca] 53) = W11 at hr11 ⊢
   generalize wc.heap.size = NU at hr11 hltu ⊢
   have HR11 : Hid (RnW w I J A k ca c Ac cA NU A ca (delF c.path es (es.take 0)) W11) := hr11
   have HEach := Lib.hid (fun (y : Txt × El) (hy : y ∈ es) => full_abe HInv.out hy)
   have HRise := Lib.hid (full_rise HInv.out)
   have hn4 : k ≤ 400 := by rw [HK.out]; exact hn
   clear hr11 t0 t1 t2 lT HX10
   go_wp2_with fail
   go_loopw [21] (fun iv wr => ∃ (j : Nat) (Au : Option Addr) (cu : Nat), j ≤ k ∧ iv = .int .i64 j ∧ Hid (RnW w I J A k ca c Ac cA NU Au cu (delF c.path es (es.take j)) wr)) (fun iv _ => k - (intOf iv).toNat)
   case atStart => exact ⟨0, A, ca, Nat.zero_le _, rfl, HR11⟩
   case round =>
     clear HR11
     obtain ⟨j, Au, cu, hj, rfl, HR⟩ := hrel
     obtain ⟨m, hm⟩ : ∃ m, m = delF c.path es (es.take j) := ⟨_, rfl⟩
     rw [← hm] at HR
     obtain ⟨t0, t1, t2, lT⟩ := HR.out.x.tree
     by_cases hlt : j < k
     · have hjl : j < es.length := by have := HK.out; omega
       have hstep := delF_snoc (path := c.path) es (es.take j) es[j]
       rw [← List.take_succ_eq_append_getElem hjl, ← hm] at hstep
       obtain ⟨y, hy⟩ : ∃ y, y = es[j] := ⟨_, rfl⟩
       rw [← hy] at hstep
       have hye := HEach.out y (by rw [hy]; exact List.getElem_mem _)
       obtain ⟨b, off, rfl, hb, hc⟩ := HRT.out.at_ hjl hy
       have HRow := Lib.hid hc
       obtain ⟨e0, _, _⟩ := hc wr HR.out.x.bel
       obtain ⟨c0, c1, c2, c3, c4, c5, lC⟩ := HR.out.x.call
       have p7 := runder_any y.1 c.path wr.drew hye.2 hp
       obtain ⟨ud, hud⟩ : ∃ ud, ud = underV y.1 c.path := ⟨_, rfl⟩
       rw [← hud] at p7 hstep
       have P7 := Lib.hid p7
       have HStep := Lib.hid hstep
       have hmle : m.length ≤ 1000000 := by have : m.length ≤ es.length := (by rw [hm]; exact delF_le); omega
       have HMle := Lib.hid hmle
       have hjI : (j : Int) < (k : Int) := by omega
       have hj0 : (0 : Int) ≤ (j : Int) := by omega
       clear hy hb hc p7 hstep hud hye hm hmle hjl
       cases ud with
       | false =>
         go_wp2_with fail
         go_region_law (first
           | (go_simp; go_at_call 65; with_reducible refine (P7.out).mono ?_; rintro e w5 ⟨rfl, hB5⟩)
           | fail)
         all_goals
           have HR5 := Lib.hid (HR.out.below (drew_below hB5))
           clear hB5 P7 t0 t1 t2 lT c0 c1 c2 c3 c4 c5 lC e0
           go_wp2_with fail
           go_roundw
           case rel => exact ⟨j + 1, Au, cu, by omega, by go_num, by rw [HStep.out]; exact HR5⟩
           case measure => simp [intOf]; omega
       | true =>
         go_wp2_with fail
         go_region_law (first
           | (go_simp; go_at_call 65; with_reducible refine (P7.out).mono ?_; rintro e w5 ⟨rfl, hB5⟩)
           | fail)
         all_goals
           have HR5 := Lib.hid (HR.out.below (drew_below hB5))
           clear hB5 P7 t0 t1 t2 lT c0 c1 c2 c3 c4 c5 lC e0
           obtain ⟨t0, t1, t2, lT⟩ := HR5.out.x.tree
           obtain ⟨m0, m1, m2, f0, f1, f2, lU⟩ := HR5.out.u
           obtain ⟨e0, _, _⟩ := HRow.out w5 HR5.out.x.bel
           have p8 := rwo_any I J Au m cu y.1 w5.drew (HR5.out.rt.below (Below.refl _ _).drew) HMle.out
           unfold ToldRT at p8
           have P8 := Lib.hid p8
           clear p8
           go_wp2_with fail
           go_region_law (first
             | (go_simp; go_at_call 64; with_reducible refine (P8.out).mono ?_; rintro e w6 ⟨A6, c6, rfl, hRT6, hB6⟩; have HR6 := Lib.hid (HR5.out.below (drew_below hB6)); have HRT6 := Lib.hid hRT6; obtain ⟨k0, k1, k2, g0, g1, g2, lV⟩ := HR6.out.u; clear hRT6 hB6)
             | fail)
           all_goals
             have HR7 := Lib.hid (HR6.out.set HRT6.out hltu)
             clear P8 t0 t1 t2 lT m0 m1 m2 f0 f1 f2 lU e0 k0 k1 k2 g0 g1 g2 lV
             go_wp2_with fail
             go_roundw
             case rel => exact ⟨j + 1, A6, c6, by omega, by go_num, by rw [HStep.out]; exact HR7⟩
             case measure => simp [intOf]; omega
     · obtain rfl : j = k := by omega
       have hR0 := HR.out
       obtain ⟨D, hD⟩ : ∃ D, D = delF c.path es es := ⟨_, rfl⟩
       have hmD : m = D := by rw [hm, HK.out, List.take_length, hD]
       rw [hmD] at hR0
       have HR0 : Hid (RnW w I J A j ca c Ac cA NU Au cu (putF c.path c.to D (es.take 0)) wr) := hR0
       have HDr : Hid (Rise D) := Lib.hid (by rw [hD]; exact delF_rise HRise.out)
       have HDl : Hid (D.length ≤ es.length) := Lib.hid (by rw [hD]; exact delF_le)
       rw [← hD] at HInv2 HQe
       clear hR0 hD hmD hm HR
       go_wp2_with fail
       go_loopw [22] (fun iv wr => ∃ (i : Nat) (Au : Option Addr) (cu : Nat), i ≤ j ∧ iv = .int .i64 i ∧ Hid (RnW w I J A j ca c Ac cA NU Au cu (putF c.path c.to D (es.take i)) wr)) (fun iv _ => j - (intOf iv).toNat)
       case atStart => exact ⟨0, Au, cu, Nat.zero_le _, rfl, HR0⟩
       case round =>
         clear HR0 t0 t1 t2 lT
         obtain ⟨i, Au, cu, hi2, rfl, HR⟩ := hrel
         obtain ⟨m, hm⟩ : ∃ m, m = putF c.path c.to D (es.take i) := ⟨_, rfl⟩
         rw [← hm] at HR
         obtain ⟨t0, t1, t2, lT⟩ := HR.out.x.tree
         by_cases hlt : i < j
         · have hjl : i < es.length := by have := HK.out; omega
           have hstep := @putF_snoc c.path c.to D (es.take i) es[i]
           rw [← List.take_succ_eq_append_getElem hjl, ← hm] at hstep
           obtain ⟨y, hy⟩ : ∃ y, y = es[i] := ⟨_, rfl⟩
           rw [← hy] at hstep
           have hmem : y ∈ es := by rw [hy]; exact List.getElem_mem _
           have hye := HEach.out y hmem
           obtain ⟨b, off, rfl, hb, hc⟩ := HRT.out.at_ hjl hy
           have HRow := Lib.hid hc
           obtain ⟨e0, _, _⟩ := hc wr HR.out.x.bel
           obtain ⟨c0, c1, c2, c3, c4, c5, lC⟩ := HR.out.x.call
           have p7 := runder_any y.1 c.path wr.drew hye.2 hp
           obtain ⟨ud, hud⟩ : ∃ ud, ud = underV y.1 c.path := ⟨_, rfl⟩
           rw [← hud] at p7 hstep
           have P7 := Lib.hid p7
           have HStep := Lib.hid hstep
           have HUd := Lib.hid hud
           have HYe := Lib.hid hye
           have HMr : Hid (Rise m) := Lib.hid (by rw [hm]; exact putF_rise HDr.out)
           have HEy := Lib.hid (HRT.out.all y hmem)
           have hmle : m.length ≤ 1000000 := by
             have h1 : m.length ≤ D.length + (es.take i).length := by rw [hm]; exact putF_le
             rw [List.length_take] at h1
             have := HDl.out
             omega
           have HMle := Lib.hid hmle
           have hjI : (i : Int) < (j : Int) := by omega
           have hj0 : (0 : Int) ≤ (i : Int) := by omega
           clear hy hb hc p7 hstep hud hye hm hmle hjl hmem
           cases ud with
           | false =>
             go_wp2_with fail
             go_region_law (first
               | (go_simp; go_at_call 65; with_reducible refine (P7.out).mono ?_; rintro e w5 ⟨rfl, hB5⟩)
               | fail)
             all_goals
               have HR5 := Lib.hid (HR.out.below (drew_below hB5))
               clear hB5 P7 t0 t1 t2 lT c0 c1 c2 c3 c4 c5 lC e0
               go_wp2_with fail
               go_roundw
               case rel => exact ⟨i + 1, Au, cu, by omega, by go_num, by rw [HStep.out]; exact HR5⟩
               case measure => simp [intOf]; omega
           | true =>
             obtain ⟨D2, hD2⟩ : ∃ D2, D2 = (bs c.path).size := ⟨_, rfl⟩
             have hlen : c.path.length ≤ y.1.length := under_len HUd.out.symm
             have hsc := run_scut (s := y.1) (lo := c.path.length) hlen
             have hgo : bs c.to ++ bs (y.1.drop c.path.length) = bs (goes c.path c.to y.1) := by rw [bs_app]; rfl
             have hcat : ¬ 9223372036854775807 < (bs c.to).size + (bs (y.1.drop c.path.length)).size := by rw [bs_size, bs_size, List.length_drop]; have := HYe.out.2; omega
             have hsz : (bs c.path).size = c.path.length := bs_size _
             have HGo := Lib.hid hgo
             clear hlen hgo hD2 D2
             go_wp2_with fail
             go_region_law (first
               | (go_simp; go_at_call 65; with_reducible refine (P7.out).mono ?_; rintro e w5 ⟨rfl, hB5⟩)
               | fail)
             all_goals
               have HR5 := Lib.hid (HR.out.below (drew_below hB5))
               clear hB5 P7 t0 t1 t2 lT c0 c1 c2 c3 c4 c5 lC e0
               obtain ⟨t0, t1, t2, lT⟩ := HR5.out.x.tree
               obtain ⟨e0, e1, e2⟩ := HRow.out w5 HR5.out.x.bel
               have hb6 := (Below.refl w5.heap.size w5).alloc (Nat.le_refl _) (.cells #[.string (bs y.1), .bool y.2.1.dir, .slice y.2.2.1 y.2.1.b.length y.2.2.2] 80)
               have hx6 := heap_alloc_new w5 (.cells #[.string (bs y.1), .bool y.2.1.dir, .slice y.2.2.1 y.2.1.b.length y.2.2.2] 80)
               have hR6 := HR5.out.below hb6
               go_upto_region 33 with (fail)
               obtain ⟨w6, hw6⟩ : ∃ u, u = w5.alloc (.cells #[.string (bs y.1), .bool y.2.1.dir, .slice y.2.2.1 y.2.1.b.length y.2.2.2] 80) := ⟨_, rfl⟩
               obtain ⟨NY, hNY⟩ : ∃ u, u = w5.heap.size := ⟨_, rfl⟩
               have HNY := Lib.hid hNY
               have hw5 : Below NY w5 w6 := by rw [hw6, hNY]; exact hb6
               rw [← hw6] at hx6 hR6 ⊢
               rw [← hNY] at hx6 ⊢
               have HW5 := Lib.hid hw5
               have hnu : NU ≠ NY := fun e => by have := heap_lt HR5.out.ub; omega
               have hnu' : NY ≠ NU := fun e => hnu e.symm
               have HX6 := Lib.hid hx6
               have hny : w.heap.size + 3 < NY := by have := heap_lt HR5.out.x.sb; omega
               clear hw6 hb6 hw5 t0 t1 t2 lT e0 e1 e2 hNY
               obtain ⟨c0, c1, c2, c3, c4, c5, lC⟩ := hR6.x.call
               have HR6 := Lib.hid hR6
               have y0 : w6.cell? ⟨NY, 0, none⟩ = some (.string (bs y.1)) := cell_of_row _ _ 0 _ _ _ hx6
               have y1 : w6.cell? ⟨NY, 1, none⟩ = some (.bool y.2.1.dir) := cell_of_row _ _ 1 _ _ _ hx6
               have y2 : w6.cell? ⟨NY, 2, none⟩ = some (.slice y.2.2.1 y.2.1.b.length y.2.2.2) := cell_of_row _ _ 2 _ _ _ hx6
               have z0 := frozen_of_row w6 NY 0 _ _ hx6
               clear hx6 hR6
               go_region_law (fail)
               all_goals
                 rw [HGo.out]
                 have hb7 : Below w5.heap.size w5 (w6.setCell ⟨NY, 0, none⟩ (.string (bs (goes c.path c.to y.1)))).drew := by rw [← HNY.out]; exact (HW5.out.trans ((Tch.set w6 NY 0 (.string (bs (goes c.path c.to y.1)))).below (show NY ≤ w6.heap.size by rw [HNY.out]; exact HW5.out.size) fun k e => by omega)).drew
                 have hR7 := HR5.out.below hb7
                 have hx7 : (w6.setCell ⟨NY, 0, none⟩ (.string (bs (goes c.path c.to y.1)))).drew.heap[NY]? = some (.cells #[.string (bs (goes c.path c.to y.1)), .bool y.2.1.dir, .slice y.2.2.1 y.2.1.b.length y.2.2.2] 80 (0, 0)) := heap_drewL (set_block _ HX6.out)
                 obtain ⟨gt, hgt⟩ : ∃ gt, gt = goes c.path c.to y.1 := ⟨_, rfl⟩
                 rw [← hgt] at hb7 hR7 hx7 ⊢
                 have hst := HStep.out
                 rw [← hgt] at hst
                 have HStep2 := Lib.hid hst
                 generalize (w6.setCell ⟨NY, 0, none⟩ (.string (bs gt))).drew = V7 at hb7 hR7 hx7 ⊢
                 have p8 := rput_any I J Au m cu gt y.2 V7 hR7.rt (HEy.out.below hR7.x.bel) HMr.out HMle.out
                 unfold ToldRT rtC at p8
                 have P8 := Lib.hid p8
                 obtain ⟨m0, m1, m2, f0, f1, f2, lU⟩ := hR7.u
                 have HR7 := Lib.hid hR7
                 have n0 : V7.cell? ⟨NY, 0, none⟩ = some (.string (bs gt)) := cell_of_row _ _ 0 _ _ _ hx7
                 have n1 : V7.cell? ⟨NY, 1, none⟩ = some (.bool y.2.1.dir) := cell_of_row _ _ 1 _ _ _ hx7
                 have n2 : V7.cell? ⟨NY, 2, none⟩ = some (.slice y.2.2.1 y.2.1.b.length y.2.2.2) := cell_of_row _ _ 2 _ _ _ hx7
                 clear hb7 hR7 hx7 p8 hst HStep HGo hgt y0 y1 y2 z0 c0 c1 c2 c3 c4 c5 lC HR6 HR5 HX6 HW5 HNY hcat hsc hsz
                 go_wp2_with fail
                 refine (P8.out).mono ?_
                 rintro e w8 ⟨A8, c8, rfl, hRT8, hB8⟩
                 have HR8 := Lib.hid (HR7.out.below hB8)
                 have HRT8 := Lib.hid hRT8
                 clear hRT8 hB8 P8 m0 m1 m2 f0 f1 f2 lU n0 n1 n2 HR7
                 obtain ⟨k0, k1, k2, g0, g1, g2, lV⟩ := HR8.out.u
                 have HR9 := Lib.hid (HR8.out.set HRT8.out hltu)
                 go_wp2_with fail
                 clear k0 k1 k2 g0 g1 g2 lV
                 go_roundw
                 case rel => exact ⟨i + 1, A8, c8, by omega, by go_num, by rw [HStep2.out]; exact HR9⟩
                 case measure => simp [intOf]; omega
         · obtain rfl : i = j := by omega
           have hmE : m = putF c.path c.to D es := by rw [hm, HK.out, List.take_length]
           have hml : m.length ≤ 1000 := by
             have h1 : m.length ≤ D.length + (es.take i).length := by rw [hm]; exact putF_le
             rw [List.length_take] at h1
             have := HDl.out
             omega
           have hinv := HInv2.out
           rw [← hmE] at hinv
           have hqe := HQe.out
           rw [← hmE] at hqe
           have p9 := rfits_any I J A es ca Au m cu wr (HRT.out.below HR.out.x.bel) HR.out.rt hinv hml
           rw [← hqe, ← HK.out] at p9
           unfold ToldRDo at p9
           have P9 := Lib.hid p9
           obtain ⟨m0, m1, m2, f0, f1, f2, lU⟩ := HR.out.u
           clear hm hmE hml hinv hqe p9
           go_wp2_with fail
           refine (P9.out).mono ?_
           rintro e w12 ⟨A12, c12, es12, B12, cB12, C12, cC12, rfl, hRT12, hfl12, hby12, htx12, hB12⟩
           have HX12 := Lib.hid (HR.out.x.below hB12)
           have HT12 := Lib.hid (And.intro hRT12 (And.intro hfl12 (And.intro hby12 htx12)))
           obtain ⟨⟨r0, r1, r2⟩, ⟨s0, s1, s2, s3, s4⟩, ⟨v0, v1, v2⟩, ⟨z0, z1, z2, z3, z4⟩, lR, lS⟩ := HX12.out.res
           clear hRT12 hfl12 hby12 htx12 hB12 t0 t1 t2 lT m0 m1 m2 f0 f1 f2 lU P9
           go_wp2_with fail
           obtain ⟨hlr, hls, _, _⟩ := HX12.out.end_ (a := .int .i64 I) (b := .int .i64 J) (v := .slice A12 es12.length c12) (x0 := .int .i64 Q.2.code) (x1 := .slice B12 Q.2.data.length cB12) (x2 := .slice C12 Q.2.names.length cC12) (x3 := .int .i64 Q.2.size) (x4 := .bool Q.2.dir)
           exact bodyPost_ret (ret_rta rfl (by rfl) hlr (by rfl) hls) rfl (HX12.out.toldF HT12.out.1 HT12.out.2.1 HT12.out.2.2.1 HT12.out.2.2.2 rfl rfl rfl)

end Go.Proofs.YtabecceojbeomaaGreatDoor
