/- The reference's rename where it is refused. Conditions: the tree's invariant; at most 400 things; paths below 2^32 bytes; kind Rename. -/
import Derived.Test.YtabecceojbeomaaGreatDoorTrRB
import Derived.Test.YtabecceojbeomaaGreatDoorDirUnder2
import Derived.Deep.DeepCutAuto
namespace Go.Proofs.YtabecceojbeomaaGreatDoor
open Go.RowKit Go.Cat Go.Cat.Dir Go.Cat.Tree

set_option maxRecDepth 100000 in
set_option maxHeartbeats 8000000 in
theorem rren_early (I J : Int) (A : Option Addr) (es : List (Txt × El)) (ca : Nat) (c : CallV) (Ac : Option Addr) (cA : Nat) (w : World) (h : RT w A ca es) (hi : Inv (fullR es)) (hn : es.length ≤ 400) (hp : c.path.length < 4294967281) (hto : c.to.length < 4294967281) (hkd : c.kind = 5) (hX : abe c.path = 0 → abe c.to = 0 → (findV (fullR es) c.path).1 = 0 → lpB (findV (fullR es) c.path).2.dir c = false → lgB (findV (fullR es) c.path).2.dir c = true) :
    Calls Tryz.prog 42 #[.agg #[.int .i64 I, .int .i64 J, .slice A es.length ca], .agg (callC c Ac cA)] w (ToldRDo (doV I J (fullR es) c) I J w) := by
  have HInv := Lib.hid hi
  have pa1 := fun W => rabove_any c.path W hp
  have pa2 := fun W => rabove_any c.to W hto
  unfold ToldAb at pa1 pa2
  have pf := fun W (hW : Below w.heap.size w W) => rfind_any I J A es ca c.path W (h.below hW) (by omega) hp
  unfold ToldRF rtC at pf
  have pu := fun W => runder_any c.to c.path W hto hp
  have ps1 := fun W => rsplit_any c.path W hp
  have ps2 := fun W => rsplit_any c.to W hto
  unfold ToldSp at ps1 ps2
  have e1 := ren_name (l := fullR es) (c := c) (I := I) (J := J) hkd
  have e2 := ren_find (l := fullR es) (c := c) (I := I) (J := J) hkd
  have e3 := ren_loop (l := fullR es) (c := c) (I := I) (J := J) hkd
  have e4 := ren_long (l := fullR es) (c := c) (I := I) (J := J) hkd
  obtain ⟨Q, hQ⟩ : ∃ Q, Q = doV I J (fullR es) c := ⟨_, rfl⟩
  rw [← hQ] at e1 e2 e3 e4 ⊢
  obtain ⟨r, hr⟩ : ∃ r, r = findV (fullR es) c.path := ⟨_, rfl⟩
  rw [← hr] at pf e2 e3 e4 hX
  obtain ⟨lp, hlp⟩ : ∃ lp, lp = lpB r.2.dir c := ⟨_, rfl⟩
  rw [← hlp] at e3 e4 hX
  obtain ⟨lg, hlg⟩ : ∃ lg, lg = lgB r.2.dir c := ⟨_, rfl⟩
  rw [← hlg] at e4 hX
  unfold lpB at hlp
  unfold lgB at hlg
  obtain ⟨na, hna⟩ : ∃ na, na = (spl c.path).length := ⟨_, rfl⟩
  obtain ⟨nb, hnb⟩ : ∃ nb, nb = (spl c.to).length := ⟨_, rfl⟩
  rw [← hna, ← hnb] at hlg
  simp only [← hna] at ps1
  simp only [← hnb] at ps2
  obtain ⟨a1, ha1⟩ : ∃ a1, a1 = abe c.path := ⟨_, rfl⟩
  obtain ⟨a2, ha2⟩ : ∃ a2, a2 = abe c.to := ⟨_, rfl⟩
  rw [← ha1, ← ha2] at e1 e2 e3 e4
  rw [← ha1] at hX
  rw [← ha2] at hX
  simp only [← ha1] at pa1
  simp only [← ha2] at pa2
  obtain ⟨fr, hfr⟩ : ∃ fr, fr = (abv c.path).1 := ⟨_, rfl⟩
  simp only [← hfr] at pa1
  obtain ⟨un, hun⟩ : ∃ un, un = underV c.to c.path := ⟨_, rfl⟩
  rw [← hun] at hlp
  simp only [← hun] at pu
  obtain ⟨tp, htp⟩ : ∃ tp, tp = if r.1 = 0 then c.path else [] := ⟨_, rfl⟩
  simp only [← htp] at pf
  have PA1 := Lib.hid pa1
  have PA2 := Lib.hid pa2
  have PU := Lib.hid pu
  have PS1 := Lib.hid ps1
  have PS2 := Lib.hid ps2
  have E1 := Lib.hid e1
  have E2 := Lib.hid e2
  have E3 := Lib.hid e3
  have E4 := Lib.hid e4
  have HX := Lib.hid hX
  have HLp := Lib.hid hlp
  have HLg := Lib.hid hlg
  have HRT := Lib.hid h
  obtain ⟨k, hk⟩ : ∃ k, k = es.length := ⟨_, rfl⟩
  have HK := Lib.hid hk
  rw [← hk] at pf ⊢
  have PF0 := Lib.hid pf
  obtain ⟨W0, hW0⟩ : ∃ W0, W0 = (((w.alloc (.cells #[.int .i64 I, .int .i64 J, .slice A k ca] 53)).alloc (.cells (callC c Ac cA) 33)).alloc (.cells #[.int .i64 0, .int .i64 0, .slice none 0 0] 53)).alloc (.cells #[.int .i64 0, .slice none 0 0, .slice none 0 0, .int .i64 0, .bool false] 36) := ⟨_, rfl⟩
  have HX0 := Lib.hid (RxW.new hW0)
  have HW0 := Lib.hid hW0
  clear hk hW0 h hi pa1 pa2 pf pu ps1 ps2 e1 e2 e3 e4 hX hQ hr hlp hlg hna hnb ha1 ha2 hfr hun htp
  go_enter Tryz.func42, Tryz.ntmps42
  go_upto_region 1 with (fail)
  rw [← HW0.out, show w.heap.size + 1 + 1 = w.heap.size + 2 from rfl, show w.heap.size + 2 + 1 = w.heap.size + 3 from rfl]
  clear HW0
  obtain ⟨c0, c1, c2, c3, c4, c5, lC⟩ := HX0.out.call
  go_wp2_with fail
  refine (PA1.out W0).mono ?_
  rintro e w1 ⟨rfl, hB1⟩
  have HX1 := Lib.hid (HX0.out.below hB1)
  clear hB1 PA1 HX0 c0 c1 c2 c3 c4 c5 lC
  obtain ⟨c0, c1, c2, c3, c4, c5, lC⟩ := HX1.out.call
  go_wp2_with fail
  refine (PA2.out w1).mono ?_
  rintro e w2 ⟨rfl, hB2⟩
  have HX2 := Lib.hid (HX1.out.below hB2)
  clear hB2 PA2 HX1 c0 c1 c2 c3 c4 c5 lC
  by_cases h1 : a1 = 0
  case neg =>
    have d1 : (a1 != 0) = true := by simpa using h1
    have hq := E1.out (fun e => h1 e.1)
    subst hq
    clear h1
    go_wp2_with fail
    obtain ⟨t0, t1, t2, lT⟩ := HX2.out.tree
    obtain ⟨⟨r0, r1, r2⟩, ⟨s0, s1, s2, s3, s4⟩, ⟨v0, v1, v2⟩, ⟨z0, z1, z2, z3, z4⟩, lR, lS⟩ := HX2.out.res
    go_wp2_with fail
    go_region_law (first
      | (go_simp; go_at_call 36; refine (rno_any 18 _).mono ?_; rintro e wn ⟨rfl, rfl⟩)
      | fail)
    all_goals
      go_wp2_with fail
      obtain ⟨hlr, hls, hlb, _⟩ := HX2.out.end_ (a := .int .i64 I) (b := .int .i64 J) (v := .slice A k ca) (x0 := .int .i64 18) (x1 := .slice none 0 0) (x2 := .slice none 0 0) (x3 := .int .i64 0) (x4 := .bool false)
      exact bodyPost_ret (ret_rta rfl (by rfl) (heap_drewL (heap_alloc hlr (.cells #[.int .i64 18, .slice none 0 0, .slice none 0 0, .int .i64 0, .bool false] 36))) (by rfl) (heap_drewL (heap_alloc hls (.cells #[.int .i64 18, .slice none 0 0, .slice none 0 0, .int .i64 0, .bool false] 36)))) rfl (told_no HRT.out HK.out (hlb.alloc hlb.size (.cells #[.int .i64 18, .slice none 0 0, .slice none 0 0, .int .i64 0, .bool false] 36)).drew)
  case pos =>
   have d1 : (a1 != 0) = false := by simpa using h1
   by_cases h2 : a2 = 0
   case neg =>
    have d2 : (a2 != 0) = true := by simpa using h2
    have hq := E1.out (fun e => h2 e.2)
    subst hq
    clear h1 h2
    go_wp2_with fail
    obtain ⟨t0, t1, t2, lT⟩ := HX2.out.tree
    obtain ⟨⟨r0, r1, r2⟩, ⟨s0, s1, s2, s3, s4⟩, ⟨v0, v1, v2⟩, ⟨z0, z1, z2, z3, z4⟩, lR, lS⟩ := HX2.out.res
    go_wp2_with fail
    go_region_law (first
      | (go_simp; go_at_call 36; refine (rno_any 18 _).mono ?_; rintro e wn ⟨rfl, rfl⟩)
      | fail)
    all_goals
      go_wp2_with fail
      obtain ⟨hlr, hls, hlb, _⟩ := HX2.out.end_ (a := .int .i64 I) (b := .int .i64 J) (v := .slice A k ca) (x0 := .int .i64 18) (x1 := .slice none 0 0) (x2 := .slice none 0 0) (x3 := .int .i64 0) (x4 := .bool false)
      exact bodyPost_ret (ret_rta rfl (by rfl) (heap_drewL (heap_alloc hlr (.cells #[.int .i64 18, .slice none 0 0, .slice none 0 0, .int .i64 0, .bool false] 36))) (by rfl) (heap_drewL (heap_alloc hls (.cells #[.int .i64 18, .slice none 0 0, .slice none 0 0, .int .i64 0, .bool false] 36)))) rfl (told_no HRT.out HK.out (hlb.alloc hlb.size (.cells #[.int .i64 18, .slice none 0 0, .slice none 0 0, .int .i64 0, .bool false] 36)).drew)
   case pos =>
    have d2 : (a2 != 0) = false := by simpa using h2
    have HA : Hid (a1 = 0 ∧ a2 = 0) := Lib.hid ⟨h1, h2⟩
    clear h1 h2
    obtain ⟨t0, t1, t2, lT⟩ := HX2.out.tree
    obtain ⟨c0, c1, c2, c3, c4, c5, lC⟩ := HX2.out.call
    have PF := Lib.hid (PF0.out w2 HX2.out.bel)
    clear PF0
    go_wp2_with fail
    refine (PF.out).mono ?_
    rintro e w3 ⟨⟨⟨xd, xb⟩, xa, xc⟩, rfl, hx2, _, hB3⟩
    have HXd : Hid (xd = r.2.dir) := Lib.hid (by rw [← hx2])
    have HX3 := Lib.hid (HX2.out.below hB3)
    clear hB3 hx2 PF HX2 d1 d2 t0 t1 t2 lT c0 c1 c2 c3 c4 c5 lC
    have hx3 := heap_alloc_new w3 (.cells #[.string (bs tp), .bool xd, .slice xa xb.length xc] 80)
    have HX4 := Lib.hid (HX3.out.alloc (.cells #[.string (bs tp), .bool xd, .slice xa xb.length xc] 80))
    go_upto_region 6 with (fail)
    generalize w3.alloc (.cells #[.string (bs tp), .bool xd, .slice xa xb.length xc] 80) = W4 at hx3 HX4 ⊢
    generalize w3.heap.size = N4 at hx3 ⊢
    have y1 : W4.cell? ⟨N4, 1, none⟩ = some (.bool xd) := cell_of_row _ _ 1 _ _ _ hx3
    have HY := Lib.hid hx3
    clear hx3 HX3
    by_cases hf : r.1 = 0
    case neg =>
      have d3 : (r.1 != 0) = true := by simpa using hf
      have hq := E2.out HA.out hf
      subst hq
      clear hf
      go_wp2_with fail
      clear y1
      obtain ⟨t0, t1, t2, lT⟩ := HX4.out.tree
      obtain ⟨⟨r0, r1, r2⟩, ⟨s0, s1, s2, s3, s4⟩, ⟨v0, v1, v2⟩, ⟨z0, z1, z2, z3, z4⟩, lR, lS⟩ := HX4.out.res
      go_wp2_with fail
      go_region_law (first
        | (go_simp; go_at_call 36; refine (rno_any r.1 _).mono ?_; rintro e wn ⟨rfl, rfl⟩)
        | fail)
      all_goals
        go_wp2_with fail
        obtain ⟨hlr, hls, hlb, _⟩ := HX4.out.end_ (a := .int .i64 I) (b := .int .i64 J) (v := .slice A k ca) (x0 := .int .i64 r.1) (x1 := .slice none 0 0) (x2 := .slice none 0 0) (x3 := .int .i64 0) (x4 := .bool false)
        exact bodyPost_ret (ret_rta rfl (by rfl) (heap_drewL (heap_alloc hlr (.cells #[.int .i64 r.1, .slice none 0 0, .slice none 0 0, .int .i64 0, .bool false] 36))) (by rfl) (heap_drewL (heap_alloc hls (.cells #[.int .i64 r.1, .slice none 0 0, .slice none 0 0, .int .i64 0, .bool false] 36)))) rfl (told_no HRT.out HK.out (hlb.alloc hlb.size (.cells #[.int .i64 r.1, .slice none 0 0, .slice none 0 0, .int .i64 0, .bool false] 36)).drew)
    case pos =>
      have d3 : (r.1 != 0) = false := by simpa using hf
      have HF := Lib.hid hf
      clear hf
      have HL2 := HLp.out
      have HG2 := HLg.out
      rw [← HXd.out] at HL2 HG2
      cases xd with
      | false =>
        have h3 : lp = false := HL2
        have h4 : lg = false := HG2
        have := HX.out HA.out.1 HA.out.2 HF.out h3
        rw [h4] at this
        cases this
      | true =>
        have HG3 : Hid (lg = decide (na < nb)) := by show _ = _; rw [HG2]; rfl
        clear HG2
        obtain ⟨c0, c1, c2, c3, c4, c5, lC⟩ := HX4.out.call
        by_cases hne : c.to = c.path
        · have g1 : ((bs c.to).toList == (bs c.path).toList) = true := by rw [hne]; simp
          have HL3 : Hid (lp = false) := by show _ = _; rw [HL2, hne]; simp
          have HLg := Lib.hid (HX.out HA.out.1 HA.out.2 HF.out HL3.out)
          have hlt : na < nb := by have := HLg.out; rw [HG3.out] at this; simpa using this
          have g2 : decide ((na : Int) < (nb : Int)) = true := by simp; omega
          have g2' : decide (na < nb) = true := by simpa using hlt
          have hq := E4.out HA.out HF.out HL3.out HLg.out
          subst hq
          clear HL2 hne hlt
          go_wp2_with fail
          refine (PS1.out _).mono ?_
          rintro e w6 ⟨B6, k6, rfl, _, _, _, hB6⟩
          have HX6 := Lib.hid (HX4.out.below hB6)
          have HY6 := Lib.hid (heap_below HY.out hB6)
          clear hB6 c0 c1 c2 c3 c4 c5 lC
          obtain ⟨c0, c1, c2, c3, c4, c5, lC⟩ := HX6.out.call
          go_wp2_with fail
          refine (PS2.out _).mono ?_
          rintro e w7 ⟨B7, k7, rfl, _, _, _, hB7⟩
          have HX7 := Lib.hid (HX6.out.below hB7)
          have y1 : w7.cell? ⟨N4, 1, none⟩ = some (.bool true) := cell_of_row _ _ 1 _ _ _ (heap_below HY6.out hB7)
          clear hB7 HX6 HY6 c0 c1 c2 c3 c4 c5 lC
          go_wp2_with fail
          clear y1
          obtain ⟨t0, t1, t2, lT⟩ := HX7.out.tree
          obtain ⟨⟨r0, r1, r2⟩, ⟨s0, s1, s2, s3, s4⟩, ⟨v0, v1, v2⟩, ⟨z0, z1, z2, z3, z4⟩, lR, lS⟩ := HX7.out.res
          go_wp2_with fail
          go_region_law (first
            | (go_simp; go_at_call 36; refine (rno_any 6 _).mono ?_; rintro e wn ⟨rfl, rfl⟩)
            | fail)
          all_goals
            go_wp2_with fail
            obtain ⟨hlr, hls, hlb, _⟩ := HX7.out.end_ (a := .int .i64 I) (b := .int .i64 J) (v := .slice A k ca) (x0 := .int .i64 6) (x1 := .slice none 0 0) (x2 := .slice none 0 0) (x3 := .int .i64 0) (x4 := .bool false)
            exact bodyPost_ret (ret_rta rfl (by rfl) (heap_drewL (heap_alloc hlr (.cells #[.int .i64 6, .slice none 0 0, .slice none 0 0, .int .i64 0, .bool false] 36))) (by rfl) (heap_drewL (heap_alloc hls (.cells #[.int .i64 6, .slice none 0 0, .slice none 0 0, .int .i64 0, .bool false] 36)))) rfl (told_no HRT.out HK.out (hlb.alloc hlb.size (.cells #[.int .i64 6, .slice none 0 0, .slice none 0 0, .int .i64 0, .bool false] 36)).drew)
        · have g1 : ((bs c.to).toList == (bs c.path).toList) = false := by rw [bs_toList, bs_toList]; simpa using hne
          have HL3 : Hid (lp = un) := by show _ = _; rw [HL2]; simp [hne]
          clear HL2 hne
          cases hu : un with
          | true =>
            rw [hu] at PU HL3
            have hq := E3.out HA.out HF.out HL3.out
            subst hq
            clear hu
            go_wp2_with fail
            refine (PU.out W4).mono ?_
            rintro e w5 ⟨rfl, hB5⟩
            have HX5 := Lib.hid (HX4.out.below hB5)
            clear hB5 y1 c0 c1 c2 c3 c4 c5 lC
            go_wp2_with fail
            obtain ⟨t0, t1, t2, lT⟩ := HX5.out.tree
            obtain ⟨⟨r0, r1, r2⟩, ⟨s0, s1, s2, s3, s4⟩, ⟨v0, v1, v2⟩, ⟨z0, z1, z2, z3, z4⟩, lR, lS⟩ := HX5.out.res
            go_wp2_with fail
            go_region_law (first
              | (go_simp; go_at_call 36; refine (rno_any 21 _).mono ?_; rintro e wn ⟨rfl, rfl⟩)
              | fail)
            all_goals
              go_wp2_with fail
              obtain ⟨hlr, hls, hlb, _⟩ := HX5.out.end_ (a := .int .i64 I) (b := .int .i64 J) (v := .slice A k ca) (x0 := .int .i64 21) (x1 := .slice none 0 0) (x2 := .slice none 0 0) (x3 := .int .i64 0) (x4 := .bool false)
              exact bodyPost_ret (ret_rta rfl (by rfl) (heap_drewL (heap_alloc hlr (.cells #[.int .i64 21, .slice none 0 0, .slice none 0 0, .int .i64 0, .bool false] 36))) (by rfl) (heap_drewL (heap_alloc hls (.cells #[.int .i64 21, .slice none 0 0, .slice none 0 0, .int .i64 0, .bool false] 36)))) rfl (told_no HRT.out HK.out (hlb.alloc hlb.size (.cells #[.int .i64 21, .slice none 0 0, .slice none 0 0, .int .i64 0, .bool false] 36)).drew)
          | false =>
            rw [hu] at PU HL3
            have HLg := Lib.hid (HX.out HA.out.1 HA.out.2 HF.out HL3.out)
            have hlt : na < nb := by have := HLg.out; rw [HG3.out] at this; simpa using this
            have g2 : decide ((na : Int) < (nb : Int)) = true := by simp; omega
            have g2' : decide (na < nb) = true := by simpa using hlt
            have hq := E4.out HA.out HF.out HL3.out HLg.out
            subst hq
            clear hu hlt
            go_wp2_with fail
            refine (PU.out W4).mono ?_
            rintro e w5 ⟨rfl, hB5⟩
            have HX5 := Lib.hid (HX4.out.below hB5)
            have HY5 := Lib.hid (heap_below HY.out hB5)
            clear hB5 y1 c0 c1 c2 c3 c4 c5 lC
            obtain ⟨c0, c1, c2, c3, c4, c5, lC⟩ := HX5.out.call
            go_wp2_with fail
            refine (PS1.out _).mono ?_
            rintro e w6 ⟨B6, k6, rfl, _, _, _, hB6⟩
            have HX6 := Lib.hid (HX5.out.below hB6)
            have HY6 := Lib.hid (heap_below HY5.out hB6)
            clear hB6 c0 c1 c2 c3 c4 c5 lC
            obtain ⟨c0, c1, c2, c3, c4, c5, lC⟩ := HX6.out.call
            go_wp2_with fail
            refine (PS2.out _).mono ?_
            rintro e w7 ⟨B7, k7, rfl, _, _, _, hB7⟩
            have HX7 := Lib.hid (HX6.out.below hB7)
            have y1 : w7.cell? ⟨N4, 1, none⟩ = some (.bool true) := cell_of_row _ _ 1 _ _ _ (heap_below HY6.out hB7)
            clear hB7 HX6 HY6 c0 c1 c2 c3 c4 c5 lC
            go_wp2_with fail
            clear y1
            obtain ⟨t0, t1, t2, lT⟩ := HX7.out.tree
            obtain ⟨⟨r0, r1, r2⟩, ⟨s0, s1, s2, s3, s4⟩, ⟨v0, v1, v2⟩, ⟨z0, z1, z2, z3, z4⟩, lR, lS⟩ := HX7.out.res
            go_wp2_with fail
            go_region_law (first
              | (go_simp; go_at_call 36; refine (rno_any 6 _).mono ?_; rintro e wn ⟨rfl, rfl⟩)
              | fail)
            all_goals
              go_wp2_with fail
              obtain ⟨hlr, hls, hlb, _⟩ := HX7.out.end_ (a := .int .i64 I) (b := .int .i64 J) (v := .slice A k ca) (x0 := .int .i64 6) (x1 := .slice none 0 0) (x2 := .slice none 0 0) (x3 := .int .i64 0) (x4 := .bool false)
              exact bodyPost_ret (ret_rta rfl (by rfl) (heap_drewL (heap_alloc hlr (.cells #[.int .i64 6, .slice none 0 0, .slice none 0 0, .int .i64 0, .bool false] 36))) (by rfl) (heap_drewL (heap_alloc hls (.cells #[.int .i64 6, .slice none 0 0, .slice none 0 0, .int .i64 0, .bool false] 36)))) rfl (told_no HRT.out HK.out (hlb.alloc hlb.size (.cells #[.int .i64 6, .slice none 0 0, .slice none 0 0, .int .i64 0, .bool false] 36)).drew)

set_option maxRecDepth 100000 in
set_option maxHeartbeats 8000000 in
theorem rren_lateF (I J : Int) (A : Option Addr) (es : List (Txt × El)) (ca : Nat) (c : CallV) (Ac : Option Addr) (cA : Nat) (w : World) (h : RT w A ca es) (hi : Inv (fullR es)) (hn : es.length ≤ 400) (hp : c.path.length < 4294967281) (hto : c.to.length < 4294967281) (hkd : c.kind = 5) (hA : abe c.path = 0 ∧ abe c.to = 0) (hF : (findV (fullR es) c.path).1 = 0) (hd : (findV (fullR es) c.path).2.dir = false) (hG : lgB (findV (fullR es) c.path).2.dir c = false) (hX : (upV (fullR es) c.to).1 = 0 → (getR c.to es).isSome = false → bgB (fullR es) c = true) :
    Calls Tryz.prog 42 #[.agg #[.int .i64 I, .int .i64 J, .slice A es.length ca], .agg (callC c Ac cA)] w (ToldRDo (doV I J (fullR es) c) I J w) := by
  have HInv := Lib.hid hi
  have pa1 := fun W => rabove_any c.path W hp
  have pa2 := fun W => rabove_any c.to W hto
  unfold ToldAb at pa1 pa2
  have pf := fun W (hW : Below w.heap.size w W) => rfind_any I J A es ca c.path W (h.below hW) (by omega) hp
  unfold ToldRF rtC at pf
  have pu := fun W => runder_any c.to c.path W hto hp
  have ps1 := fun W => rsplit_any c.path W hp
  have ps2 := fun W => rsplit_any c.to W hto
  unfold ToldSp at ps1 ps2
  have pp := fun W (hW : Below w.heap.size w W) => rplace_any I J A es ca c.to W (h.below hW) (by omega) hto
  have pt := fun W (hW : Below w.heap.size w W) => rat_any I J A es ca c.to W (h.below hW) (by omega)
  unfold ToldAt rtC at pt
  have pn := fun W (hW : Below w.heap.size w W) => rnames_any I J A es ca (upV (fullR es) c.to).2 W (h.below hW) (fun y hy => full_abe hi hy) (full_rise hi) (by omega)
  unfold ToldT at pn
  simp only [← names_full] at pn
  have hnl : (namesV (upV (fullR es) c.to).2 (fullR es)).length ≤ 100000 := by rw [names_full]; have := namesV_le (upV (fullR es) c.to).2 (ths es); rw [ths_length] at this; omega
  have hl : lpB (findV (fullR es) c.path).2.dir c = false := by unfold lpB; rw [hd]; rfl
  have e5 := ren_up (l := fullR es) (c := c) (I := I) (J := J) hkd hA hF hl hG
  have e6 := ren_there (l := fullR es) (c := c) (I := I) (J := J) hkd hA hF hl hG
  have e7 := ren_big (l := fullR es) (c := c) (I := I) (J := J) hi hkd hA hF hl hG
  rw [full_some] at e6 e7
  obtain ⟨na, hna⟩ : ∃ na, na = (spl c.path).length := ⟨_, rfl⟩
  obtain ⟨nb, hnb⟩ : ∃ nb, nb = (spl c.to).length := ⟨_, rfl⟩
  simp only [← hna] at ps1
  simp only [← hnb] at ps2
  obtain ⟨mt, hmt⟩ : ∃ mt, mt = (getR c.to es).isSome := ⟨_, rfl⟩
  obtain ⟨zx, hzx⟩ : ∃ zx, zx = (getR c.to es).getD zeroE := ⟨_, rfl⟩
  obtain ⟨zq, hzq⟩ : ∃ zq, zq = if (getR c.to es).isSome then c.to else [] := ⟨_, rfl⟩
  simp only [← hzq] at pt
  simp only [← hzx, ← hmt] at pt
  obtain ⟨a1, ha1⟩ : ∃ a1, a1 = abe c.path := ⟨_, rfl⟩
  obtain ⟨a2, ha2⟩ : ∃ a2, a2 = abe c.to := ⟨_, rfl⟩
  rw [← ha1, ← ha2] at hA
  simp only [← ha1] at pa1
  simp only [← ha2] at pa2
  obtain ⟨fr, hfr⟩ : ∃ fr, fr = (abv c.path).1 := ⟨_, rfl⟩
  simp only [← hfr] at pa1
  rw [← hmt] at e6 e7 hX
  obtain ⟨Q, hQ⟩ : ∃ Q, Q = doV I J (fullR es) c := ⟨_, rfl⟩
  rw [← hQ] at e5 e6 e7 ⊢
  obtain ⟨bg, hbg⟩ : ∃ bg, bg = bgB (fullR es) c := ⟨_, rfl⟩
  rw [← hbg] at e7 hX
  unfold bgB at hbg
  obtain ⟨r, hr⟩ : ∃ r, r = findV (fullR es) c.path := ⟨_, rfl⟩
  rw [← hr] at pf hF hd
  obtain ⟨up, hup⟩ : ∃ up, up = upV (fullR es) c.to := ⟨_, rfl⟩
  rw [← hup] at e5 e6 e7 hX hbg hnl
  simp only [← hup] at pp pn
  obtain ⟨nm, hnm⟩ : ∃ nm, nm = (namesV up.2 (fullR es)).length := ⟨_, rfl⟩
  rw [← hnm] at hbg hnl
  simp only [← hnm] at pn
  rw [← hfr] at hbg
  obtain ⟨tp, htp⟩ : ∃ tp, tp = if r.1 = 0 then c.path else [] := ⟨_, rfl⟩
  simp only [← htp] at pf
  have PA1 := Lib.hid pa1
  have PA2 := Lib.hid pa2
  have PU := Lib.hid pu
  have PS1 := Lib.hid ps1
  have PS2 := Lib.hid ps2
  have E5 := Lib.hid e5
  have E6 := Lib.hid e6
  have E7 := Lib.hid e7
  have HX := Lib.hid hX
  have HBg := Lib.hid hbg
  have HNl := Lib.hid hnl
  have HA := Lib.hid hA
  have HF := Lib.hid hF
  have HDir := Lib.hid hd
  have HRT := Lib.hid h
  obtain ⟨k, hk⟩ : ∃ k, k = es.length := ⟨_, rfl⟩
  have HK := Lib.hid hk
  rw [← hk] at pf pp pt pn ⊢
  have PF0 := Lib.hid pf
  have PP0 := Lib.hid pp
  have PT0 := Lib.hid pt
  have PN0 := Lib.hid pn
  obtain ⟨W0, hW0⟩ : ∃ W0, W0 = (((w.alloc (.cells #[.int .i64 I, .int .i64 J, .slice A k ca] 53)).alloc (.cells (callC c Ac cA) 33)).alloc (.cells #[.int .i64 0, .int .i64 0, .slice none 0 0] 53)).alloc (.cells #[.int .i64 0, .slice none 0 0, .slice none 0 0, .int .i64 0, .bool false] 36) := ⟨_, rfl⟩
  have HX0 := Lib.hid (RxW.new hW0)
  have HW0 := Lib.hid hW0
  clear hk hW0 h hi pa1 pa2 pf pu ps1 ps2 pp pt pn hnl e5 e6 e7 hX hbg hA hF hd hG hl hQ hr hna hnb ha1 ha2 hfr hup hnm hmt hzx hzq htp
  go_enter Tryz.func42, Tryz.ntmps42
  go_upto_region 1 with (fail)
  rw [← HW0.out, show w.heap.size + 1 + 1 = w.heap.size + 2 from rfl, show w.heap.size + 2 + 1 = w.heap.size + 3 from rfl]
  clear HW0
  obtain ⟨c0, c1, c2, c3, c4, c5, lC⟩ := HX0.out.call
  go_wp2_with fail
  refine (PA1.out W0).mono ?_
  rintro e w1 ⟨rfl, hB1⟩
  have HX1 := Lib.hid (HX0.out.below hB1)
  clear hB1 PA1 HX0 c0 c1 c2 c3 c4 c5 lC
  obtain ⟨c0, c1, c2, c3, c4, c5, lC⟩ := HX1.out.call
  go_wp2_with fail
  refine (PA2.out w1).mono ?_
  rintro e w2 ⟨rfl, hB2⟩
  have HX2 := Lib.hid (HX1.out.below hB2)
  clear hB2 PA2 HX1 c0 c1 c2 c3 c4 c5 lC
  have d1 : (a1 != 0) = false := by rw [HA.out.1]; rfl
  have d2 : (a2 != 0) = false := by rw [HA.out.2]; rfl
  obtain ⟨t0, t1, t2, lT⟩ := HX2.out.tree
  obtain ⟨c0, c1, c2, c3, c4, c5, lC⟩ := HX2.out.call
  have PF := Lib.hid (PF0.out w2 HX2.out.bel)
  clear PF0
  go_wp2_with fail
  refine (PF.out).mono ?_
  rintro e w3 ⟨⟨⟨xd, xb⟩, xa, xc⟩, rfl, hx2, _, hB3⟩
  have HXd : Hid (xd = r.2.dir) := Lib.hid (by rw [← hx2])
  have HX3 := Lib.hid (HX2.out.below hB3)
  clear hB3 hx2 PF HX2 d1 d2 t0 t1 t2 lT c0 c1 c2 c3 c4 c5 lC
  have hx3 := heap_alloc_new w3 (.cells #[.string (bs tp), .bool xd, .slice xa xb.length xc] 80)
  have HX4 := Lib.hid (HX3.out.alloc (.cells #[.string (bs tp), .bool xd, .slice xa xb.length xc] 80))
  go_upto_region 6 with (fail)
  generalize w3.alloc (.cells #[.string (bs tp), .bool xd, .slice xa xb.length xc] 80) = W4 at hx3 HX4 ⊢
  generalize w3.heap.size = N4 at hx3 ⊢
  have y1 : W4.cell? ⟨N4, 1, none⟩ = some (.bool xd) := cell_of_row _ _ 1 _ _ _ hx3
  have HY := Lib.hid hx3
  clear hx3 HX3
  have d3 : (r.1 != 0) = false := by rw [HF.out]; rfl
  obtain ⟨c0, c1, c2, c3, c4, c5, lC⟩ := HX4.out.call
  obtain rfl : xd = false := by rw [HXd.out]; exact HDir.out
  go_wp2_with fail
  clear y1
  refine (PS1.out _).mono ?_
  rintro e w6 ⟨B6, k6, rfl, _, _, _, hB6⟩
  have HX6 := Lib.hid (HX4.out.below hB6)
  have HY6 := Lib.hid (heap_below HY.out hB6)
  clear hB6 c0 c1 c2 c3 c4 c5 lC
  obtain ⟨c0, c1, c2, c3, c4, c5, lC⟩ := HX6.out.call
  go_wp2_with fail
  refine (PS2.out _).mono ?_
  rintro e w7 ⟨B7, k7, rfl, _, _, _, hB7⟩
  have HX7 := Lib.hid (HX6.out.below hB7)
  have y1 : w7.cell? ⟨N4, 1, none⟩ = some (.bool false) := cell_of_row _ _ 1 _ _ _ (heap_below HY6.out hB7)
  clear hB7 HX6 HY6 c0 c1 c2 c3 c4 c5 lC
  clear d3
  obtain ⟨c0, c1, c2, c3, c4, c5, lC⟩ := HX7.out.call
  obtain ⟨t0, t1, t2, lT⟩ := HX7.out.tree
  have PP := Lib.hid (PP0.out w7 HX7.out.bel)
  clear PP0
  go_wp2_with fail
  refine (PP.out).mono ?_
  rintro e w8 ⟨rfl, hB8⟩
  have HX8 := Lib.hid (HX7.out.below hB8)
  clear hB8 HX7 PP y1 c0 c1 c2 c3 c4 c5 lC t0 t1 t2 lT
  by_cases hu : up.1 = 0
  case neg =>
    have d4 : (up.1 != 0) = true := by simpa using hu
    have hq := E5.out hu
    subst hq
    clear hu
    go_wp2_with fail
    obtain ⟨t0, t1, t2, lT⟩ := HX8.out.tree
    obtain ⟨⟨r0, r1, r2⟩, ⟨s0, s1, s2, s3, s4⟩, ⟨v0, v1, v2⟩, ⟨z0, z1, z2, z3, z4⟩, lR, lS⟩ := HX8.out.res
    go_wp2_with fail
    go_region_law (first
      | (go_simp; go_at_call 36; refine (rno_any up.1 _).mono ?_; rintro e wn ⟨rfl, rfl⟩)
      | fail)
    all_goals
      go_wp2_with fail
      obtain ⟨hlr, hls, hlb, _⟩ := HX8.out.end_ (a := .int .i64 I) (b := .int .i64 J) (v := .slice A k ca) (x0 := .int .i64 up.1) (x1 := .slice none 0 0) (x2 := .slice none 0 0) (x3 := .int .i64 0) (x4 := .bool false)
      exact bodyPost_ret (ret_rta rfl (by rfl) (heap_drewL (heap_alloc hlr (.cells #[.int .i64 up.1, .slice none 0 0, .slice none 0 0, .int .i64 0, .bool false] 36))) (by rfl) (heap_drewL (heap_alloc hls (.cells #[.int .i64 up.1, .slice none 0 0, .slice none 0 0, .int .i64 0, .bool false] 36)))) rfl (told_no HRT.out HK.out (hlb.alloc hlb.size (.cells #[.int .i64 up.1, .slice none 0 0, .slice none 0 0, .int .i64 0, .bool false] 36)).drew)
  case pos =>
    have d4 : (up.1 != 0) = false := by simpa using hu
    have HU := Lib.hid hu
    clear hu
    obtain ⟨c0, c1, c2, c3, c4, c5, lC⟩ := HX8.out.call
    obtain ⟨t0, t1, t2, lT⟩ := HX8.out.tree
    have PT := Lib.hid (PT0.out w8 HX8.out.bel)
    clear PT0
    go_wp2_with fail
    refine (PT.out).mono ?_
    rintro e w9 ⟨rfl, _, hB9⟩
    have HX9' := Lib.hid (HX8.out.below hB9)
    clear hB9 HX8 PT d4 c0 c1 c2 c3 c4 c5 lC t0 t1 t2 lT
    have hx3 := heap_alloc_new w9 (.cells #[.string (bs zq), .bool zx.1.dir, .slice zx.2.1 zx.1.b.length zx.2.2] 80)
    have HX9 := Lib.hid (HX9'.out.alloc (.cells #[.string (bs zq), .bool zx.1.dir, .slice zx.2.1 zx.1.b.length zx.2.2] 80))
    go_upto_region 18 with (fail)
    generalize w9.alloc (.cells #[.string (bs zq), .bool zx.1.dir, .slice zx.2.1 zx.1.b.length zx.2.2] 80) = W9 at hx3 HX9 ⊢
    generalize w9.heap.size = N9 at hx3 ⊢
    clear hx3
    cases mt with
    | true =>
      have hq := E6.out HU.out rfl
      subst hq
      go_wp2_with fail
      obtain ⟨t0, t1, t2, lT⟩ := HX9.out.tree
      obtain ⟨⟨r0, r1, r2⟩, ⟨s0, s1, s2, s3, s4⟩, ⟨v0, v1, v2⟩, ⟨z0, z1, z2, z3, z4⟩, lR, lS⟩ := HX9.out.res
      go_wp2_with fail
      go_region_law (first
        | (go_simp; go_at_call 36; refine (rno_any 8 _).mono ?_; rintro e wn ⟨rfl, rfl⟩)
        | fail)
      all_goals
        go_wp2_with fail
        obtain ⟨hlr, hls, hlb, _⟩ := HX9.out.end_ (a := .int .i64 I) (b := .int .i64 J) (v := .slice A k ca) (x0 := .int .i64 8) (x1 := .slice none 0 0) (x2 := .slice none 0 0) (x3 := .int .i64 0) (x4 := .bool false)
        exact bodyPost_ret (ret_rta rfl (by rfl) (heap_drewL (heap_alloc hlr (.cells #[.int .i64 8, .slice none 0 0, .slice none 0 0, .int .i64 0, .bool false] 36))) (by rfl) (heap_drewL (heap_alloc hls (.cells #[.int .i64 8, .slice none 0 0, .slice none 0 0, .int .i64 0, .bool false] 36)))) rfl (told_no HRT.out HK.out (hlb.alloc hlb.size (.cells #[.int .i64 8, .slice none 0 0, .slice none 0 0, .int .i64 0, .bool false] 36)).drew)
    | false =>
      have HB := Lib.hid (HX.out HU.out rfl)
      have hb2 := HB.out
      rw [HBg.out] at hb2
      have hne2 : up.2 ≠ fr := fun e => by rw [e] at hb2; simp at hb2
      have h32 : 32 ≤ nm := by simp at hb2; omega
      have g1b : ((bs up.2).toList == (bs fr).toList) = false := by rw [bs_toList, bs_toList]; simpa using hne2
      have g3 : decide ((32 : Int) ≤ (nm : Int)) = true := by simp; omega
      have g3' : decide (32 ≤ nm) = true := by simpa using h32
      have hq := E7.out HU.out rfl HB.out
      subst hq
      obtain ⟨t0, t1, t2, lT⟩ := HX9.out.tree
      have PN := Lib.hid (PN0.out W9 HX9.out.bel)
      have hnl := HNl.out
      clear hb2 hne2 h32
      go_wp2_with fail
      refine (PN.out).mono ?_
      rintro e w10 ⟨A10, c10, rfl, _, hB10⟩
      have HX10 := Lib.hid (HX9.out.below hB10)
      clear hB10 PN t0 t1 t2 lT
      go_wp2_with fail
      obtain ⟨t0, t1, t2, lT⟩ := HX10.out.tree
      obtain ⟨⟨r0, r1, r2⟩, ⟨s0, s1, s2, s3, s4⟩, ⟨v0, v1, v2⟩, ⟨z0, z1, z2, z3, z4⟩, lR, lS⟩ := HX10.out.res
      go_wp2_with fail
      go_region_law (first
        | (go_simp; go_at_call 36; refine (rno_any 17 _).mono ?_; rintro e wn ⟨rfl, rfl⟩)
        | fail)
      all_goals
        go_wp2_with fail
        obtain ⟨hlr, hls, hlb, _⟩ := HX10.out.end_ (a := .int .i64 I) (b := .int .i64 J) (v := .slice A k ca) (x0 := .int .i64 17) (x1 := .slice none 0 0) (x2 := .slice none 0 0) (x3 := .int .i64 0) (x4 := .bool false)
        exact bodyPost_ret (ret_rta rfl (by rfl) (heap_drewL (heap_alloc hlr (.cells #[.int .i64 17, .slice none 0 0, .slice none 0 0, .int .i64 0, .bool false] 36))) (by rfl) (heap_drewL (heap_alloc hls (.cells #[.int .i64 17, .slice none 0 0, .slice none 0 0, .int .i64 0, .bool false] 36)))) rfl (told_no HRT.out HK.out (hlb.alloc hlb.size (.cells #[.int .i64 17, .slice none 0 0, .slice none 0 0, .int .i64 0, .bool false] 36)).drew)

set_option maxRecDepth 100000 in
set_option maxHeartbeats 8000000 in
theorem rren_lateS (I J : Int) (A : Option Addr) (es : List (Txt × El)) (ca : Nat) (c : CallV) (Ac : Option Addr) (cA : Nat) (w : World) (h : RT w A ca es) (hi : Inv (fullR es)) (hn : es.length ≤ 400) (hp : c.path.length < 4294967281) (hto : c.to.length < 4294967281) (hkd : c.kind = 5) (hA : abe c.path = 0 ∧ abe c.to = 0) (hF : (findV (fullR es) c.path).1 = 0) (hd : (findV (fullR es) c.path).2.dir = true) (hne : c.to = c.path) (hG : lgB (findV (fullR es) c.path).2.dir c = false) (hX : (upV (fullR es) c.to).1 = 0 → (getR c.to es).isSome = false → bgB (fullR es) c = true) :
    Calls Tryz.prog 42 #[.agg #[.int .i64 I, .int .i64 J, .slice A es.length ca], .agg (callC c Ac cA)] w (ToldRDo (doV I J (fullR es) c) I J w) := by
  have HInv := Lib.hid hi
  have pa1 := fun W => rabove_any c.path W hp
  have pa2 := fun W => rabove_any c.to W hto
  unfold ToldAb at pa1 pa2
  have pf := fun W (hW : Below w.heap.size w W) => rfind_any I J A es ca c.path W (h.below hW) (by omega) hp
  unfold ToldRF rtC at pf
  have pu := fun W => runder_any c.to c.path W hto hp
  have ps1 := fun W => rsplit_any c.path W hp
  have ps2 := fun W => rsplit_any c.to W hto
  unfold ToldSp at ps1 ps2
  have pp := fun W (hW : Below w.heap.size w W) => rplace_any I J A es ca c.to W (h.below hW) (by omega) hto
  have pt := fun W (hW : Below w.heap.size w W) => rat_any I J A es ca c.to W (h.below hW) (by omega)
  unfold ToldAt rtC at pt
  have pn := fun W (hW : Below w.heap.size w W) => rnames_any I J A es ca (upV (fullR es) c.to).2 W (h.below hW) (fun y hy => full_abe hi hy) (full_rise hi) (by omega)
  unfold ToldT at pn
  simp only [← names_full] at pn
  have hnl : (namesV (upV (fullR es) c.to).2 (fullR es)).length ≤ 100000 := by rw [names_full]; have := namesV_le (upV (fullR es) c.to).2 (ths es); rw [ths_length] at this; omega
  have hl : lpB (findV (fullR es) c.path).2.dir c = false := by unfold lpB; rw [hne]; simp
  have e5 := ren_up (l := fullR es) (c := c) (I := I) (J := J) hkd hA hF hl hG
  have e6 := ren_there (l := fullR es) (c := c) (I := I) (J := J) hkd hA hF hl hG
  have e7 := ren_big (l := fullR es) (c := c) (I := I) (J := J) hi hkd hA hF hl hG
  rw [full_some] at e6 e7
  obtain ⟨na, hna⟩ : ∃ na, na = (spl c.path).length := ⟨_, rfl⟩
  obtain ⟨nb, hnb⟩ : ∃ nb, nb = (spl c.to).length := ⟨_, rfl⟩
  have hG2 : ¬ na < nb := by unfold lgB at hG; rw [hd, ← hna, ← hnb] at hG; simpa using hG
  simp only [← hna] at ps1
  simp only [← hnb] at ps2
  obtain ⟨mt, hmt⟩ : ∃ mt, mt = (getR c.to es).isSome := ⟨_, rfl⟩
  obtain ⟨zx, hzx⟩ : ∃ zx, zx = (getR c.to es).getD zeroE := ⟨_, rfl⟩
  obtain ⟨zq, hzq⟩ : ∃ zq, zq = if (getR c.to es).isSome then c.to else [] := ⟨_, rfl⟩
  simp only [← hzq] at pt
  simp only [← hzx, ← hmt] at pt
  obtain ⟨a1, ha1⟩ : ∃ a1, a1 = abe c.path := ⟨_, rfl⟩
  obtain ⟨a2, ha2⟩ : ∃ a2, a2 = abe c.to := ⟨_, rfl⟩
  rw [← ha1, ← ha2] at hA
  simp only [← ha1] at pa1
  simp only [← ha2] at pa2
  obtain ⟨fr, hfr⟩ : ∃ fr, fr = (abv c.path).1 := ⟨_, rfl⟩
  simp only [← hfr] at pa1
  rw [← hmt] at e6 e7 hX
  obtain ⟨Q, hQ⟩ : ∃ Q, Q = doV I J (fullR es) c := ⟨_, rfl⟩
  rw [← hQ] at e5 e6 e7 ⊢
  obtain ⟨bg, hbg⟩ : ∃ bg, bg = bgB (fullR es) c := ⟨_, rfl⟩
  rw [← hbg] at e7 hX
  unfold bgB at hbg
  obtain ⟨r, hr⟩ : ∃ r, r = findV (fullR es) c.path := ⟨_, rfl⟩
  rw [← hr] at pf hF hd
  obtain ⟨up, hup⟩ : ∃ up, up = upV (fullR es) c.to := ⟨_, rfl⟩
  rw [← hup] at e5 e6 e7 hX hbg hnl
  simp only [← hup] at pp pn
  obtain ⟨nm, hnm⟩ : ∃ nm, nm = (namesV up.2 (fullR es)).length := ⟨_, rfl⟩
  rw [← hnm] at hbg hnl
  simp only [← hnm] at pn
  rw [← hfr] at hbg
  obtain ⟨tp, htp⟩ : ∃ tp, tp = if r.1 = 0 then c.path else [] := ⟨_, rfl⟩
  simp only [← htp] at pf
  have PA1 := Lib.hid pa1
  have PA2 := Lib.hid pa2
  have PU := Lib.hid pu
  have PS1 := Lib.hid ps1
  have PS2 := Lib.hid ps2
  have E5 := Lib.hid e5
  have E6 := Lib.hid e6
  have E7 := Lib.hid e7
  have HX := Lib.hid hX
  have HBg := Lib.hid hbg
  have HNl := Lib.hid hnl
  have HA := Lib.hid hA
  have HF := Lib.hid hF
  have HDir := Lib.hid hd
  have HNe := Lib.hid hne
  have HNa := Lib.hid hG2
  have HRT := Lib.hid h
  obtain ⟨k, hk⟩ : ∃ k, k = es.length := ⟨_, rfl⟩
  have HK := Lib.hid hk
  rw [← hk] at pf pp pt pn ⊢
  have PF0 := Lib.hid pf
  have PP0 := Lib.hid pp
  have PT0 := Lib.hid pt
  have PN0 := Lib.hid pn
  obtain ⟨W0, hW0⟩ : ∃ W0, W0 = (((w.alloc (.cells #[.int .i64 I, .int .i64 J, .slice A k ca] 53)).alloc (.cells (callC c Ac cA) 33)).alloc (.cells #[.int .i64 0, .int .i64 0, .slice none 0 0] 53)).alloc (.cells #[.int .i64 0, .slice none 0 0, .slice none 0 0, .int .i64 0, .bool false] 36) := ⟨_, rfl⟩
  have HX0 := Lib.hid (RxW.new hW0)
  have HW0 := Lib.hid hW0
  clear hk hW0 h hi pa1 pa2 pf pu ps1 ps2 pp pt pn hnl e5 e6 e7 hX hbg hA hF hd hG hl hQ hr hna hnb ha1 ha2 hfr hup hnm hmt hzx hzq htp hne hG2
  go_enter Tryz.func42, Tryz.ntmps42
  go_upto_region 1 with (fail)
  rw [← HW0.out, show w.heap.size + 1 + 1 = w.heap.size + 2 from rfl, show w.heap.size + 2 + 1 = w.heap.size + 3 from rfl]
  clear HW0
  obtain ⟨c0, c1, c2, c3, c4, c5, lC⟩ := HX0.out.call
  go_wp2_with fail
  refine (PA1.out W0).mono ?_
  rintro e w1 ⟨rfl, hB1⟩
  have HX1 := Lib.hid (HX0.out.below hB1)
  clear hB1 PA1 HX0 c0 c1 c2 c3 c4 c5 lC
  obtain ⟨c0, c1, c2, c3, c4, c5, lC⟩ := HX1.out.call
  go_wp2_with fail
  refine (PA2.out w1).mono ?_
  rintro e w2 ⟨rfl, hB2⟩
  have HX2 := Lib.hid (HX1.out.below hB2)
  clear hB2 PA2 HX1 c0 c1 c2 c3 c4 c5 lC
  have d1 : (a1 != 0) = false := by rw [HA.out.1]; rfl
  have d2 : (a2 != 0) = false := by rw [HA.out.2]; rfl
  obtain ⟨t0, t1, t2, lT⟩ := HX2.out.tree
  obtain ⟨c0, c1, c2, c3, c4, c5, lC⟩ := HX2.out.call
  have PF := Lib.hid (PF0.out w2 HX2.out.bel)
  clear PF0
  go_wp2_with fail
  refine (PF.out).mono ?_
  rintro e w3 ⟨⟨⟨xd, xb⟩, xa, xc⟩, rfl, hx2, _, hB3⟩
  have HXd : Hid (xd = r.2.dir) := Lib.hid (by rw [← hx2])
  have HX3 := Lib.hid (HX2.out.below hB3)
  clear hB3 hx2 PF HX2 d1 d2 t0 t1 t2 lT c0 c1 c2 c3 c4 c5 lC
  have hx3 := heap_alloc_new w3 (.cells #[.string (bs tp), .bool xd, .slice xa xb.length xc] 80)
  have HX4 := Lib.hid (HX3.out.alloc (.cells #[.string (bs tp), .bool xd, .slice xa xb.length xc] 80))
  go_upto_region 6 with (fail)
  generalize w3.alloc (.cells #[.string (bs tp), .bool xd, .slice xa xb.length xc] 80) = W4 at hx3 HX4 ⊢
  generalize w3.heap.size = N4 at hx3 ⊢
  have y1 : W4.cell? ⟨N4, 1, none⟩ = some (.bool xd) := cell_of_row _ _ 1 _ _ _ hx3
  have HY := Lib.hid hx3
  clear hx3 HX3
  have d3 : (r.1 != 0) = false := by rw [HF.out]; rfl
  obtain ⟨c0, c1, c2, c3, c4, c5, lC⟩ := HX4.out.call
  obtain rfl : xd = true := by rw [HXd.out]; exact HDir.out
  have g1 : ((bs c.to).toList == (bs c.path).toList) = true := by rw [HNe.out]; simp
  go_wp2_with fail
  clear y1
  refine (PS1.out _).mono ?_
  rintro e w6 ⟨B6, k6, rfl, _, _, _, hB6⟩
  have HX6 := Lib.hid (HX4.out.below hB6)
  have HY6 := Lib.hid (heap_below HY.out hB6)
  clear hB6 c0 c1 c2 c3 c4 c5 lC
  obtain ⟨c0, c1, c2, c3, c4, c5, lC⟩ := HX6.out.call
  go_wp2_with fail
  refine (PS2.out _).mono ?_
  rintro e w7 ⟨B7, k7, rfl, _, _, _, hB7⟩
  have HX7 := Lib.hid (HX6.out.below hB7)
  have y1 : w7.cell? ⟨N4, 1, none⟩ = some (.bool true) := cell_of_row _ _ 1 _ _ _ (heap_below HY6.out hB7)
  clear hB7 HX6 HY6 c0 c1 c2 c3 c4 c5 lC
  clear d3
  obtain ⟨c0, c1, c2, c3, c4, c5, lC⟩ := HX7.out.call
  obtain ⟨t0, t1, t2, lT⟩ := HX7.out.tree
  have PP := Lib.hid (PP0.out w7 HX7.out.bel)
  clear PP0
  have g2 : decide ((na : Int) < (nb : Int)) = false := by have := HNa.out; simp; omega
  have g2' : decide (na < nb) = false := by simpa using HNa.out
  go_wp2_with fail
  refine (PP.out).mono ?_
  rintro e w8 ⟨rfl, hB8⟩
  have HX8 := Lib.hid (HX7.out.below hB8)
  clear hB8 HX7 PP y1 c0 c1 c2 c3 c4 c5 lC t0 t1 t2 lT
  by_cases hu : up.1 = 0
  case neg =>
    have d4 : (up.1 != 0) = true := by simpa using hu
    have hq := E5.out hu
    subst hq
    clear hu
    go_wp2_with fail
    obtain ⟨t0, t1, t2, lT⟩ := HX8.out.tree
    obtain ⟨⟨r0, r1, r2⟩, ⟨s0, s1, s2, s3, s4⟩, ⟨v0, v1, v2⟩, ⟨z0, z1, z2, z3, z4⟩, lR, lS⟩ := HX8.out.res
    go_wp2_with fail
    go_region_law (first
      | (go_simp; go_at_call 36; refine (rno_any up.1 _).mono ?_; rintro e wn ⟨rfl, rfl⟩)
      | fail)
    all_goals
      go_wp2_with fail
      obtain ⟨hlr, hls, hlb, _⟩ := HX8.out.end_ (a := .int .i64 I) (b := .int .i64 J) (v := .slice A k ca) (x0 := .int .i64 up.1) (x1 := .slice none 0 0) (x2 := .slice none 0 0) (x3 := .int .i64 0) (x4 := .bool false)
      exact bodyPost_ret (ret_rta rfl (by rfl) (heap_drewL (heap_alloc hlr (.cells #[.int .i64 up.1, .slice none 0 0, .slice none 0 0, .int .i64 0, .bool false] 36))) (by rfl) (heap_drewL (heap_alloc hls (.cells #[.int .i64 up.1, .slice none 0 0, .slice none 0 0, .int .i64 0, .bool false] 36)))) rfl (told_no HRT.out HK.out (hlb.alloc hlb.size (.cells #[.int .i64 up.1, .slice none 0 0, .slice none 0 0, .int .i64 0, .bool false] 36)).drew)
  case pos =>
    have d4 : (up.1 != 0) = false := by simpa using hu
    have HU := Lib.hid hu
    clear hu
    obtain ⟨c0, c1, c2, c3, c4, c5, lC⟩ := HX8.out.call
    obtain ⟨t0, t1, t2, lT⟩ := HX8.out.tree
    have PT := Lib.hid (PT0.out w8 HX8.out.bel)
    clear PT0
    go_wp2_with fail
    refine (PT.out).mono ?_
    rintro e w9 ⟨rfl, _, hB9⟩
    have HX9' := Lib.hid (HX8.out.below hB9)
    clear hB9 HX8 PT d4 c0 c1 c2 c3 c4 c5 lC t0 t1 t2 lT
    have hx3 := heap_alloc_new w9 (.cells #[.string (bs zq), .bool zx.1.dir, .slice zx.2.1 zx.1.b.length zx.2.2] 80)
    have HX9 := Lib.hid (HX9'.out.alloc (.cells #[.string (bs zq), .bool zx.1.dir, .slice zx.2.1 zx.1.b.length zx.2.2] 80))
    go_upto_region 18 with (fail)
    generalize w9.alloc (.cells #[.string (bs zq), .bool zx.1.dir, .slice zx.2.1 zx.1.b.length zx.2.2] 80) = W9 at hx3 HX9 ⊢
    generalize w9.heap.size = N9 at hx3 ⊢
    clear hx3
    cases mt with
    | true =>
      have hq := E6.out HU.out rfl
      subst hq
      go_wp2_with fail
      obtain ⟨t0, t1, t2, lT⟩ := HX9.out.tree
      obtain ⟨⟨r0, r1, r2⟩, ⟨s0, s1, s2, s3, s4⟩, ⟨v0, v1, v2⟩, ⟨z0, z1, z2, z3, z4⟩, lR, lS⟩ := HX9.out.res
      go_wp2_with fail
      go_region_law (first
        | (go_simp; go_at_call 36; refine (rno_any 8 _).mono ?_; rintro e wn ⟨rfl, rfl⟩)
        | fail)
      all_goals
        go_wp2_with fail
        obtain ⟨hlr, hls, hlb, _⟩ := HX9.out.end_ (a := .int .i64 I) (b := .int .i64 J) (v := .slice A k ca) (x0 := .int .i64 8) (x1 := .slice none 0 0) (x2 := .slice none 0 0) (x3 := .int .i64 0) (x4 := .bool false)
        exact bodyPost_ret (ret_rta rfl (by rfl) (heap_drewL (heap_alloc hlr (.cells #[.int .i64 8, .slice none 0 0, .slice none 0 0, .int .i64 0, .bool false] 36))) (by rfl) (heap_drewL (heap_alloc hls (.cells #[.int .i64 8, .slice none 0 0, .slice none 0 0, .int .i64 0, .bool false] 36)))) rfl (told_no HRT.out HK.out (hlb.alloc hlb.size (.cells #[.int .i64 8, .slice none 0 0, .slice none 0 0, .int .i64 0, .bool false] 36)).drew)
    | false =>
      have HB := Lib.hid (HX.out HU.out rfl)
      have hb2 := HB.out
      rw [HBg.out] at hb2
      have hne2 : up.2 ≠ fr := fun e => by rw [e] at hb2; simp at hb2
      have h32 : 32 ≤ nm := by simp at hb2; omega
      have g1b : ((bs up.2).toList == (bs fr).toList) = false := by rw [bs_toList, bs_toList]; simpa using hne2
      have g3 : decide ((32 : Int) ≤ (nm : Int)) = true := by simp; omega
      have g3' : decide (32 ≤ nm) = true := by simpa using h32
      have hq := E7.out HU.out rfl HB.out
      subst hq
      obtain ⟨t0, t1, t2, lT⟩ := HX9.out.tree
      have PN := Lib.hid (PN0.out W9 HX9.out.bel)
      have hnl := HNl.out
      clear hb2 hne2 h32
      go_wp2_with fail
      refine (PN.out).mono ?_
      rintro e w10 ⟨A10, c10, rfl, _, hB10⟩
      have HX10 := Lib.hid (HX9.out.below hB10)
      clear hB10 PN t0 t1 t2 lT
      go_wp2_with fail
      obtain ⟨t0, t1, t2, lT⟩ := HX10.out.tree
      obtain ⟨⟨r0, r1, r2⟩, ⟨s0, s1, s2, s3, s4⟩, ⟨v0, v1, v2⟩, ⟨z0, z1, z2, z3, z4⟩, lR, lS⟩ := HX10.out.res
      go_wp2_with fail
      go_region_law (first
        | (go_simp; go_at_call 36; refine (rno_any 17 _).mono ?_; rintro e wn ⟨rfl, rfl⟩)
        | fail)
      all_goals
        go_wp2_with fail
        obtain ⟨hlr, hls, hlb, _⟩ := HX10.out.end_ (a := .int .i64 I) (b := .int .i64 J) (v := .slice A k ca) (x0 := .int .i64 17) (x1 := .slice none 0 0) (x2 := .slice none 0 0) (x3 := .int .i64 0) (x4 := .bool false)
        exact bodyPost_ret (ret_rta rfl (by rfl) (heap_drewL (heap_alloc hlr (.cells #[.int .i64 17, .slice none 0 0, .slice none 0 0, .int .i64 0, .bool false] 36))) (by rfl) (heap_drewL (heap_alloc hls (.cells #[.int .i64 17, .slice none 0 0, .slice none 0 0, .int .i64 0, .bool false] 36)))) rfl (told_no HRT.out HK.out (hlb.alloc hlb.size (.cells #[.int .i64 17, .slice none 0 0, .slice none 0 0, .int .i64 0, .bool false] 36)).drew)

set_option maxRecDepth 100000 in
set_option maxHeartbeats 8000000 in
theorem rren_lateN (I J : Int) (A : Option Addr) (es : List (Txt × El)) (ca : Nat) (c : CallV) (Ac : Option Addr) (cA : Nat) (w : World) (h : RT w A ca es) (hi : Inv (fullR es)) (hn : es.length ≤ 400) (hp : c.path.length < 4294967281) (hto : c.to.length < 4294967281) (hkd : c.kind = 5) (hA : abe c.path = 0 ∧ abe c.to = 0) (hF : (findV (fullR es) c.path).1 = 0) (hd : (findV (fullR es) c.path).2.dir = true) (hne : c.to ≠ c.path) (hun : underV c.to c.path = false) (hG : lgB (findV (fullR es) c.path).2.dir c = false) (hX : (upV (fullR es) c.to).1 = 0 → (getR c.to es).isSome = false → bgB (fullR es) c = true) :
    Calls Tryz.prog 42 #[.agg #[.int .i64 I, .int .i64 J, .slice A es.length ca], .agg (callC c Ac cA)] w (ToldRDo (doV I J (fullR es) c) I J w) := by
  have HInv := Lib.hid hi
  have pa1 := fun W => rabove_any c.path W hp
  have pa2 := fun W => rabove_any c.to W hto
  unfold ToldAb at pa1 pa2
  have pf := fun W (hW : Below w.heap.size w W) => rfind_any I J A es ca c.path W (h.below hW) (by omega) hp
  unfold ToldRF rtC at pf
  have pu := fun W => runder_any c.to c.path W hto hp
  have ps1 := fun W => rsplit_any c.path W hp
  have ps2 := fun W => rsplit_any c.to W hto
  unfold ToldSp at ps1 ps2
  have pp := fun W (hW : Below w.heap.size w W) => rplace_any I J A es ca c.to W (h.below hW) (by omega) hto
  have pt := fun W (hW : Below w.heap.size w W) => rat_any I J A es ca c.to W (h.below hW) (by omega)
  unfold ToldAt rtC at pt
  have pn := fun W (hW : Below w.heap.size w W) => rnames_any I J A es ca (upV (fullR es) c.to).2 W (h.below hW) (fun y hy => full_abe hi hy) (full_rise hi) (by omega)
  unfold ToldT at pn
  simp only [← names_full] at pn
  have hnl : (namesV (upV (fullR es) c.to).2 (fullR es)).length ≤ 100000 := by rw [names_full]; have := namesV_le (upV (fullR es) c.to).2 (ths es); rw [ths_length] at this; omega
  have hl : lpB (findV (fullR es) c.path).2.dir c = false := by unfold lpB; rw [hun]; simp
  have e5 := ren_up (l := fullR es) (c := c) (I := I) (J := J) hkd hA hF hl hG
  have e6 := ren_there (l := fullR es) (c := c) (I := I) (J := J) hkd hA hF hl hG
  have e7 := ren_big (l := fullR es) (c := c) (I := I) (J := J) hi hkd hA hF hl hG
  rw [full_some] at e6 e7
  obtain ⟨na, hna⟩ : ∃ na, na = (spl c.path).length := ⟨_, rfl⟩
  obtain ⟨nb, hnb⟩ : ∃ nb, nb = (spl c.to).length := ⟨_, rfl⟩
  have hG2 : ¬ na < nb := by unfold lgB at hG; rw [hd, ← hna, ← hnb] at hG; simpa using hG
  simp only [← hna] at ps1
  simp only [← hnb] at ps2
  obtain ⟨mt, hmt⟩ : ∃ mt, mt = (getR c.to es).isSome := ⟨_, rfl⟩
  obtain ⟨zx, hzx⟩ : ∃ zx, zx = (getR c.to es).getD zeroE := ⟨_, rfl⟩
  obtain ⟨zq, hzq⟩ : ∃ zq, zq = if (getR c.to es).isSome then c.to else [] := ⟨_, rfl⟩
  simp only [← hzq] at pt
  simp only [← hzx, ← hmt] at pt
  obtain ⟨a1, ha1⟩ : ∃ a1, a1 = abe c.path := ⟨_, rfl⟩
  obtain ⟨a2, ha2⟩ : ∃ a2, a2 = abe c.to := ⟨_, rfl⟩
  rw [← ha1, ← ha2] at hA
  simp only [← ha1] at pa1
  simp only [← ha2] at pa2
  obtain ⟨fr, hfr⟩ : ∃ fr, fr = (abv c.path).1 := ⟨_, rfl⟩
  simp only [← hfr] at pa1
  simp only [hun] at pu
  rw [← hmt] at e6 e7 hX
  obtain ⟨Q, hQ⟩ : ∃ Q, Q = doV I J (fullR es) c := ⟨_, rfl⟩
  rw [← hQ] at e5 e6 e7 ⊢
  obtain ⟨bg, hbg⟩ : ∃ bg, bg = bgB (fullR es) c := ⟨_, rfl⟩
  rw [← hbg] at e7 hX
  unfold bgB at hbg
  obtain ⟨r, hr⟩ : ∃ r, r = findV (fullR es) c.path := ⟨_, rfl⟩
  rw [← hr] at pf hF hd
  obtain ⟨up, hup⟩ : ∃ up, up = upV (fullR es) c.to := ⟨_, rfl⟩
  rw [← hup] at e5 e6 e7 hX hbg hnl
  simp only [← hup] at pp pn
  obtain ⟨nm, hnm⟩ : ∃ nm, nm = (namesV up.2 (fullR es)).length := ⟨_, rfl⟩
  rw [← hnm] at hbg hnl
  simp only [← hnm] at pn
  rw [← hfr] at hbg
  obtain ⟨tp, htp⟩ : ∃ tp, tp = if r.1 = 0 then c.path else [] := ⟨_, rfl⟩
  simp only [← htp] at pf
  have PA1 := Lib.hid pa1
  have PA2 := Lib.hid pa2
  have PU := Lib.hid pu
  have PS1 := Lib.hid ps1
  have PS2 := Lib.hid ps2
  have E5 := Lib.hid e5
  have E6 := Lib.hid e6
  have E7 := Lib.hid e7
  have HX := Lib.hid hX
  have HBg := Lib.hid hbg
  have HNl := Lib.hid hnl
  have HA := Lib.hid hA
  have HF := Lib.hid hF
  have HDir := Lib.hid hd
  have HNe := Lib.hid hne
  have HNa := Lib.hid hG2
  have HRT := Lib.hid h
  obtain ⟨k, hk⟩ : ∃ k, k = es.length := ⟨_, rfl⟩
  have HK := Lib.hid hk
  rw [← hk] at pf pp pt pn ⊢
  have PF0 := Lib.hid pf
  have PP0 := Lib.hid pp
  have PT0 := Lib.hid pt
  have PN0 := Lib.hid pn
  obtain ⟨W0, hW0⟩ : ∃ W0, W0 = (((w.alloc (.cells #[.int .i64 I, .int .i64 J, .slice A k ca] 53)).alloc (.cells (callC c Ac cA) 33)).alloc (.cells #[.int .i64 0, .int .i64 0, .slice none 0 0] 53)).alloc (.cells #[.int .i64 0, .slice none 0 0, .slice none 0 0, .int .i64 0, .bool false] 36) := ⟨_, rfl⟩
  have HX0 := Lib.hid (RxW.new hW0)
  have HW0 := Lib.hid hW0
  clear hk hW0 h hi pa1 pa2 pf pu ps1 ps2 pp pt pn hnl e5 e6 e7 hX hbg hA hF hd hG hl hQ hr hna hnb ha1 ha2 hfr hup hnm hmt hzx hzq htp hne hG2 hun
  go_enter Tryz.func42, Tryz.ntmps42
  go_upto_region 1 with (fail)
  rw [← HW0.out, show w.heap.size + 1 + 1 = w.heap.size + 2 from rfl, show w.heap.size + 2 + 1 = w.heap.size + 3 from rfl]
  clear HW0
  obtain ⟨c0, c1, c2, c3, c4, c5, lC⟩ := HX0.out.call
  go_wp2_with fail
  refine (PA1.out W0).mono ?_
  rintro e w1 ⟨rfl, hB1⟩
  have HX1 := Lib.hid (HX0.out.below hB1)
  clear hB1 PA1 HX0 c0 c1 c2 c3 c4 c5 lC
  obtain ⟨c0, c1, c2, c3, c4, c5, lC⟩ := HX1.out.call
  go_wp2_with fail
  refine (PA2.out w1).mono ?_
  rintro e w2 ⟨rfl, hB2⟩
  have HX2 := Lib.hid (HX1.out.below hB2)
  clear hB2 PA2 HX1 c0 c1 c2 c3 c4 c5 lC
  have d1 : (a1 != 0) = false := by rw [HA.out.1]; rfl
  have d2 : (a2 != 0) = false := by rw [HA.out.2]; rfl
  obtain ⟨t0, t1, t2, lT⟩ := HX2.out.tree
  obtain ⟨c0, c1, c2, c3, c4, c5, lC⟩ := HX2.out.call
  have PF := Lib.hid (PF0.out w2 HX2.out.bel)
  clear PF0
  go_wp2_with fail
  refine (PF.out).mono ?_
  rintro e w3 ⟨⟨⟨xd, xb⟩, xa, xc⟩, rfl, hx2, _, hB3⟩
  have HXd : Hid (xd = r.2.dir) := Lib.hid (by rw [← hx2])
  have HX3 := Lib.hid (HX2.out.below hB3)
  clear hB3 hx2 PF HX2 d1 d2 t0 t1 t2 lT c0 c1 c2 c3 c4 c5 lC
  have hx3 := heap_alloc_new w3 (.cells #[.string (bs tp), .bool xd, .slice xa xb.length xc] 80)
  have HX4 := Lib.hid (HX3.out.alloc (.cells #[.string (bs tp), .bool xd, .slice xa xb.length xc] 80))
  go_upto_region 6 with (fail)
  generalize w3.alloc (.cells #[.string (bs tp), .bool xd, .slice xa xb.length xc] 80) = W4 at hx3 HX4 ⊢
  generalize w3.heap.size = N4 at hx3 ⊢
  have y1 : W4.cell? ⟨N4, 1, none⟩ = some (.bool xd) := cell_of_row _ _ 1 _ _ _ hx3
  have HY := Lib.hid hx3
  clear hx3 HX3
  have d3 : (r.1 != 0) = false := by rw [HF.out]; rfl
  obtain ⟨c0, c1, c2, c3, c4, c5, lC⟩ := HX4.out.call
  obtain rfl : xd = true := by rw [HXd.out]; exact HDir.out
  have g1 : ((bs c.to).toList == (bs c.path).toList) = false := by rw [bs_toList, bs_toList]; simpa using HNe.out
  go_wp2_with fail
  refine (PU.out W4).mono ?_
  rintro e w5 ⟨rfl, hB5⟩
  have HX5 := Lib.hid (HX4.out.below hB5)
  have HY5 := Lib.hid (heap_below HY.out hB5)
  clear hB5 y1 c0 c1 c2 c3 c4 c5 lC
  obtain ⟨c0, c1, c2, c3, c4, c5, lC⟩ := HX5.out.call
  go_wp2_with fail
  refine (PS1.out _).mono ?_
  rintro e w6 ⟨B6, k6, rfl, _, _, _, hB6⟩
  have HX6 := Lib.hid (HX5.out.below hB6)
  have HY6 := Lib.hid (heap_below HY5.out hB6)
  clear hB6 c0 c1 c2 c3 c4 c5 lC
  obtain ⟨c0, c1, c2, c3, c4, c5, lC⟩ := HX6.out.call
  go_wp2_with fail
  refine (PS2.out _).mono ?_
  rintro e w7 ⟨B7, k7, rfl, _, _, _, hB7⟩
  have HX7 := Lib.hid (HX6.out.below hB7)
  have y1 : w7.cell? ⟨N4, 1, none⟩ = some (.bool true) := cell_of_row _ _ 1 _ _ _ (heap_below HY6.out hB7)
  clear hB7 HX6 HY6 c0 c1 c2 c3 c4 c5 lC
  clear d3
  obtain ⟨c0, c1, c2, c3, c4, c5, lC⟩ := HX7.out.call
  obtain ⟨t0, t1, t2, lT⟩ := HX7.out.tree
  have PP := Lib.hid (PP0.out w7 HX7.out.bel)
  clear PP0
  have g2 : decide ((na : Int) < (nb : Int)) = false := by have := HNa.out; simp; omega
  have g2' : decide (na < nb) = false := by simpa using HNa.out
  go_wp2_with fail
  refine (PP.out).mono ?_
  rintro e w8 ⟨rfl, hB8⟩
  have HX8 := Lib.hid (HX7.out.below hB8)
  clear hB8 HX7 PP y1 c0 c1 c2 c3 c4 c5 lC t0 t1 t2 lT
  by_cases hu : up.1 = 0
  case neg =>
    have d4 : (up.1 != 0) = true := by simpa using hu
    have hq := E5.out hu
    subst hq
    clear hu
    go_wp2_with fail
    obtain ⟨t0, t1, t2, lT⟩ := HX8.out.tree
    obtain ⟨⟨r0, r1, r2⟩, ⟨s0, s1, s2, s3, s4⟩, ⟨v0, v1, v2⟩, ⟨z0, z1, z2, z3, z4⟩, lR, lS⟩ := HX8.out.res
    go_wp2_with fail
    go_region_law (first
      | (go_simp; go_at_call 36; refine (rno_any up.1 _).mono ?_; rintro e wn ⟨rfl, rfl⟩)
      | fail)
    all_goals
      go_wp2_with fail
      obtain ⟨hlr, hls, hlb, _⟩ := HX8.out.end_ (a := .int .i64 I) (b := .int .i64 J) (v := .slice A k ca) (x0 := .int .i64 up.1) (x1 := .slice none 0 0) (x2 := .slice none 0 0) (x3 := .int .i64 0) (x4 := .bool false)
      exact bodyPost_ret (ret_rta rfl (by rfl) (heap_drewL (heap_alloc hlr (.cells #[.int .i64 up.1, .slice none 0 0, .slice none 0 0, .int .i64 0, .bool false] 36))) (by rfl) (heap_drewL (heap_alloc hls (.cells #[.int .i64 up.1, .slice none 0 0, .slice none 0 0, .int .i64 0, .bool false] 36)))) rfl (told_no HRT.out HK.out (hlb.alloc hlb.size (.cells #[.int .i64 up.1, .slice none 0 0, .slice none 0 0, .int .i64 0, .bool false] 36)).drew)
  case pos =>
    have d4 : (up.1 != 0) = false := by simpa using hu
    have HU := Lib.hid hu
    clear hu
    obtain ⟨c0, c1, c2, c3, c4, c5, lC⟩ := HX8.out.call
    obtain ⟨t0, t1, t2, lT⟩ := HX8.out.tree
    have PT := Lib.hid (PT0.out w8 HX8.out.bel)
    clear PT0
    go_wp2_with fail
    refine (PT.out).mono ?_
    rintro e w9 ⟨rfl, _, hB9⟩
    have HX9' := Lib.hid (HX8.out.below hB9)
    clear hB9 HX8 PT d4 c0 c1 c2 c3 c4 c5 lC t0 t1 t2 lT
    have hx3 := heap_alloc_new w9 (.cells #[.string (bs zq), .bool zx.1.dir, .slice zx.2.1 zx.1.b.length zx.2.2] 80)
    have HX9 := Lib.hid (HX9'.out.alloc (.cells #[.string (bs zq), .bool zx.1.dir, .slice zx.2.1 zx.1.b.length zx.2.2] 80))
    go_upto_region 18 with (fail)
    generalize w9.alloc (.cells #[.string (bs zq), .bool zx.1.dir, .slice zx.2.1 zx.1.b.length zx.2.2] 80) = W9 at hx3 HX9 ⊢
    generalize w9.heap.size = N9 at hx3 ⊢
    clear hx3
    cases mt with
    | true =>
      have hq := E6.out HU.out rfl
      subst hq
      go_wp2_with fail
      obtain ⟨t0, t1, t2, lT⟩ := HX9.out.tree
      obtain ⟨⟨r0, r1, r2⟩, ⟨s0, s1, s2, s3, s4⟩, ⟨v0, v1, v2⟩, ⟨z0, z1, z2, z3, z4⟩, lR, lS⟩ := HX9.out.res
      go_wp2_with fail
      go_region_law (first
        | (go_simp; go_at_call 36; refine (rno_any 8 _).mono ?_; rintro e wn ⟨rfl, rfl⟩)
        | fail)
      all_goals
        go_wp2_with fail
        obtain ⟨hlr, hls, hlb, _⟩ := HX9.out.end_ (a := .int .i64 I) (b := .int .i64 J) (v := .slice A k ca) (x0 := .int .i64 8) (x1 := .slice none 0 0) (x2 := .slice none 0 0) (x3 := .int .i64 0) (x4 := .bool false)
        exact bodyPost_ret (ret_rta rfl (by rfl) (heap_drewL (heap_alloc hlr (.cells #[.int .i64 8, .slice none 0 0, .slice none 0 0, .int .i64 0, .bool false] 36))) (by rfl) (heap_drewL (heap_alloc hls (.cells #[.int .i64 8, .slice none 0 0, .slice none 0 0, .int .i64 0, .bool false] 36)))) rfl (told_no HRT.out HK.out (hlb.alloc hlb.size (.cells #[.int .i64 8, .slice none 0 0, .slice none 0 0, .int .i64 0, .bool false] 36)).drew)
    | false =>
      have HB := Lib.hid (HX.out HU.out rfl)
      have hb2 := HB.out
      rw [HBg.out] at hb2
      have hne2 : up.2 ≠ fr := fun e => by rw [e] at hb2; simp at hb2
      have h32 : 32 ≤ nm := by simp at hb2; omega
      have g1b : ((bs up.2).toList == (bs fr).toList) = false := by rw [bs_toList, bs_toList]; simpa using hne2
      have g3 : decide ((32 : Int) ≤ (nm : Int)) = true := by simp; omega
      have g3' : decide (32 ≤ nm) = true := by simpa using h32
      have hq := E7.out HU.out rfl HB.out
      subst hq
      obtain ⟨t0, t1, t2, lT⟩ := HX9.out.tree
      have PN := Lib.hid (PN0.out W9 HX9.out.bel)
      have hnl := HNl.out
      clear hb2 hne2 h32
      go_wp2_with fail
      refine (PN.out).mono ?_
      rintro e w10 ⟨A10, c10, rfl, _, hB10⟩
      have HX10 := Lib.hid (HX9.out.below hB10)
      clear hB10 PN t0 t1 t2 lT
      go_wp2_with fail
      obtain ⟨t0, t1, t2, lT⟩ := HX10.out.tree
      obtain ⟨⟨r0, r1, r2⟩, ⟨s0, s1, s2, s3, s4⟩, ⟨v0, v1, v2⟩, ⟨z0, z1, z2, z3, z4⟩, lR, lS⟩ := HX10.out.res
      go_wp2_with fail
      go_region_law (first
        | (go_simp; go_at_call 36; refine (rno_any 17 _).mono ?_; rintro e wn ⟨rfl, rfl⟩)
        | fail)
      all_goals
        go_wp2_with fail
        obtain ⟨hlr, hls, hlb, _⟩ := HX10.out.end_ (a := .int .i64 I) (b := .int .i64 J) (v := .slice A k ca) (x0 := .int .i64 17) (x1 := .slice none 0 0) (x2 := .slice none 0 0) (x3 := .int .i64 0) (x4 := .bool false)
        exact bodyPost_ret (ret_rta rfl (by rfl) (heap_drewL (heap_alloc hlr (.cells #[.int .i64 17, .slice none 0 0, .slice none 0 0, .int .i64 0, .bool false] 36))) (by rfl) (heap_drewL (heap_alloc hls (.cells #[.int .i64 17, .slice none 0 0, .slice none 0 0, .int .i64 0, .bool false] 36)))) rfl (told_no HRT.out HK.out (hlb.alloc hlb.size (.cells #[.int .i64 17, .slice none 0 0, .slice none 0 0, .int .i64 0, .bool false] 36)).drew)

end Go.Proofs.YtabecceojbeomaaGreatDoor
