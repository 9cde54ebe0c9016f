/- The contracts of the parts TrRDoL, TrRDoP, TrRRemove, TrRBGet, TrRBCut, in one text. Conditions: those told at each part. -/
import Derived.Test.YtabecceojbeomaaGreatDoorTrRB
section
/- The contract of the reference's Do at kinds List and Stat. Conditions: the tree's invariant; a path below 2^32 bytes. -/
namespace Go.Proofs.YtabecceojbeomaaGreatDoor
open Go.RowKit Go.Cat Go.Cat.Dir Go.Cat.Tree

set_option maxRecDepth 100000 in
set_option maxHeartbeats 4000000 in
theorem rdolist_any (I J : Int) (A : Option Addr) (es : List (Txt × El)) (ca : Nat) (c : CallV) (Ac : Option Addr) (cA : Nat) (w : World) (h : RT w A ca es) (hi : Inv (fullR es)) (hn : es.length ≤ 900) (hp : c.path.length < 4294967281) (hkd : c.kind = 9) :
    Calls Tryz.prog 21 #[.agg #[.int .i64 I, .int .i64 J, .slice A es.length ca], .agg (callC c Ac cA)] w (ToldRDo (doV I J (fullR es) c) I J w) := by
  have pf := fun W (hW : Below w.heap.size w W) => rfind_any I J A es ca c.path W (h.below hW) (by omega) hp
  unfold ToldRF rtC at pf
  have pn := fun W (hW : Below w.heap.size w W) => rnames_any I J A es ca c.path W (h.below hW) (fun y hy => full_abe hi hy) (full_rise hi) (by omega)
  unfold ToldT at pn
  simp only [← names_full] at pn
  have hnl : (namesV c.path (fullR es)).length ≤ 100000 := by rw [names_full]; have := namesV_le c.path (ths es); rw [ths_length] at this; omega
  have e1 := do_lfind (l := fullR es) (c := c) (I := I) (J := J) (by omega)
  have e2 := do_lnot (l := fullR es) (c := c) (I := I) (J := J) hkd
  have e3 := do_list (l := fullR es) (c := c) (I := I) (J := J) hkd
  obtain ⟨Q, hQ⟩ : ∃ Q, Q = doV I J (fullR es) c := ⟨_, rfl⟩
  rw [← hQ] at e1 e2 e3 ⊢
  obtain ⟨r, hr⟩ : ∃ r, r = findV (fullR es) c.path := ⟨_, rfl⟩
  rw [← hr] at pf e1 e2 e3
  obtain ⟨ns, hns⟩ : ∃ ns, ns = namesV c.path (fullR es) := ⟨_, rfl⟩
  rw [← hns] at e3 hnl
  simp only [← hns] at pn
  obtain ⟨nm, hnm⟩ : ∃ nm, nm = ns.length := ⟨_, rfl⟩
  have HNm := Lib.hid hnm
  rw [← hnm] at hnl
  simp only [← hnm] at pn
  obtain ⟨tp, htp⟩ : ∃ tp, tp = if r.1 = 0 then c.path else [] := ⟨_, rfl⟩
  simp only [← htp] at pf
  have E1 := Lib.hid e1
  have E2 := Lib.hid e2
  have E3 := Lib.hid e3
  have HNl := Lib.hid hnl
  have HRT := Lib.hid h
  obtain ⟨k, hk⟩ : ∃ k, k = es.length := ⟨_, rfl⟩
  have HK := Lib.hid hk
  rw [← hk] at pf pn ⊢
  have PF0 := Lib.hid pf
  have PN0 := Lib.hid pn
  obtain ⟨W0, hW0⟩ : ∃ W0, W0 = (((w.alloc (.cells #[.int .i64 I, .int .i64 J, .slice A k ca] 53)).alloc (.cells (callC c Ac cA) 33)).alloc (.cells #[.int .i64 0, .int .i64 0, .slice none 0 0] 53)).alloc (.cells #[.int .i64 0, .slice none 0 0, .slice none 0 0, .int .i64 0, .bool false] 36) := ⟨_, rfl⟩
  have HX0 := Lib.hid (RxW.new hW0)
  have HW0 := Lib.hid hW0
  clear hk hW0 h hi pf pn hnl e1 e2 e3 hQ hr hns hnm htp
  go_enter Tryz.func21, Tryz.ntmps21
  go_upto_region 1 with (fail)
  rw [← HW0.out, show w.heap.size + 1 + 1 = w.heap.size + 2 from rfl, show w.heap.size + 2 + 1 = w.heap.size + 3 from rfl]
  clear HW0
  obtain ⟨c0, c1, c2, c3, c4, c5, lC⟩ := HX0.out.call
  rw [hkd] at c0
  obtain ⟨t0, t1, t2, lT⟩ := HX0.out.tree
  have PF := Lib.hid (PF0.out W0 HX0.out.bel)
  clear PF0
  go_wp2_with fail
  refine (PF.out).mono ?_
  rintro e w2 ⟨⟨⟨xd, xb⟩, xa, xc⟩, rfl, hx2, _, hB2⟩
  have HXd : Hid (xd = r.2.dir) := Lib.hid (by rw [← hx2])
  have HXb : Hid (xb = r.2.b) := Lib.hid (by rw [← hx2])
  clear hx2
  have HX2 := Lib.hid (HX0.out.below hB2)
  have hx3 := heap_alloc_new w2 (.cells #[.string (bs tp), .bool xd, .slice xa xb.length xc] 80)
  have HX3 := Lib.hid (HX2.out.alloc (.cells #[.string (bs tp), .bool xd, .slice xa xb.length xc] 80))
  have hlt3 : w.heap.size + 3 < w2.heap.size := heap_lt HX2.out.sb
  clear hB2 t0 t1 t2 lT c0 c1 c2 c3 c4 c5 lC HX2 PF
  go_upto_region 25 with (fail)
  generalize w2.alloc (.cells #[.string (bs tp), .bool xd, .slice xa xb.length xc] 80) = W3 at hx3 HX3 ⊢
  generalize w2.heap.size = N3 at hx3 hlt3 ⊢
  have hne2 : N3 ≠ w.heap.size + 2 := by omega
  have hne3 : N3 ≠ w.heap.size + 3 := by omega
  have hne2' : w.heap.size + 2 ≠ N3 := by omega
  have hne3' : w.heap.size + 3 ≠ N3 := by omega
  have y1 : W3.cell? ⟨N3, 1, none⟩ = some (.bool xd) := cell_of_row _ _ 1 _ _ _ hx3
  have y2 : W3.cell? ⟨N3, 2, none⟩ = some (.slice xa xb.length xc) := cell_of_row _ _ 2 _ _ _ hx3
  have HY := Lib.hid hx3
  clear hx3
  by_cases hf : r.1 = 0
  case neg =>
    have d2 : (r.1 != 0) = true := by simpa using hf
    have hq := E1.out hf
    subst hq
    clear hf HXd HXb
    go_wp2_with fail
    clear y1 y2
    obtain ⟨t0, t1, t2, lT⟩ := HX3.out.tree
    obtain ⟨⟨r0, r1, r2⟩, ⟨s0, s1, s2, s3, s4⟩, ⟨v0, v1, v2⟩, ⟨z0, z1, z2, z3, z4⟩, lR, lS⟩ := HX3.out.res
    go_wp2_with fail
    go_region_law (first
      | (go_simp; go_at_call 36; refine (rno_any r.1 _).mono ?_; rintro e wn ⟨rfl, rfl⟩)
      | fail)
    all_goals
      go_wp2_with fail
      obtain ⟨hlr, hls, hlb, _⟩ := HX3.out.end_ (a := .int .i64 I) (b := .int .i64 J) (v := .slice A k ca) (x0 := .int .i64 r.1) (x1 := .slice none 0 0) (x2 := .slice none 0 0) (x3 := .int .i64 0) (x4 := .bool false)
      exact bodyPost_ret (ret_rta rfl (by rfl) (heap_drewL (heap_alloc hlr (.cells #[.int .i64 r.1, .slice none 0 0, .slice none 0 0, .int .i64 0, .bool false] 36))) (by rfl) (heap_drewL (heap_alloc hls (.cells #[.int .i64 r.1, .slice none 0 0, .slice none 0 0, .int .i64 0, .bool false] 36)))) rfl (told_no HRT.out HK.out (hlb.alloc hlb.size (.cells #[.int .i64 r.1, .slice none 0 0, .slice none 0 0, .int .i64 0, .bool false] 36)).drew)
  case pos =>
    have d2 : (r.1 != 0) = false := by simpa using hf
    have HF := Lib.hid hf
    clear hf
    obtain ⟨c0, c1, c2, c3, c4, c5, lC⟩ := HX3.out.call
    rw [hkd] at c0
    obtain ⟨t0, t1, t2, lT⟩ := HX3.out.tree
    cases xd with
    | false =>
      have hq := E2.out HF.out HXd.out.symm
      subst hq
      clear HXd HXb
      go_wp2_with fail
      clear c0 c1 c2 c3 c4 c5 lC y1 y2 t0 t1 t2 lT
      obtain ⟨t0, t1, t2, lT⟩ := HX3.out.tree
      obtain ⟨⟨r0, r1, r2⟩, ⟨s0, s1, s2, s3, s4⟩, ⟨v0, v1, v2⟩, ⟨z0, z1, z2, z3, z4⟩, lR, lS⟩ := HX3.out.res
      go_wp2_with fail
      go_region_law (first
        | (go_simp; go_at_call 36; refine (rno_any 14 _).mono ?_; rintro e wn ⟨rfl, rfl⟩)
        | fail)
      all_goals
        go_wp2_with fail
        obtain ⟨hlr, hls, hlb, _⟩ := HX3.out.end_ (a := .int .i64 I) (b := .int .i64 J) (v := .slice A k ca) (x0 := .int .i64 14) (x1 := .slice none 0 0) (x2 := .slice none 0 0) (x3 := .int .i64 0) (x4 := .bool false)
        exact bodyPost_ret (ret_rta rfl (by rfl) (heap_drewL (heap_alloc hlr (.cells #[.int .i64 14, .slice none 0 0, .slice none 0 0, .int .i64 0, .bool false] 36))) (by rfl) (heap_drewL (heap_alloc hls (.cells #[.int .i64 14, .slice none 0 0, .slice none 0 0, .int .i64 0, .bool false] 36)))) rfl (told_no HRT.out HK.out (hlb.alloc hlb.size (.cells #[.int .i64 14, .slice none 0 0, .slice none 0 0, .int .i64 0, .bool false] 36)).drew)
    | true =>
      have hq := E3.out HF.out HXd.out.symm
      have PN := Lib.hid (PN0.out W3 HX3.out.bel)
      clear PN0
      have hnl := HNl.out
      go_wp2_with fail
      refine (PN.out).mono ?_
      rintro e w4 ⟨A4, d4, rfl, hT4, hB4⟩
      have HX4 := Lib.hid (HX3.out.below hB4)
      have HT4 := Lib.hid hT4
      have HB4 := Lib.hid hB4
      clear hB4 hT4 PN y1 y2 c0 c1 c2 c3 c4 c5 lC t0 t1 t2 lT
      obtain ⟨c0, c1, c2, c3, c4, c5, lC⟩ := HX4.out.call
      rw [hkd] at c0
      obtain ⟨t0, t1, t2, lT⟩ := HX4.out.tree
      obtain ⟨⟨r0, r1, r2⟩, ⟨s0, s1, s2, s3, s4⟩, ⟨v0, v1, v2⟩, ⟨z0, z1, z2, z3, z4⟩, lR, lS⟩ := HX4.out.res
      subst hq
      go_wp2_with fail
      obtain ⟨hlr, hls, _, _⟩ := HX4.out.end_ (a := .int .i64 I) (b := .int .i64 J) (v := .slice A k ca) (x0 := .int .i64 0) (x1 := .slice none 0 0) (x2 := .slice A4 nm d4) (x3 := .int .i64 0) (x4 := .bool false)
      exact bodyPost_ret (ret_rta rfl (by rfl) (hlr) (by rfl) (hls)) rfl ((HX4.out.toldF (r := (fullR es, { names := ns })) (B := none) (cB := 0) (m := 0) (C := A4) (cC := d4) (n := nm) (HRT.out.below HX4.out.bel) rfl (.inl rfl) (HT4.out) HK.out rfl (HNm.out)))

set_option maxRecDepth 100000 in
set_option maxHeartbeats 4000000 in
theorem rdostat_any (I J : Int) (A : Option Addr) (es : List (Txt × El)) (ca : Nat) (c : CallV) (Ac : Option Addr) (cA : Nat) (w : World) (h : RT w A ca es) (hi : Inv (fullR es)) (hn : es.length ≤ 900) (hp : c.path.length < 4294967281) (hkd : c.kind = 10) :
    Calls Tryz.prog 21 #[.agg #[.int .i64 I, .int .i64 J, .slice A es.length ca], .agg (callC c Ac cA)] w (ToldRDo (doV I J (fullR es) c) I J w) := by
  have pf := fun W (hW : Below w.heap.size w W) => rfind_any I J A es ca c.path W (h.below hW) (by omega) hp
  unfold ToldRF rtC at pf
  have pn := fun W (hW : Below w.heap.size w W) => rnames_any I J A es ca c.path W (h.below hW) (fun y hy => full_abe hi hy) (full_rise hi) (by omega)
  unfold ToldT at pn
  simp only [← names_full] at pn
  have hnl : (namesV c.path (fullR es)).length ≤ 100000 := by rw [names_full]; have := namesV_le c.path (ths es); rw [ths_length] at this; omega
  have e1 := do_lfind (l := fullR es) (c := c) (I := I) (J := J) (by omega)
  have e2 := do_sfile (l := fullR es) (c := c) (I := I) (J := J) hkd
  have e3 := do_sdir (l := fullR es) (c := c) (I := I) (J := J) hkd
  obtain ⟨Q, hQ⟩ : ∃ Q, Q = doV I J (fullR es) c := ⟨_, rfl⟩
  rw [← hQ] at e1 e2 e3 ⊢
  obtain ⟨r, hr⟩ : ∃ r, r = findV (fullR es) c.path := ⟨_, rfl⟩
  rw [← hr] at pf e1 e2 e3
  obtain ⟨ns, hns⟩ : ∃ ns, ns = namesV c.path (fullR es) := ⟨_, rfl⟩
  rw [← hns] at e3 hnl
  simp only [← hns] at pn
  obtain ⟨nm, hnm⟩ : ∃ nm, nm = ns.length := ⟨_, rfl⟩
  have HNm := Lib.hid hnm
  rw [← hnm] at hnl
  simp only [← hnm] at pn
  obtain ⟨tp, htp⟩ : ∃ tp, tp = if r.1 = 0 then c.path else [] := ⟨_, rfl⟩
  simp only [← htp] at pf
  have E1 := Lib.hid e1
  have E2 := Lib.hid e2
  have E3 := Lib.hid e3
  have HNl := Lib.hid hnl
  have HRT := Lib.hid h
  obtain ⟨k, hk⟩ : ∃ k, k = es.length := ⟨_, rfl⟩
  have HK := Lib.hid hk
  rw [← hk] at pf pn ⊢
  have PF0 := Lib.hid pf
  have PN0 := Lib.hid pn
  obtain ⟨W0, hW0⟩ : ∃ W0, W0 = (((w.alloc (.cells #[.int .i64 I, .int .i64 J, .slice A k ca] 53)).alloc (.cells (callC c Ac cA) 33)).alloc (.cells #[.int .i64 0, .int .i64 0, .slice none 0 0] 53)).alloc (.cells #[.int .i64 0, .slice none 0 0, .slice none 0 0, .int .i64 0, .bool false] 36) := ⟨_, rfl⟩
  have HX0 := Lib.hid (RxW.new hW0)
  have HW0 := Lib.hid hW0
  clear hk hW0 h hi pf pn hnl e1 e2 e3 hQ hr hns hnm htp
  go_enter Tryz.func21, Tryz.ntmps21
  go_upto_region 1 with (fail)
  rw [← HW0.out, show w.heap.size + 1 + 1 = w.heap.size + 2 from rfl, show w.heap.size + 2 + 1 = w.heap.size + 3 from rfl]
  clear HW0
  obtain ⟨c0, c1, c2, c3, c4, c5, lC⟩ := HX0.out.call
  rw [hkd] at c0
  obtain ⟨t0, t1, t2, lT⟩ := HX0.out.tree
  have PF := Lib.hid (PF0.out W0 HX0.out.bel)
  clear PF0
  go_wp2_with fail
  refine (PF.out).mono ?_
  rintro e w2 ⟨⟨⟨xd, xb⟩, xa, xc⟩, rfl, hx2, _, hB2⟩
  have HXd : Hid (xd = r.2.dir) := Lib.hid (by rw [← hx2])
  have HXb : Hid (xb = r.2.b) := Lib.hid (by rw [← hx2])
  clear hx2
  have HX2 := Lib.hid (HX0.out.below hB2)
  have hx3 := heap_alloc_new w2 (.cells #[.string (bs tp), .bool xd, .slice xa xb.length xc] 80)
  have HX3 := Lib.hid (HX2.out.alloc (.cells #[.string (bs tp), .bool xd, .slice xa xb.length xc] 80))
  have hlt3 : w.heap.size + 3 < w2.heap.size := heap_lt HX2.out.sb
  clear hB2 t0 t1 t2 lT c0 c1 c2 c3 c4 c5 lC HX2 PF
  go_upto_region 25 with (fail)
  generalize w2.alloc (.cells #[.string (bs tp), .bool xd, .slice xa xb.length xc] 80) = W3 at hx3 HX3 ⊢
  generalize w2.heap.size = N3 at hx3 hlt3 ⊢
  have hne2 : N3 ≠ w.heap.size + 2 := by omega
  have hne3 : N3 ≠ w.heap.size + 3 := by omega
  have hne2' : w.heap.size + 2 ≠ N3 := by omega
  have hne3' : w.heap.size + 3 ≠ N3 := by omega
  have y1 : W3.cell? ⟨N3, 1, none⟩ = some (.bool xd) := cell_of_row _ _ 1 _ _ _ hx3
  have y2 : W3.cell? ⟨N3, 2, none⟩ = some (.slice xa xb.length xc) := cell_of_row _ _ 2 _ _ _ hx3
  have HY := Lib.hid hx3
  clear hx3
  by_cases hf : r.1 = 0
  case neg =>
    have d2 : (r.1 != 0) = true := by simpa using hf
    have hq := E1.out hf
    subst hq
    clear hf HXd HXb
    go_wp2_with fail
    clear y1 y2
    obtain ⟨t0, t1, t2, lT⟩ := HX3.out.tree
    obtain ⟨⟨r0, r1, r2⟩, ⟨s0, s1, s2, s3, s4⟩, ⟨v0, v1, v2⟩, ⟨z0, z1, z2, z3, z4⟩, lR, lS⟩ := HX3.out.res
    go_wp2_with fail
    go_region_law (first
      | (go_simp; go_at_call 36; refine (rno_any r.1 _).mono ?_; rintro e wn ⟨rfl, rfl⟩)
      | fail)
    all_goals
      go_wp2_with fail
      obtain ⟨hlr, hls, hlb, _⟩ := HX3.out.end_ (a := .int .i64 I) (b := .int .i64 J) (v := .slice A k ca) (x0 := .int .i64 r.1) (x1 := .slice none 0 0) (x2 := .slice none 0 0) (x3 := .int .i64 0) (x4 := .bool false)
      exact bodyPost_ret (ret_rta rfl (by rfl) (heap_drewL (heap_alloc hlr (.cells #[.int .i64 r.1, .slice none 0 0, .slice none 0 0, .int .i64 0, .bool false] 36))) (by rfl) (heap_drewL (heap_alloc hls (.cells #[.int .i64 r.1, .slice none 0 0, .slice none 0 0, .int .i64 0, .bool false] 36)))) rfl (told_no HRT.out HK.out (hlb.alloc hlb.size (.cells #[.int .i64 r.1, .slice none 0 0, .slice none 0 0, .int .i64 0, .bool false] 36)).drew)
  case pos =>
    have d2 : (r.1 != 0) = false := by simpa using hf
    have HF := Lib.hid hf
    clear hf
    obtain ⟨c0, c1, c2, c3, c4, c5, lC⟩ := HX3.out.call
    rw [hkd] at c0
    obtain ⟨t0, t1, t2, lT⟩ := HX3.out.tree
    cases xd with
    | false =>
      have hq := E2.out HF.out HXd.out.symm
      have PN := Lib.hid (PN0.out W3 HX3.out.bel)
      clear PN0
      have hnl := HNl.out
      go_wp2_with fail
      refine (PN.out).mono ?_
      rintro e w4 ⟨A4, d4, rfl, hT4, hB4⟩
      have HX4 := Lib.hid (HX3.out.below hB4)
      have HT4 := Lib.hid hT4
      have HB4 := Lib.hid hB4
      clear hB4 hT4 PN y1 y2 c0 c1 c2 c3 c4 c5 lC t0 t1 t2 lT
      obtain ⟨c0, c1, c2, c3, c4, c5, lC⟩ := HX4.out.call
      rw [hkd] at c0
      rw [← HXb.out] at hq
      subst hq
      have y1 : w4.cell? ⟨N3, 1, none⟩ = some (.bool false) := cell_of_row _ _ 1 _ _ _ (heap_below HY.out HB4.out)
      have y2 : w4.cell? ⟨N3, 2, none⟩ = some (.slice xa xb.length xc) := cell_of_row _ _ 2 _ _ _ (heap_below HY.out HB4.out)
      obtain ⟨t0, t1, t2, lT⟩ := HX4.out.tree
      obtain ⟨⟨r0, r1, r2⟩, ⟨s0, s1, s2, s3, s4⟩, ⟨v0, v1, v2⟩, ⟨z0, z1, z2, z3, z4⟩, lR, lS⟩ := HX4.out.res
      go_wp2_with fail
      go_region_law (fail)
      all_goals
        go_wp2_with fail
        obtain ⟨hlr, hls, _, _⟩ := HX4.out.end_ (a := .int .i64 I) (b := .int .i64 J) (v := .slice A k ca) (x0 := .int .i64 0) (x1 := .slice none 0 0) (x2 := .slice none 0 0) (x3 := .int .i64 (xb.length : Nat)) (x4 := .bool false)
        exact bodyPost_ret (ret_rta rfl (by rfl) (heap_drewL hlr) (by rfl) (heap_drewL hls)) rfl ((HX4.out.toldF (r := (fullR es, { size := xb.length })) (B := none) (cB := 0) (m := 0) (C := none) (cC := 0) (n := 0) (HRT.out.below HX4.out.bel) rfl (.inl rfl) (.inl rfl) HK.out rfl (rfl)).drew)
    | true =>
      have hq := E3.out HF.out HXd.out.symm
      have PN := Lib.hid (PN0.out W3 HX3.out.bel)
      clear PN0
      have hnl := HNl.out
      go_wp2_with fail
      refine (PN.out).mono ?_
      rintro e w4 ⟨A4, d4, rfl, hT4, hB4⟩
      have HX4 := Lib.hid (HX3.out.below hB4)
      have HT4 := Lib.hid hT4
      have HB4 := Lib.hid hB4
      clear hB4 hT4 PN y1 y2 c0 c1 c2 c3 c4 c5 lC t0 t1 t2 lT
      obtain ⟨c0, c1, c2, c3, c4, c5, lC⟩ := HX4.out.call
      rw [hkd] at c0
      obtain ⟨t0, t1, t2, lT⟩ := HX4.out.tree
      obtain ⟨⟨r0, r1, r2⟩, ⟨s0, s1, s2, s3, s4⟩, ⟨v0, v1, v2⟩, ⟨z0, z1, z2, z3, z4⟩, lR, lS⟩ := HX4.out.res
      rw [← HNm.out] at hq
      subst hq
      have y1 : w4.cell? ⟨N3, 1, none⟩ = some (.bool true) := cell_of_row _ _ 1 _ _ _ (heap_below HY.out HB4.out)
      go_wp2_with fail
      obtain ⟨hlr, hls, _, _⟩ := HX4.out.end_ (a := .int .i64 I) (b := .int .i64 J) (v := .slice A k ca) (x0 := .int .i64 0) (x1 := .slice none 0 0) (x2 := .slice none 0 0) (x3 := .int .i64 (nm : Nat)) (x4 := .bool true)
      exact bodyPost_ret (ret_rta rfl (by rfl) (hlr) (by rfl) (hls)) rfl ((HX4.out.toldF (r := (fullR es, { dir := true, size := nm })) (B := none) (cB := 0) (m := 0) (C := none) (cC := 0) (n := 0) (HRT.out.below HX4.out.bel) rfl (.inl rfl) (.inl rfl) HK.out rfl (rfl)))

end Go.Proofs.YtabecceojbeomaaGreatDoor
end

section
/- The reference's Do at all other kinds: what it hands on is what is told. No condition but the callee's contract. -/
namespace Go.Proofs.YtabecceojbeomaaGreatDoor
open Go.RowKit Go.Cat Go.Cat.Dir Go.Cat.Tree

set_option maxRecDepth 100000 in
set_option maxHeartbeats 2000000 in
theorem rdo3_any (I J : Int) (A : Option Addr) (es : List (Txt × El)) (ca : Nat) (c : CallV) (Ac : Option Addr) (cA : Nat) (w : World) (Q : TL × AnsV) (h : RT w A ca es) (hkd : c.kind = 3) (hc : ∀ W, Below w.heap.size w W → Calls Tryz.prog 41 #[.agg #[.int .i64 I, .int .i64 J, .slice A es.length ca], .agg (callC c Ac cA)] W (ToldRDo Q I J W)) :
    Calls Tryz.prog 21 #[.agg #[.int .i64 I, .int .i64 J, .slice A es.length ca], .agg (callC c Ac cA)] w (ToldRDo Q I J w) := by
  have pc := fun W hW => hc W hW
  unfold ToldRDo at pc
  simp only [callC, hkd] at pc
  have HRT := Lib.hid h
  obtain ⟨k, hk⟩ : ∃ k, k = es.length := ⟨_, rfl⟩
  have HK := Lib.hid hk
  rw [← hk] at pc ⊢
  have PC0 := Lib.hid pc
  obtain ⟨W0, hW0⟩ : ∃ W0, W0 = (((w.alloc (.cells #[.int .i64 I, .int .i64 J, .slice A k ca] 53)).alloc (.cells (callC c Ac cA) 33)).alloc (.cells #[.int .i64 0, .int .i64 0, .slice none 0 0] 53)).alloc (.cells #[.int .i64 0, .slice none 0 0, .slice none 0 0, .int .i64 0, .bool false] 36) := ⟨_, rfl⟩
  have HX0 := Lib.hid (RxW.new hW0)
  have HW0 := Lib.hid hW0
  clear hk hW0 h pc hc
  go_enter Tryz.func21, Tryz.ntmps21
  go_upto_region 1 with (fail)
  rw [← HW0.out, show w.heap.size + 1 + 1 = w.heap.size + 2 from rfl, show w.heap.size + 2 + 1 = w.heap.size + 3 from rfl]
  clear HW0
  obtain ⟨c0, c1, c2, c3, c4, c5, lC⟩ := HX0.out.call
  rw [hkd] at c0
  obtain ⟨t0, t1, t2, lT⟩ := HX0.out.tree
  have PC := Lib.hid (PC0.out W0 HX0.out.bel)
  clear PC0
  go_wp2_with fail
  refine (PC.out).mono ?_
  rintro e w12 ⟨A12, c12, es12, B12, cB12, C12, cC12, rfl, hRT12, hfl12, hby12, htx12, hB12⟩
  have HX12 := Lib.hid (HX0.out.below hB12)
  have HT12 := Lib.hid (And.intro hRT12 (And.intro hfl12 (And.intro hby12 htx12)))
  obtain ⟨⟨r0, r1, r2⟩, ⟨s0, s1, s2, s3, s4⟩, ⟨v0, v1, v2⟩, ⟨z0, z1, z2, z3, z4⟩, lR, lS⟩ := HX12.out.res
  clear hRT12 hfl12 hby12 htx12 hB12 PC t0 t1 t2 lT c0 c1 c2 c3 c4 c5 lC
  go_wp2_with fail
  obtain ⟨hlr, hls, _, _⟩ := HX12.out.end_ (a := .int .i64 I) (b := .int .i64 J) (v := .slice A12 es12.length c12) (x0 := .int .i64 Q.2.code) (x1 := .slice B12 Q.2.data.length cB12) (x2 := .slice C12 Q.2.names.length cC12) (x3 := .int .i64 Q.2.size) (x4 := .bool Q.2.dir)
  exact bodyPost_ret (ret_rta rfl (by rfl) hlr (by rfl) hls) rfl (HX12.out.toldF HT12.out.1 HT12.out.2.1 HT12.out.2.2.1 HT12.out.2.2.2 rfl rfl rfl)

set_option maxRecDepth 100000 in
set_option maxHeartbeats 2000000 in
theorem rdo4_any (I J : Int) (A : Option Addr) (es : List (Txt × El)) (ca : Nat) (c : CallV) (Ac : Option Addr) (cA : Nat) (w : World) (Q : TL × AnsV) (h : RT w A ca es) (hkd : c.kind = 4) (hc : ∀ W, Below w.heap.size w W → Calls Tryz.prog 41 #[.agg #[.int .i64 I, .int .i64 J, .slice A es.length ca], .agg (callC c Ac cA)] W (ToldRDo Q I J W)) :
    Calls Tryz.prog 21 #[.agg #[.int .i64 I, .int .i64 J, .slice A es.length ca], .agg (callC c Ac cA)] w (ToldRDo Q I J w) := by
  have pc := fun W hW => hc W hW
  unfold ToldRDo at pc
  simp only [callC, hkd] at pc
  have HRT := Lib.hid h
  obtain ⟨k, hk⟩ : ∃ k, k = es.length := ⟨_, rfl⟩
  have HK := Lib.hid hk
  rw [← hk] at pc ⊢
  have PC0 := Lib.hid pc
  obtain ⟨W0, hW0⟩ : ∃ W0, W0 = (((w.alloc (.cells #[.int .i64 I, .int .i64 J, .slice A k ca] 53)).alloc (.cells (callC c Ac cA) 33)).alloc (.cells #[.int .i64 0, .int .i64 0, .slice none 0 0] 53)).alloc (.cells #[.int .i64 0, .slice none 0 0, .slice none 0 0, .int .i64 0, .bool false] 36) := ⟨_, rfl⟩
  have HX0 := Lib.hid (RxW.new hW0)
  have HW0 := Lib.hid hW0
  clear hk hW0 h pc hc
  go_enter Tryz.func21, Tryz.ntmps21
  go_upto_region 1 with (fail)
  rw [← HW0.out, show w.heap.size + 1 + 1 = w.heap.size + 2 from rfl, show w.heap.size + 2 + 1 = w.heap.size + 3 from rfl]
  clear HW0
  obtain ⟨c0, c1, c2, c3, c4, c5, lC⟩ := HX0.out.call
  rw [hkd] at c0
  obtain ⟨t0, t1, t2, lT⟩ := HX0.out.tree
  have PC := Lib.hid (PC0.out W0 HX0.out.bel)
  clear PC0
  go_wp2_with fail
  refine (PC.out).mono ?_
  rintro e w12 ⟨A12, c12, es12, B12, cB12, C12, cC12, rfl, hRT12, hfl12, hby12, htx12, hB12⟩
  have HX12 := Lib.hid (HX0.out.below hB12)
  have HT12 := Lib.hid (And.intro hRT12 (And.intro hfl12 (And.intro hby12 htx12)))
  obtain ⟨⟨r0, r1, r2⟩, ⟨s0, s1, s2, s3, s4⟩, ⟨v0, v1, v2⟩, ⟨z0, z1, z2, z3, z4⟩, lR, lS⟩ := HX12.out.res
  clear hRT12 hfl12 hby12 htx12 hB12 PC t0 t1 t2 lT c0 c1 c2 c3 c4 c5 lC
  go_wp2_with fail
  obtain ⟨hlr, hls, _, _⟩ := HX12.out.end_ (a := .int .i64 I) (b := .int .i64 J) (v := .slice A12 es12.length c12) (x0 := .int .i64 Q.2.code) (x1 := .slice B12 Q.2.data.length cB12) (x2 := .slice C12 Q.2.names.length cC12) (x3 := .int .i64 Q.2.size) (x4 := .bool Q.2.dir)
  exact bodyPost_ret (ret_rta rfl (by rfl) hlr (by rfl) hls) rfl (HX12.out.toldF HT12.out.1 HT12.out.2.1 HT12.out.2.2.1 HT12.out.2.2.2 rfl rfl rfl)

set_option maxRecDepth 100000 in
set_option maxHeartbeats 2000000 in
theorem rdo5_any (I J : Int) (A : Option Addr) (es : List (Txt × El)) (ca : Nat) (c : CallV) (Ac : Option Addr) (cA : Nat) (w : World) (Q : TL × AnsV) (h : RT w A ca es) (hkd : c.kind = 5) (hc : ∀ W, Below w.heap.size w W → Calls Tryz.prog 42 #[.agg #[.int .i64 I, .int .i64 J, .slice A es.length ca], .agg (callC c Ac cA)] W (ToldRDo Q I J W)) :
    Calls Tryz.prog 21 #[.agg #[.int .i64 I, .int .i64 J, .slice A es.length ca], .agg (callC c Ac cA)] w (ToldRDo Q I J w) := by
  have pc := fun W hW => hc W hW
  unfold ToldRDo at pc
  simp only [callC, hkd] at pc
  have HRT := Lib.hid h
  obtain ⟨k, hk⟩ : ∃ k, k = es.length := ⟨_, rfl⟩
  have HK := Lib.hid hk
  rw [← hk] at pc ⊢
  have PC0 := Lib.hid pc
  obtain ⟨W0, hW0⟩ : ∃ W0, W0 = (((w.alloc (.cells #[.int .i64 I, .int .i64 J, .slice A k ca] 53)).alloc (.cells (callC c Ac cA) 33)).alloc (.cells #[.int .i64 0, .int .i64 0, .slice none 0 0] 53)).alloc (.cells #[.int .i64 0, .slice none 0 0, .slice none 0 0, .int .i64 0, .bool false] 36) := ⟨_, rfl⟩
  have HX0 := Lib.hid (RxW.new hW0)
  have HW0 := Lib.hid hW0
  clear hk hW0 h pc hc
  go_enter Tryz.func21, Tryz.ntmps21
  go_upto_region 1 with (fail)
  rw [← HW0.out, show w.heap.size + 1 + 1 = w.heap.size + 2 from rfl, show w.heap.size + 2 + 1 = w.heap.size + 3 from rfl]
  clear HW0
  obtain ⟨c0, c1, c2, c3, c4, c5, lC⟩ := HX0.out.call
  rw [hkd] at c0
  obtain ⟨t0, t1, t2, lT⟩ := HX0.out.tree
  have PC := Lib.hid (PC0.out W0 HX0.out.bel)
  clear PC0
  go_wp2_with fail
  refine (PC.out).mono ?_
  rintro e w12 ⟨A12, c12, es12, B12, cB12, C12, cC12, rfl, hRT12, hfl12, hby12, htx12, hB12⟩
  have HX12 := Lib.hid (HX0.out.below hB12)
  have HT12 := Lib.hid (And.intro hRT12 (And.intro hfl12 (And.intro hby12 htx12)))
  obtain ⟨⟨r0, r1, r2⟩, ⟨s0, s1, s2, s3, s4⟩, ⟨v0, v1, v2⟩, ⟨z0, z1, z2, z3, z4⟩, lR, lS⟩ := HX12.out.res
  clear hRT12 hfl12 hby12 htx12 hB12 PC t0 t1 t2 lT c0 c1 c2 c3 c4 c5 lC
  go_wp2_with fail
  obtain ⟨hlr, hls, _, _⟩ := HX12.out.end_ (a := .int .i64 I) (b := .int .i64 J) (v := .slice A12 es12.length c12) (x0 := .int .i64 Q.2.code) (x1 := .slice B12 Q.2.data.length cB12) (x2 := .slice C12 Q.2.names.length cC12) (x3 := .int .i64 Q.2.size) (x4 := .bool Q.2.dir)
  exact bodyPost_ret (ret_rta rfl (by rfl) hlr (by rfl) hls) rfl (HX12.out.toldF HT12.out.1 HT12.out.2.1 HT12.out.2.2.1 HT12.out.2.2.2 rfl rfl rfl)

set_option maxRecDepth 100000 in
set_option maxHeartbeats 2000000 in
theorem rdo6_any (I J : Int) (A : Option Addr) (es : List (Txt × El)) (ca : Nat) (c : CallV) (Ac : Option Addr) (cA : Nat) (w : World) (Q : TL × AnsV) (h : RT w A ca es) (hkd : c.kind = 6) (hc : ∀ W, Below w.heap.size w W → Calls Tryz.prog 43 #[.agg #[.int .i64 I, .int .i64 J, .slice A es.length ca], .agg (callC c Ac cA)] W (ToldRDo Q I J W)) :
    Calls Tryz.prog 21 #[.agg #[.int .i64 I, .int .i64 J, .slice A es.length ca], .agg (callC c Ac cA)] w (ToldRDo Q I J w) := by
  have pc := fun W hW => hc W hW
  unfold ToldRDo at pc
  simp only [callC, hkd] at pc
  have HRT := Lib.hid h
  obtain ⟨k, hk⟩ : ∃ k, k = es.length := ⟨_, rfl⟩
  have HK := Lib.hid hk
  rw [← hk] at pc ⊢
  have PC0 := Lib.hid pc
  obtain ⟨W0, hW0⟩ : ∃ W0, W0 = (((w.alloc (.cells #[.int .i64 I, .int .i64 J, .slice A k ca] 53)).alloc (.cells (callC c Ac cA) 33)).alloc (.cells #[.int .i64 0, .int .i64 0, .slice none 0 0] 53)).alloc (.cells #[.int .i64 0, .slice none 0 0, .slice none 0 0, .int .i64 0, .bool false] 36) := ⟨_, rfl⟩
  have HX0 := Lib.hid (RxW.new hW0)
  have HW0 := Lib.hid hW0
  clear hk hW0 h pc hc
  go_enter Tryz.func21, Tryz.ntmps21
  go_upto_region 1 with (fail)
  rw [← HW0.out, show w.heap.size + 1 + 1 = w.heap.size + 2 from rfl, show w.heap.size + 2 + 1 = w.heap.size + 3 from rfl]
  clear HW0
  obtain ⟨c0, c1, c2, c3, c4, c5, lC⟩ := HX0.out.call
  rw [hkd] at c0
  obtain ⟨t0, t1, t2, lT⟩ := HX0.out.tree
  have PC := Lib.hid (PC0.out W0 HX0.out.bel)
  clear PC0
  go_wp2_with fail
  refine (PC.out).mono ?_
  rintro e w12 ⟨A12, c12, es12, B12, cB12, C12, cC12, rfl, hRT12, hfl12, hby12, htx12, hB12⟩
  have HX12 := Lib.hid (HX0.out.below hB12)
  have HT12 := Lib.hid (And.intro hRT12 (And.intro hfl12 (And.intro hby12 htx12)))
  obtain ⟨⟨r0, r1, r2⟩, ⟨s0, s1, s2, s3, s4⟩, ⟨v0, v1, v2⟩, ⟨z0, z1, z2, z3, z4⟩, lR, lS⟩ := HX12.out.res
  clear hRT12 hfl12 hby12 htx12 hB12 PC t0 t1 t2 lT c0 c1 c2 c3 c4 c5 lC
  go_wp2_with fail
  obtain ⟨hlr, hls, _, _⟩ := HX12.out.end_ (a := .int .i64 I) (b := .int .i64 J) (v := .slice A12 es12.length c12) (x0 := .int .i64 Q.2.code) (x1 := .slice B12 Q.2.data.length cB12) (x2 := .slice C12 Q.2.names.length cC12) (x3 := .int .i64 Q.2.size) (x4 := .bool Q.2.dir)
  exact bodyPost_ret (ret_rta rfl (by rfl) hlr (by rfl) hls) rfl (HX12.out.toldF HT12.out.1 HT12.out.2.1 HT12.out.2.2.1 HT12.out.2.2.2 rfl rfl rfl)

set_option maxRecDepth 100000 in
set_option maxHeartbeats 2000000 in
theorem rdo7_any (I J : Int) (A : Option Addr) (es : List (Txt × El)) (ca : Nat) (c : CallV) (Ac : Option Addr) (cA : Nat) (w : World) (Q : TL × AnsV) (h : RT w A ca es) (hkd : c.kind = 7) (hc : ∀ W, Below w.heap.size w W → Calls Tryz.prog 43 #[.agg #[.int .i64 I, .int .i64 J, .slice A es.length ca], .agg (callC c Ac cA)] W (ToldRDo Q I J W)) :
    Calls Tryz.prog 21 #[.agg #[.int .i64 I, .int .i64 J, .slice A es.length ca], .agg (callC c Ac cA)] w (ToldRDo Q I J w) := by
  have pc := fun W hW => hc W hW
  unfold ToldRDo at pc
  simp only [callC, hkd] at pc
  have HRT := Lib.hid h
  obtain ⟨k, hk⟩ : ∃ k, k = es.length := ⟨_, rfl⟩
  have HK := Lib.hid hk
  rw [← hk] at pc ⊢
  have PC0 := Lib.hid pc
  obtain ⟨W0, hW0⟩ : ∃ W0, W0 = (((w.alloc (.cells #[.int .i64 I, .int .i64 J, .slice A k ca] 53)).alloc (.cells (callC c Ac cA) 33)).alloc (.cells #[.int .i64 0, .int .i64 0, .slice none 0 0] 53)).alloc (.cells #[.int .i64 0, .slice none 0 0, .slice none 0 0, .int .i64 0, .bool false] 36) := ⟨_, rfl⟩
  have HX0 := Lib.hid (RxW.new hW0)
  have HW0 := Lib.hid hW0
  clear hk hW0 h pc hc
  go_enter Tryz.func21, Tryz.ntmps21
  go_upto_region 1 with (fail)
  rw [← HW0.out, show w.heap.size + 1 + 1 = w.heap.size + 2 from rfl, show w.heap.size + 2 + 1 = w.heap.size + 3 from rfl]
  clear HW0
  obtain ⟨c0, c1, c2, c3, c4, c5, lC⟩ := HX0.out.call
  rw [hkd] at c0
  obtain ⟨t0, t1, t2, lT⟩ := HX0.out.tree
  have PC := Lib.hid (PC0.out W0 HX0.out.bel)
  clear PC0
  go_wp2_with fail
  refine (PC.out).mono ?_
  rintro e w12 ⟨A12, c12, es12, B12, cB12, C12, cC12, rfl, hRT12, hfl12, hby12, htx12, hB12⟩
  have HX12 := Lib.hid (HX0.out.below hB12)
  have HT12 := Lib.hid (And.intro hRT12 (And.intro hfl12 (And.intro hby12 htx12)))
  obtain ⟨⟨r0, r1, r2⟩, ⟨s0, s1, s2, s3, s4⟩, ⟨v0, v1, v2⟩, ⟨z0, z1, z2, z3, z4⟩, lR, lS⟩ := HX12.out.res
  clear hRT12 hfl12 hby12 htx12 hB12 PC t0 t1 t2 lT c0 c1 c2 c3 c4 c5 lC
  go_wp2_with fail
  obtain ⟨hlr, hls, _, _⟩ := HX12.out.end_ (a := .int .i64 I) (b := .int .i64 J) (v := .slice A12 es12.length c12) (x0 := .int .i64 Q.2.code) (x1 := .slice B12 Q.2.data.length cB12) (x2 := .slice C12 Q.2.names.length cC12) (x3 := .int .i64 Q.2.size) (x4 := .bool Q.2.dir)
  exact bodyPost_ret (ret_rta rfl (by rfl) hlr (by rfl) hls) rfl (HX12.out.toldF HT12.out.1 HT12.out.2.1 HT12.out.2.2.1 HT12.out.2.2.2 rfl rfl rfl)

set_option maxRecDepth 100000 in
set_option maxHeartbeats 2000000 in
theorem rdo8_any (I J : Int) (A : Option Addr) (es : List (Txt × El)) (ca : Nat) (c : CallV) (Ac : Option Addr) (cA : Nat) (w : World) (Q : TL × AnsV) (h : RT w A ca es) (hkd : c.kind = 8) (hc : ∀ W, Below w.heap.size w W → Calls Tryz.prog 43 #[.agg #[.int .i64 I, .int .i64 J, .slice A es.length ca], .agg (callC c Ac cA)] W (ToldRDo Q I J W)) :
    Calls Tryz.prog 21 #[.agg #[.int .i64 I, .int .i64 J, .slice A es.length ca], .agg (callC c Ac cA)] w (ToldRDo Q I J w) := by
  have pc := fun W hW => hc W hW
  unfold ToldRDo at pc
  simp only [callC, hkd] at pc
  have HRT := Lib.hid h
  obtain ⟨k, hk⟩ : ∃ k, k = es.length := ⟨_, rfl⟩
  have HK := Lib.hid hk
  rw [← hk] at pc ⊢
  have PC0 := Lib.hid pc
  obtain ⟨W0, hW0⟩ : ∃ W0, W0 = (((w.alloc (.cells #[.int .i64 I, .int .i64 J, .slice A k ca] 53)).alloc (.cells (callC c Ac cA) 33)).alloc (.cells #[.int .i64 0, .int .i64 0, .slice none 0 0] 53)).alloc (.cells #[.int .i64 0, .slice none 0 0, .slice none 0 0, .int .i64 0, .bool false] 36) := ⟨_, rfl⟩
  have HX0 := Lib.hid (RxW.new hW0)
  have HW0 := Lib.hid hW0
  clear hk hW0 h pc hc
  go_enter Tryz.func21, Tryz.ntmps21
  go_upto_region 1 with (fail)
  rw [← HW0.out, show w.heap.size + 1 + 1 = w.heap.size + 2 from rfl, show w.heap.size + 2 + 1 = w.heap.size + 3 from rfl]
  clear HW0
  obtain ⟨c0, c1, c2, c3, c4, c5, lC⟩ := HX0.out.call
  rw [hkd] at c0
  obtain ⟨t0, t1, t2, lT⟩ := HX0.out.tree
  have PC := Lib.hid (PC0.out W0 HX0.out.bel)
  clear PC0
  go_wp2_with fail
  refine (PC.out).mono ?_
  rintro e w12 ⟨A12, c12, es12, B12, cB12, C12, cC12, rfl, hRT12, hfl12, hby12, htx12, hB12⟩
  have HX12 := Lib.hid (HX0.out.below hB12)
  have HT12 := Lib.hid (And.intro hRT12 (And.intro hfl12 (And.intro hby12 htx12)))
  obtain ⟨⟨r0, r1, r2⟩, ⟨s0, s1, s2, s3, s4⟩, ⟨v0, v1, v2⟩, ⟨z0, z1, z2, z3, z4⟩, lR, lS⟩ := HX12.out.res
  clear hRT12 hfl12 hby12 htx12 hB12 PC t0 t1 t2 lT c0 c1 c2 c3 c4 c5 lC
  go_wp2_with fail
  obtain ⟨hlr, hls, _, _⟩ := HX12.out.end_ (a := .int .i64 I) (b := .int .i64 J) (v := .slice A12 es12.length c12) (x0 := .int .i64 Q.2.code) (x1 := .slice B12 Q.2.data.length cB12) (x2 := .slice C12 Q.2.names.length cC12) (x3 := .int .i64 Q.2.size) (x4 := .bool Q.2.dir)
  exact bodyPost_ret (ret_rta rfl (by rfl) hlr (by rfl) hls) rfl (HX12.out.toldF HT12.out.1 HT12.out.2.1 HT12.out.2.2.1 HT12.out.2.2.2 rfl rfl rfl)

set_option maxRecDepth 100000 in
set_option maxHeartbeats 2000000 in
theorem rdo0_any (I J : Int) (A : Option Addr) (es : List (Txt × El)) (ca : Nat) (c : CallV) (Ac : Option Addr) (cA : Nat) (w : World) (h : RT w A ca es) (hkd : ¬ (1 ≤ c.kind ∧ c.kind ≤ 10)) :
    Calls Tryz.prog 21 #[.agg #[.int .i64 I, .int .i64 J, .slice A es.length ca], .agg (callC c Ac cA)] w (ToldRDo (fullR es, wrongV 1) I J w) := by
  have d1 : (c.kind == 1) = false := by simp; omega
  have d2 : (c.kind == 2) = false := by simp; omega
  have d3 : (c.kind == 3) = false := by simp; omega
  have d4 : (c.kind == 4) = false := by simp; omega
  have d5 : (c.kind == 5) = false := by simp; omega
  have d6 : (c.kind == 6) = false := by simp; omega
  have d7 : (c.kind == 7) = false := by simp; omega
  have d8 : (c.kind == 8) = false := by simp; omega
  have d9 : (c.kind == 9) = false := by simp; omega
  have d10 : (c.kind == 10) = false := by simp; omega
  have HRT := Lib.hid h
  obtain ⟨k, hk⟩ : ∃ k, k = es.length := ⟨_, rfl⟩
  have HK := Lib.hid hk
  rw [← hk]
  obtain ⟨W0, hW0⟩ : ∃ W0, W0 = (((w.alloc (.cells #[.int .i64 I, .int .i64 J, .slice A k ca] 53)).alloc (.cells (callC c Ac cA) 33)).alloc (.cells #[.int .i64 0, .int .i64 0, .slice none 0 0] 53)).alloc (.cells #[.int .i64 0, .slice none 0 0, .slice none 0 0, .int .i64 0, .bool false] 36) := ⟨_, rfl⟩
  have HX0 := Lib.hid (RxW.new hW0)
  have HW0 := Lib.hid hW0
  clear hk hW0 h
  go_enter Tryz.func21, Tryz.ntmps21
  go_upto_region 1 with (fail)
  rw [← HW0.out, show w.heap.size + 1 + 1 = w.heap.size + 2 from rfl, show w.heap.size + 2 + 1 = w.heap.size + 3 from rfl]
  clear HW0
  obtain ⟨c0, c1, c2, c3, c4, c5, lC⟩ := HX0.out.call
  clear hkd
  go_wp2_with fail
  clear c0 c1 c2 c3 c4 c5 lC d1 d2 d3 d4 d5 d6 d7 d8 d9 d10
  obtain ⟨t0, t1, t2, lT⟩ := HX0.out.tree
  obtain ⟨⟨r0, r1, r2⟩, ⟨s0, s1, s2, s3, s4⟩, ⟨v0, v1, v2⟩, ⟨z0, z1, z2, z3, z4⟩, lR, lS⟩ := HX0.out.res
  go_wp2_with fail
  go_region_law (first
    | (go_simp; go_at_call 36; refine (rno_any 1 _).mono ?_; rintro e wn ⟨rfl, rfl⟩)
    | fail)
  all_goals
    go_wp2_with fail
    obtain ⟨hlr, hls, hlb, _⟩ := HX0.out.end_ (a := .int .i64 I) (b := .int .i64 J) (v := .slice A k ca) (x0 := .int .i64 1) (x1 := .slice none 0 0) (x2 := .slice none 0 0) (x3 := .int .i64 0) (x4 := .bool false)
    exact bodyPost_ret (ret_rta rfl (by rfl) (heap_drewL (heap_alloc hlr (.cells #[.int .i64 1, .slice none 0 0, .slice none 0 0, .int .i64 0, .bool false] 36))) (by rfl) (heap_drewL (heap_alloc hls (.cells #[.int .i64 1, .slice none 0 0, .slice none 0 0, .int .i64 0, .bool false] 36)))) rfl (told_no HRT.out HK.out (hlb.alloc hlb.size (.cells #[.int .i64 1, .slice none 0 0, .slice none 0 0, .int .i64 0, .bool false] 36)).drew)
end Go.Proofs.YtabecceojbeomaaGreatDoor
end

section
/- The contract of the reference's remove. Conditions: the tree's invariant; a path below 2^32 bytes; kind Unlink or Rmdir. -/
namespace Go.Cat.Tree
open Go.RowKit Go.Cat Go.Cat.Dir
variable {l : TL} {c : CallV}
theorem find_bad (h : abe c.path ≠ 0) (hp : c.path ≠ [47]) : abe c.path = 18 ∧ findV l c.path = (18, zeroT) := by
  cases hs : splitV c.path with
  | none => exact ⟨(above_none hs).2, by unfold findV; rw [hs]⟩
  | some ls =>
    by_cases h0 : ls = []
    · subst h0
      exact absurd (nms_split hs).2 hp
    · exact absurd (above_some hs h0).2 h
theorem remove_root (hp : c.path = [47]) : removeV l c = (l, wrongV 18) := by
  have := abe_root
  unfold removeV
  rw [hp, this, if_neg (by decide)]
theorem remove_find (hp : c.path ≠ [47]) (hf : (findV l c.path).1 ≠ 0) : removeV l c = (l, wrongV (findV l c.path).1) := by
  unfold removeV
  by_cases h : abe c.path = 0
  · rw [if_pos h, if_neg hf]
  · obtain ⟨h1, h2⟩ := find_bad (l := l) h hp
    rw [if_neg h, h1, h2]
theorem remove_abe (hp : c.path ≠ [47]) (hf : (findV l c.path).1 = 0) : abe c.path = 0 := by
  by_cases h : abe c.path = 0
  · exact h
  · obtain ⟨_, h2⟩ := find_bad (l := l) h hp
    rw [h2] at hf
    exact absurd hf (by decide)
theorem remove_isdir (hp : c.path ≠ [47]) (hf : (findV l c.path).1 = 0) (hk : c.kind = 3) (hd : (findV l c.path).2.dir = true) : removeV l c = (l, wrongV 15) := by
  unfold removeV
  rw [if_pos (remove_abe hp hf), if_pos hf, if_pos ⟨hk, hd⟩]
theorem remove_notdir (hp : c.path ≠ [47]) (hf : (findV l c.path).1 = 0) (hk : c.kind = 4) (hd : (findV l c.path).2.dir = false) : removeV l c = (l, wrongV 14) := by
  unfold removeV
  rw [if_pos (remove_abe hp hf), if_pos hf, if_neg (fun e => by rw [hd] at e; exact absurd e.2 (by simp)), if_pos ⟨hk, hd⟩]
theorem remove_busy (hp : c.path ≠ [47]) (hf : (findV l c.path).1 = 0) (hk : c.kind = 4) (hd : (findV l c.path).2.dir = true) (hb : 0 < (namesV c.path l).length) : removeV l c = (l, wrongV 19) := by
  unfold removeV
  rw [if_pos (remove_abe hp hf), if_pos hf, if_neg (fun e => by rw [hk] at e; exact absurd e.1 (by decide)), if_neg (fun e => by rw [hd] at e; exact absurd e.2 (by simp)), if_pos hb]
theorem remove_well (hp : c.path ≠ [47]) (hf : (findV l c.path).1 = 0) (hk : c.kind = 4) (hd : (findV l c.path).2.dir = true) (hb : ¬ 0 < (namesV c.path l).length) : removeV l c = (delT c.path l, {}) := by
  unfold removeV
  rw [if_pos (remove_abe hp hf), if_pos hf, if_neg (fun e => by rw [hk] at e; exact absurd e.1 (by decide)), if_neg (fun e => by rw [hd] at e; exact absurd e.2 (by simp)), if_neg hb]
theorem remove_file (hi : Inv l) (hp : c.path ≠ [47]) (hf : (findV l c.path).1 = 0) (hk : c.kind = 3) (hd : (findV l c.path).2.dir = false) : removeV l c = (delT c.path l, {}) := by
  have hn := hi.names_file (hi.find_ok hf) hd
  unfold removeV
  rw [if_pos (remove_abe hp hf), if_pos hf, if_neg (fun e => by rw [hd] at e; exact absurd e.2 (by simp)), if_neg (fun e => by rw [hk] at e; exact absurd e.1 (by decide)), hn, if_neg (by simp)]
end Go.Cat.Tree
namespace Go.Proofs.YtabecceojbeomaaGreatDoor
open Go.RowKit Go.Cat Go.Cat.Dir Go.Cat.Tree

set_option maxRecDepth 100000 in
set_option maxHeartbeats 4000000 in
theorem rremove_any (I J : Int) (A : Option Addr) (es : List (Txt × El)) (ca : Nat) (c : CallV) (Ac : Option Addr) (cA : Nat) (w : World) (h : RT w A ca es) (hi : Inv (fullR es)) (hn : es.length ≤ 1000) (hp : c.path.length < 4294967281) (hkd : c.kind = 3 ∨ c.kind = 4) :
    Calls Tryz.prog 41 #[.agg #[.int .i64 I, .int .i64 J, .slice A es.length ca], .agg (callC c Ac cA)] w (ToldRDo (removeV (fullR es) c) I J w) := by
  have pf := fun W (hW : Below w.heap.size w W) => rfind_any I J A es ca c.path W (h.below hW) hn hp
  unfold ToldRF rtC at pf
  have pn := fun W (hW : Below w.heap.size w W) => rnames_any I J A es ca c.path W (h.below hW) (fun y hy => full_abe hi hy) (full_rise hi) (by omega)
  unfold ToldT at pn
  rw [← names_full] at pn
  have pw := fun W (hW : Below w.heap.size w W) => rwo_any I J A es ca c.path W (h.below hW) (by omega)
  have hnl : (namesV c.path (fullR es)).length ≤ 100000 := by rw [names_full]; have := namesV_le c.path (ths es); rw [ths_length] at this; omega
  have e1 := remove_root (l := fullR es) (c := c)
  have e2 := remove_find (l := fullR es) (c := c)
  have e3 := remove_isdir (l := fullR es) (c := c)
  have e4 := remove_notdir (l := fullR es) (c := c)
  have e5 := remove_busy (l := fullR es) (c := c)
  have e6 := remove_well (l := fullR es) (c := c)
  have e7 := remove_file (c := c) hi
  obtain ⟨Q, hQ⟩ : ∃ Q, Q = removeV (fullR es) c := ⟨_, rfl⟩
  rw [← hQ] at e1 e2 e3 e4 e5 e6 e7 ⊢
  obtain ⟨r, hr⟩ : ∃ r, r = findV (fullR es) c.path := ⟨_, rfl⟩
  rw [← hr] at pf e2 e3 e4 e5 e6 e7
  obtain ⟨nl, hnn⟩ : ∃ nl, nl = (namesV c.path (fullR es)).length := ⟨_, rfl⟩
  rw [← hnn] at pn e5 e6 hnl
  obtain ⟨tp, htp⟩ : ∃ tp, tp = if r.1 = 0 then c.path else [] := ⟨_, rfl⟩
  simp only [← htp] at pf
  have E1 := Lib.hid e1
  have E2 := Lib.hid e2
  have E3 := Lib.hid e3
  have E4 := Lib.hid e4
  have E5 := Lib.hid e5
  have E6 := Lib.hid e6
  have E7 := Lib.hid e7
  have HRT := Lib.hid h
  obtain ⟨k, hk⟩ : ∃ k, k = es.length := ⟨_, rfl⟩
  have HK := Lib.hid hk
  rw [← hk] at pf pn pw ⊢
  have PF0 := Lib.hid pf
  have PN0 := Lib.hid pn
  have PW0 := Lib.hid pw
  obtain ⟨W0, hW0⟩ : ∃ W0, W0 = (((w.alloc (.cells #[.int .i64 I, .int .i64 J, .slice A k ca] 53)).alloc (.cells (callC c Ac cA) 33)).alloc (.cells #[.int .i64 0, .int .i64 0, .slice none 0 0] 53)).alloc (.cells #[.int .i64 0, .slice none 0 0, .slice none 0 0, .int .i64 0, .bool false] 36) := ⟨_, rfl⟩
  have HX0 := Lib.hid (RxW.new hW0)
  have HW0 := Lib.hid hW0
  clear hk hW0 h pf pn pw e1 e2 e3 e4 e5 e6 e7 hr hnn htp hQ hi
  go_enter Tryz.func41, Tryz.ntmps41
  go_upto_region 1 with (fail)
  rw [← HW0.out, show w.heap.size + 1 + 1 = w.heap.size + 2 from rfl, show w.heap.size + 2 + 1 = w.heap.size + 3 from rfl]
  clear HW0
  obtain ⟨c0, c1, c2, c3, c4, c5, lC⟩ := HX0.out.call
  by_cases hroot : c.path = [47]
  · have d1 : ((bs c.path).toList == [47]) = true := by rw [bs_toList, hroot]; rfl
    have hq := E1.out hroot
    subst hq
    clear hroot
    go_wp2_with fail
    clear c0 c1 c2 c3 c4 c5 lC
    obtain ⟨t0, t1, t2, lT⟩ := HX0.out.tree
    obtain ⟨⟨r0, r1, r2⟩, ⟨s0, s1, s2, s3, s4⟩, ⟨v0, v1, v2⟩, ⟨z0, z1, z2, z3, z4⟩, lR, lS⟩ := HX0.out.res
    go_wp2_with fail
    go_region_law (first
      | (go_simp; go_at_call 36; refine (rno_any 18 _).mono ?_; rintro e wn ⟨rfl, rfl⟩)
      | fail)
    all_goals
      go_wp2_with fail
      obtain ⟨hlr, hls, hlb, _⟩ := HX0.out.end_ (a := .int .i64 I) (b := .int .i64 J) (v := .slice A k ca) (x0 := .int .i64 18) (x1 := .slice none 0 0) (x2 := .slice none 0 0) (x3 := .int .i64 0) (x4 := .bool false)
      exact bodyPost_ret (ret_rta rfl (by rfl) (heap_drewL (heap_alloc hlr (.cells #[.int .i64 18, .slice none 0 0, .slice none 0 0, .int .i64 0, .bool false] 36))) (by rfl) (heap_drewL (heap_alloc hls (.cells #[.int .i64 18, .slice none 0 0, .slice none 0 0, .int .i64 0, .bool false] 36)))) rfl (told_no HRT.out HK.out (hlb.alloc hlb.size (.cells #[.int .i64 18, .slice none 0 0, .slice none 0 0, .int .i64 0, .bool false] 36)).drew)
  · have d1 : ((bs c.path).toList == [47]) = false := by rw [bs_toList]; simpa using hroot
    have PF := Lib.hid (PF0.out W0 HX0.out.bel)
    have HRoot := Lib.hid hroot
    clear hroot PF0
    obtain ⟨t0, t1, t2, lT⟩ := HX0.out.tree
    go_wp2_with fail
    refine (PF.out).mono ?_
    rintro e w2 ⟨⟨⟨xd, xb⟩, xa, xc⟩, rfl, hx2, _, hB2⟩
    have HXd : Hid (xd = r.2.dir) := Lib.hid (by rw [← hx2])
    clear hx2
    have HX2 := Lib.hid (HX0.out.below hB2)
    have hx3 := heap_alloc_new w2 (.cells #[.string (bs tp), .bool xd, .slice xa xb.length xc] 80)
    have HX3 := Lib.hid (HX2.out.alloc (.cells #[.string (bs tp), .bool xd, .slice xa xb.length xc] 80))
    clear hB2 t0 t1 t2 lT c0 c1 c2 c3 c4 c5 lC HX2 PF
    go_upto_region 4 with (fail)
    generalize w2.alloc (.cells #[.string (bs tp), .bool xd, .slice xa xb.length xc] 80) = W3 at hx3 HX3 ⊢
    generalize w2.heap.size = N3 at hx3 ⊢
    have y1 : W3.cell? ⟨N3, 1, none⟩ = some (.bool xd) := cell_of_row _ _ 1 _ _ _ hx3
    have HY := Lib.hid hx3
    clear hx3
    by_cases hf : r.1 = 0
    case neg =>
      have d2 : (r.1 != 0) = true := by simpa using hf
      have hq := E2.out HRoot.out hf
      subst hq
      clear hf HXd
      go_wp2_with fail
      clear y1
      obtain ⟨t0, t1, t2, lT⟩ := HX3.out.tree
      obtain ⟨⟨r0, r1, r2⟩, ⟨s0, s1, s2, s3, s4⟩, ⟨v0, v1, v2⟩, ⟨z0, z1, z2, z3, z4⟩, lR, lS⟩ := HX3.out.res
      go_wp2_with fail
      go_region_law (first
        | (go_simp; go_at_call 36; refine (rno_any r.1 _).mono ?_; rintro e wn ⟨rfl, rfl⟩)
        | fail)
      all_goals
        go_wp2_with fail
        obtain ⟨hlr, hls, hlb, _⟩ := HX3.out.end_ (a := .int .i64 I) (b := .int .i64 J) (v := .slice A k ca) (x0 := .int .i64 r.1) (x1 := .slice none 0 0) (x2 := .slice none 0 0) (x3 := .int .i64 0) (x4 := .bool false)
        exact bodyPost_ret (ret_rta rfl (by rfl) (heap_drewL (heap_alloc hlr (.cells #[.int .i64 r.1, .slice none 0 0, .slice none 0 0, .int .i64 0, .bool false] 36))) (by rfl) (heap_drewL (heap_alloc hls (.cells #[.int .i64 r.1, .slice none 0 0, .slice none 0 0, .int .i64 0, .bool false] 36)))) rfl (told_no HRT.out HK.out (hlb.alloc hlb.size (.cells #[.int .i64 r.1, .slice none 0 0, .slice none 0 0, .int .i64 0, .bool false] 36)).drew)
    case pos =>
      have d2 : (r.1 != 0) = false := by simpa using hf
      have HF := Lib.hid hf
      clear hf
      obtain ⟨c0, c1, c2, c3, c4, c5, lC⟩ := HX3.out.call
      obtain ⟨t0, t1, t2, lT⟩ := HX3.out.tree
      rcases hkd with hkd | hkd
      · rw [hkd] at c0
        cases xd with
        | true =>
          have hq := E3.out HRoot.out HF.out hkd HXd.out.symm
          subst hq
          clear HXd hkd
          go_wp2_with fail
          clear c0 c1 c2 c3 c4 c5 lC y1 t0 t1 t2 lT
          obtain ⟨t0, t1, t2, lT⟩ := HX3.out.tree
          obtain ⟨⟨r0, r1, r2⟩, ⟨s0, s1, s2, s3, s4⟩, ⟨v0, v1, v2⟩, ⟨z0, z1, z2, z3, z4⟩, lR, lS⟩ := HX3.out.res
          go_wp2_with fail
          go_region_law (first
            | (go_simp; go_at_call 36; refine (rno_any 15 _).mono ?_; rintro e wn ⟨rfl, rfl⟩)
            | fail)
          all_goals
            go_wp2_with fail
            obtain ⟨hlr, hls, hlb, _⟩ := HX3.out.end_ (a := .int .i64 I) (b := .int .i64 J) (v := .slice A k ca) (x0 := .int .i64 15) (x1 := .slice none 0 0) (x2 := .slice none 0 0) (x3 := .int .i64 0) (x4 := .bool false)
            exact bodyPost_ret (ret_rta rfl (by rfl) (heap_drewL (heap_alloc hlr (.cells #[.int .i64 15, .slice none 0 0, .slice none 0 0, .int .i64 0, .bool false] 36))) (by rfl) (heap_drewL (heap_alloc hls (.cells #[.int .i64 15, .slice none 0 0, .slice none 0 0, .int .i64 0, .bool false] 36)))) rfl (told_no HRT.out HK.out (hlb.alloc hlb.size (.cells #[.int .i64 15, .slice none 0 0, .slice none 0 0, .int .i64 0, .bool false] 36)).drew)
        | false =>
          have hq := E7.out HRoot.out HF.out hkd HXd.out.symm
          subst hq
          have PW := Lib.hid (PW0.out W3 HX3.out.bel)
          unfold ToldRT at PW
          clear HXd hkd
          go_wp2_with fail
          refine (PW.out).mono ?_
          rintro e w6 ⟨A6, c6, rfl, hRT6, hB6⟩
          have HX6 := Lib.hid (HX3.out.below hB6)
          have HRT6 := Lib.hid hRT6
          clear hB6 hRT6 PW c0 c1 c2 c3 c4 c5 lC t0 t1 t2 lT
          obtain ⟨⟨r0, r1, r2⟩, ⟨s0, s1, s2, s3, s4⟩, ⟨v0, v1, v2⟩, ⟨z0, z1, z2, z3, z4⟩, lR, lS⟩ := HX6.out.res
          go_wp2_with fail
          obtain ⟨hlr, hls, _, _⟩ := HX6.out.end_ (a := .int .i64 I) (b := .int .i64 J) (v := .slice A6 (delT c.path es).length c6) (x0 := .int .i64 0) (x1 := .slice none 0 0) (x2 := .slice none 0 0) (x3 := .int .i64 0) (x4 := .bool false)
          exact bodyPost_ret (ret_rta rfl (by rfl) hlr (by rfl) hls) rfl (HX6.out.told HRT6.out (full_del HRoot.out))
      · rw [hkd] at c0
        cases xd with
        | false =>
          have hq := E4.out HRoot.out HF.out hkd HXd.out.symm
          subst hq
          clear HXd hkd
          go_wp2_with fail
          clear c0 c1 c2 c3 c4 c5 lC y1 t0 t1 t2 lT
          obtain ⟨t0, t1, t2, lT⟩ := HX3.out.tree
          obtain ⟨⟨r0, r1, r2⟩, ⟨s0, s1, s2, s3, s4⟩, ⟨v0, v1, v2⟩, ⟨z0, z1, z2, z3, z4⟩, lR, lS⟩ := HX3.out.res
          go_wp2_with fail
          go_region_law (first
            | (go_simp; go_at_call 36; refine (rno_any 14 _).mono ?_; rintro e wn ⟨rfl, rfl⟩)
            | fail)
          all_goals
            go_wp2_with fail
            obtain ⟨hlr, hls, hlb, _⟩ := HX3.out.end_ (a := .int .i64 I) (b := .int .i64 J) (v := .slice A k ca) (x0 := .int .i64 14) (x1 := .slice none 0 0) (x2 := .slice none 0 0) (x3 := .int .i64 0) (x4 := .bool false)
            exact bodyPost_ret (ret_rta rfl (by rfl) (heap_drewL (heap_alloc hlr (.cells #[.int .i64 14, .slice none 0 0, .slice none 0 0, .int .i64 0, .bool false] 36))) (by rfl) (heap_drewL (heap_alloc hls (.cells #[.int .i64 14, .slice none 0 0, .slice none 0 0, .int .i64 0, .bool false] 36)))) rfl (told_no HRT.out HK.out (hlb.alloc hlb.size (.cells #[.int .i64 14, .slice none 0 0, .slice none 0 0, .int .i64 0, .bool false] 36)).drew)
        | true =>
          have PN := Lib.hid (PN0.out W3 HX3.out.bel)
          clear PN0
          by_cases hb : 0 < nl
          · have d5 : decide ((0 : Int) < (nl : Int)) = true := by simp; omega
            have d5' : decide (0 < nl) = true := by simpa using hb
            have hq := E5.out HRoot.out HF.out hkd HXd.out.symm hb
            subst hq
            clear HXd hkd hb
            go_wp2_with fail
            refine (PN.out).mono ?_
            rintro e w4 ⟨A4, c4', rfl, _, hB4⟩
            have HX4 := Lib.hid (HX3.out.below hB4)
            clear hB4 PN y1 c0 c1 c2 c3 c4 c5 lC t0 t1 t2 lT
            go_wp2_with fail
            obtain ⟨t0, t1, t2, lT⟩ := HX4.out.tree
            obtain ⟨⟨r0, r1, r2⟩, ⟨s0, s1, s2, s3, s4⟩, ⟨v0, v1, v2⟩, ⟨z0, z1, z2, z3, z4⟩, lR, lS⟩ := HX4.out.res
            go_wp2_with fail
            go_region_law (first
              | (go_simp; go_at_call 36; refine (rno_any 19 _).mono ?_; rintro e wn ⟨rfl, rfl⟩)
              | fail)
            all_goals
              go_wp2_with fail
              obtain ⟨hlr, hls, hlb, _⟩ := HX4.out.end_ (a := .int .i64 I) (b := .int .i64 J) (v := .slice A k ca) (x0 := .int .i64 19) (x1 := .slice none 0 0) (x2 := .slice none 0 0) (x3 := .int .i64 0) (x4 := .bool false)
              exact bodyPost_ret (ret_rta rfl (by rfl) (heap_drewL (heap_alloc hlr (.cells #[.int .i64 19, .slice none 0 0, .slice none 0 0, .int .i64 0, .bool false] 36))) (by rfl) (heap_drewL (heap_alloc hls (.cells #[.int .i64 19, .slice none 0 0, .slice none 0 0, .int .i64 0, .bool false] 36)))) rfl (told_no HRT.out HK.out (hlb.alloc hlb.size (.cells #[.int .i64 19, .slice none 0 0, .slice none 0 0, .int .i64 0, .bool false] 36)).drew)
          · have d5 : decide ((0 : Int) < (nl : Int)) = false := by simp; omega
            have d5' : decide (0 < nl) = false := by simpa using hb
            have hq := E6.out HRoot.out HF.out hkd HXd.out.symm hb
            subst hq
            clear HXd hkd hb
            go_wp2_with fail
            refine (PN.out).mono ?_
            rintro e w4 ⟨A4, c4', rfl, _, hB4⟩
            have HX4 := Lib.hid (HX3.out.below hB4)
            have PW := Lib.hid (PW0.out w4 HX4.out.bel)
            unfold ToldRT at PW
            clear hB4 PN y1 c0 c1 c2 c3 c4 c5 lC t0 t1 t2 lT
            obtain ⟨c0, c1, c2, c3, c4, c5, lC⟩ := HX4.out.call
            obtain ⟨t0, t1, t2, lT⟩ := HX4.out.tree
            go_wp2_with fail
            refine (PW.out).mono ?_
            rintro e w6 ⟨A6, c6, rfl, hRT6, hB6⟩
            have HX6 := Lib.hid (HX4.out.below hB6)
            have HRT6 := Lib.hid hRT6
            clear hB6 hRT6 PW c0 c1 c2 c3 c4 c5 lC t0 t1 t2 lT
            obtain ⟨⟨r0, r1, r2⟩, ⟨s0, s1, s2, s3, s4⟩, ⟨v0, v1, v2⟩, ⟨z0, z1, z2, z3, z4⟩, lR, lS⟩ := HX6.out.res
            go_wp2_with fail
            obtain ⟨hlr, hls, _, _⟩ := HX6.out.end_ (a := .int .i64 I) (b := .int .i64 J) (v := .slice A6 (delT c.path es).length c6) (x0 := .int .i64 0) (x1 := .slice none 0 0) (x2 := .slice none 0 0) (x3 := .int .i64 0) (x4 := .bool false)
            exact bodyPost_ret (ret_rta rfl (by rfl) hlr (by rfl) hls) rfl (HX6.out.told HRT6.out (full_del HRoot.out))
end Go.Proofs.YtabecceojbeomaaGreatDoor
end

section
/- The contract of the reference's bytes at kind Get. Conditions: the tree's invariant; a path below 2^32 bytes. -/
namespace Go.Cat.Tree
open Go.RowKit Go.Cat Go.Cat.Dir
variable {l : TL} {c : CallV} {p : Txt}
theorem bget_arg (h : c.off < 0 ∨ c.n < 0 ∨ 128 < c.n) : getV l c = (l, wrongV 1) := by unfold getV; rw [if_pos h]
theorem bget_err (h : 0 ≤ c.off ∧ 0 ≤ c.n ∧ c.n ≤ 128) (hf : (fileV l c.path).1 ≠ 0) : getV l c = (l, wrongV (fileV l c.path).1) := by unfold getV; rw [if_neg (by omega), if_neg hf]
theorem bget_range (h : 0 ≤ c.off ∧ 0 ≤ c.n ∧ c.n ≤ 128) (hf : (fileV l c.path).1 = 0) (hr : ((fileV l c.path).2.b.length : Int) < c.off) : getV l c = (l, wrongV 20) := by unfold getV; rw [if_neg (by omega), if_pos hf, if_pos hr]
theorem bget_ok (h : 0 ≤ c.off ∧ 0 ≤ c.n ∧ c.n ≤ 128) (hf : (fileV l c.path).1 = 0) (hr : c.off ≤ ((fileV l c.path).2.b.length : Int)) : getV l c = (l, { data := ((fileV l c.path).2.b.drop c.off.toNat).take c.n.toNat }) := by unfold getV; rw [if_neg (by omega), if_pos hf, if_neg (by omega)]
end Go.Cat.Tree
namespace Go.Proofs.YtabecceojbeomaaGreatDoor
open Go.RowKit Go.Cat Go.Cat.Dir Go.Cat.Tree

set_option maxRecDepth 100000 in
set_option maxHeartbeats 2000000 in
theorem rget_any (I J : Int) (A : Option Addr) (es : List (Txt × El)) (ca : Nat) (c : CallV) (Ac : Option Addr) (cA : Nat) (w : World) (h : RT w A ca es) (hAc : Bytes w Ac c.data) (_ : c.data.length ≤ 9223372036854775807) (hi : Inv (fullR es)) (hn : es.length ≤ 900) (hp : c.path.length < 4294967281) (hkd : c.kind = 7) :
    Calls Tryz.prog 43 #[.agg #[.int .i64 I, .int .i64 J, .slice A es.length ca], .agg (callC c Ac cA)] w (ToldRDo (getV (fullR es) c) I J w) := by
  have pf := fun W (hW : Below w.heap.size w W) => rfind_any I J A es ca c.path W (h.below hW) (by omega) hp
  unfold ToldRF rtC at pf
  have HAc := Lib.hid hAc
  have hfo := fun h0 => hi.find_ok (p := c.path) h0
  have hfit : ∀ x : Th, (findV (fullR es) c.path).1 = 0 → x = (findV (fullR es) c.path).2 → x.b.length ≤ 512 := fun x h0 hx => by rw [hx]; exact hi.fit _ (get_mem (hfo h0))
  obtain ⟨Q, hQ⟩ : ∃ Q, Q = getV (fullR es) c := ⟨_, rfl⟩
  rw [← hQ]
  have f1 := file_err (l := fullR es) (p := c.path)
  have f2 := file_dir (l := fullR es) (p := c.path)
  have f3 := file_file (l := fullR es) (p := c.path)
  have e0 := bget_arg (l := fullR es) (c := c)
  have e1 := bget_err (l := fullR es) (c := c)
  have e2 := bget_range (l := fullR es) (c := c)
  have e3 := bget_ok (l := fullR es) (c := c)
  rw [← hQ] at e0 e1 e2 e3
  obtain ⟨r, hr⟩ : ∃ r, r = findV (fullR es) c.path := ⟨_, rfl⟩
  obtain ⟨fl, hfl⟩ : ∃ fl, fl = fileV (fullR es) c.path := ⟨_, rfl⟩
  simp only [← hr, ← hfl] at pf f1 f2 f3 hfit e0 e1 e2 e3
  obtain ⟨tp, htp⟩ : ∃ tp, tp = if r.1 = 0 then c.path else [] := ⟨_, rfl⟩
  simp only [← htp] at pf
  have F1 := Lib.hid f1
  have F2 := Lib.hid f2
  have F3 := Lib.hid f3
  have HFit := Lib.hid hfit
  have HTp := Lib.hid htp
  have E0 := Lib.hid e0
  have E1 := Lib.hid e1
  have E2 := Lib.hid e2
  have E3 := Lib.hid e3
  have HRT := Lib.hid h
  obtain ⟨k, hk⟩ : ∃ k, k = es.length := ⟨_, rfl⟩
  have HK := Lib.hid hk
  rw [← hk] at pf ⊢
  have PF0 := Lib.hid pf
  obtain ⟨W0, hW0⟩ : ∃ W0, W0 = (((w.alloc (.cells #[.int .i64 I, .int .i64 J, .slice A k ca] 53)).alloc (.cells (callC c Ac cA) 33)).alloc (.cells #[.int .i64 0, .int .i64 0, .slice none 0 0] 53)).alloc (.cells #[.int .i64 0, .slice none 0 0, .slice none 0 0, .int .i64 0, .bool false] 36) := ⟨_, rfl⟩
  have HX0 := Lib.hid (RxW.new hW0)
  have HW0 := Lib.hid hW0
  clear hk hW0 h pf f1 f2 f3 hfit htp hfl hr hQ hfo hAc hi e0 e1 e2 e3
  go_enter Tryz.func43, Tryz.ntmps43
  go_upto_region 1 with (fail)
  rw [← HW0.out, show w.heap.size + 1 + 1 = w.heap.size + 2 from rfl, show w.heap.size + 2 + 1 = w.heap.size + 3 from rfl]
  clear HW0
  obtain ⟨c0, c1, c2, c3, c4, c5, lC⟩ := HX0.out.call
  rw [hkd] at c0
  by_cases g0 : c.off < 0
  · have dg0 : decide (c.off < 0) = true := by simpa using g0
    have hq := E0.out (by first | exact .inl g0 | exact .inr (.inl g0) | exact .inr (.inr g0) | exact .inr g0 | exact g0)
    subst hq
    clear g0
    go_wp2_with fail
    clear c0 c1 c2 c3 c4 c5 lC
    obtain ⟨t0, t1, t2, lT⟩ := HX0.out.tree
    obtain ⟨⟨r0, r1, r2⟩, ⟨s0, s1, s2, s3, s4⟩, ⟨v0, v1, v2⟩, ⟨z0, z1, z2, z3, z4⟩, lR, lS⟩ := HX0.out.res
    go_wp2_with fail
    go_region_law (first
      | (go_simp; go_at_call 36; refine (rno_any 1 _).mono ?_; rintro e wn ⟨rfl, rfl⟩)
      | fail)
    all_goals
      go_wp2_with fail
      obtain ⟨hlr, hls, hlb, _⟩ := HX0.out.end_ (a := .int .i64 I) (b := .int .i64 J) (v := .slice A k ca) (x0 := .int .i64 1) (x1 := .slice none 0 0) (x2 := .slice none 0 0) (x3 := .int .i64 0) (x4 := .bool false)
      exact bodyPost_ret (ret_rta rfl (by rfl) (heap_drewL (heap_alloc hlr (.cells #[.int .i64 1, .slice none 0 0, .slice none 0 0, .int .i64 0, .bool false] 36))) (by rfl) (heap_drewL (heap_alloc hls (.cells #[.int .i64 1, .slice none 0 0, .slice none 0 0, .int .i64 0, .bool false] 36)))) rfl (told_no HRT.out HK.out (hlb.alloc hlb.size (.cells #[.int .i64 1, .slice none 0 0, .slice none 0 0, .int .i64 0, .bool false] 36)).drew)
  · have dg0 : decide (c.off < 0) = false := by simpa using g0
    by_cases g1 : c.n < 0
    · have dg1 : decide (c.n < 0) = true := by simpa using g1
      have hq := E0.out (by first | exact .inl g1 | exact .inr (.inl g1) | exact .inr (.inr g1) | exact .inr g1 | exact g1)
      subst hq
      clear g0 g1
      go_wp2_with fail
      clear c0 c1 c2 c3 c4 c5 lC
      obtain ⟨t0, t1, t2, lT⟩ := HX0.out.tree
      obtain ⟨⟨r0, r1, r2⟩, ⟨s0, s1, s2, s3, s4⟩, ⟨v0, v1, v2⟩, ⟨z0, z1, z2, z3, z4⟩, lR, lS⟩ := HX0.out.res
      go_wp2_with fail
      go_region_law (first
        | (go_simp; go_at_call 36; refine (rno_any 1 _).mono ?_; rintro e wn ⟨rfl, rfl⟩)
        | fail)
      all_goals
        go_wp2_with fail
        obtain ⟨hlr, hls, hlb, _⟩ := HX0.out.end_ (a := .int .i64 I) (b := .int .i64 J) (v := .slice A k ca) (x0 := .int .i64 1) (x1 := .slice none 0 0) (x2 := .slice none 0 0) (x3 := .int .i64 0) (x4 := .bool false)
        exact bodyPost_ret (ret_rta rfl (by rfl) (heap_drewL (heap_alloc hlr (.cells #[.int .i64 1, .slice none 0 0, .slice none 0 0, .int .i64 0, .bool false] 36))) (by rfl) (heap_drewL (heap_alloc hls (.cells #[.int .i64 1, .slice none 0 0, .slice none 0 0, .int .i64 0, .bool false] 36)))) rfl (told_no HRT.out HK.out (hlb.alloc hlb.size (.cells #[.int .i64 1, .slice none 0 0, .slice none 0 0, .int .i64 0, .bool false] 36)).drew)
    · have dg1 : decide (c.n < 0) = false := by simpa using g1
      by_cases g2 : 128 < c.n
      · have dg2 : decide ((128 : Int) < c.n) = true := by simpa using g2
        have hq := E0.out (by first | exact .inl g2 | exact .inr (.inl g2) | exact .inr (.inr g2) | exact .inr g2 | exact g2)
        subst hq
        clear g0 g1 g2
        go_wp2_with fail
        clear c0 c1 c2 c3 c4 c5 lC
        obtain ⟨t0, t1, t2, lT⟩ := HX0.out.tree
        obtain ⟨⟨r0, r1, r2⟩, ⟨s0, s1, s2, s3, s4⟩, ⟨v0, v1, v2⟩, ⟨z0, z1, z2, z3, z4⟩, lR, lS⟩ := HX0.out.res
        go_wp2_with fail
        go_region_law (first
          | (go_simp; go_at_call 36; refine (rno_any 1 _).mono ?_; rintro e wn ⟨rfl, rfl⟩)
          | fail)
        all_goals
          go_wp2_with fail
          obtain ⟨hlr, hls, hlb, _⟩ := HX0.out.end_ (a := .int .i64 I) (b := .int .i64 J) (v := .slice A k ca) (x0 := .int .i64 1) (x1 := .slice none 0 0) (x2 := .slice none 0 0) (x3 := .int .i64 0) (x4 := .bool false)
          exact bodyPost_ret (ret_rta rfl (by rfl) (heap_drewL (heap_alloc hlr (.cells #[.int .i64 1, .slice none 0 0, .slice none 0 0, .int .i64 0, .bool false] 36))) (by rfl) (heap_drewL (heap_alloc hls (.cells #[.int .i64 1, .slice none 0 0, .slice none 0 0, .int .i64 0, .bool false] 36)))) rfl (told_no HRT.out HK.out (hlb.alloc hlb.size (.cells #[.int .i64 1, .slice none 0 0, .slice none 0 0, .int .i64 0, .bool false] 36)).drew)
      · have dg2 : decide ((128 : Int) < c.n) = false := by simpa using g2
        obtain ⟨t0, t1, t2, lT⟩ := HX0.out.tree
        have PF := Lib.hid (PF0.out W0 HX0.out.bel)
        clear PF0
        go_wp2_with fail
        refine (PF.out).mono ?_
        rintro e w2 ⟨⟨⟨xd, xb⟩, xa, xc⟩, rfl, hx2, hel, hB2⟩
        have HXd : Hid (xd = r.2.dir) := Lib.hid (by rw [← hx2])
        have HXv : Hid ((⟨xd, xb⟩ : Th) = r.2) := Lib.hid hx2
        clear hx2
        have HX2 := Lib.hid (HX0.out.below hB2)
        have hx3 := heap_alloc_new w2 (.cells #[.string (bs tp), .bool xd, .slice xa xb.length xc] 80)
        have HX3 := Lib.hid (HX2.out.alloc (.cells #[.string (bs tp), .bool xd, .slice xa xb.length xc] 80))
        have hel3 := el_below (el_below hel hB2) ((Below.refl _ _).alloc (Nat.le_refl _) (.cells #[.string (bs tp), .bool xd, .slice xa xb.length xc] 80))
        have hlt3 : w.heap.size + 3 < w2.heap.size := heap_lt HX2.out.sb
        clear hB2 hel t0 t1 t2 lT c0 c1 c2 c3 c4 c5 lC HX2 PF
        go_upto_region 4 with (fail)
        generalize w2.alloc (.cells #[.string (bs tp), .bool xd, .slice xa xb.length xc] 80) = W3 at hx3 HX3 hel3 ⊢
        generalize w2.heap.size = N3 at hx3 hlt3 ⊢
        have y1 : W3.cell? ⟨N3, 1, none⟩ = some (.bool xd) := cell_of_row _ _ 1 _ _ _ hx3
        have hne2 : N3 ≠ w.heap.size + 2 := by omega
        have hne3 : N3 ≠ w.heap.size + 3 := by omega
        have hne2' : w.heap.size + 2 ≠ N3 := by omega
        have hne3' : w.heap.size + 3 ≠ N3 := by omega
        have HEl := Lib.hid hel3
        clear hel3
        have HY := Lib.hid hx3
        clear hx3
        clear dg0 dg1 dg2
        have HG : Hid (True ∧ 0 ≤ c.off ∧ 0 ≤ c.n ∧ c.n ≤ 128) := Lib.hid ⟨trivial, by omega, by omega, by omega⟩
        clear g0 g1 g2
        by_cases hf : r.1 = 0
        case neg =>
          have d2 : (r.1 != 0) = true := by simpa using hf
          have hfe := F1.out hf
          have hq := E1.out HG.out.2 (by rw [hfe]; exact hf)
          rw [hfe] at hq
          subst hq
          clear hf hfe
          go_wp2_with fail
          clear y1
          obtain ⟨t0, t1, t2, lT⟩ := HX3.out.tree
          obtain ⟨⟨r0, r1, r2⟩, ⟨s0, s1, s2, s3, s4⟩, ⟨v0, v1, v2⟩, ⟨z0, z1, z2, z3, z4⟩, lR, lS⟩ := HX3.out.res
          go_wp2_with fail
          go_region_law (first
            | (go_simp; go_at_call 36; refine (rno_any r.1 _).mono ?_; rintro e wn ⟨rfl, rfl⟩)
            | fail)
          all_goals
            go_wp2_with fail
            obtain ⟨hlr, hls, hlb, _⟩ := HX3.out.end_ (a := .int .i64 I) (b := .int .i64 J) (v := .slice A k ca) (x0 := .int .i64 r.1) (x1 := .slice none 0 0) (x2 := .slice none 0 0) (x3 := .int .i64 0) (x4 := .bool false)
            exact bodyPost_ret (ret_rta rfl (by rfl) (heap_drewL (heap_alloc hlr (.cells #[.int .i64 r.1, .slice none 0 0, .slice none 0 0, .int .i64 0, .bool false] 36))) (by rfl) (heap_drewL (heap_alloc hls (.cells #[.int .i64 r.1, .slice none 0 0, .slice none 0 0, .int .i64 0, .bool false] 36)))) rfl (told_no HRT.out HK.out (hlb.alloc hlb.size (.cells #[.int .i64 r.1, .slice none 0 0, .slice none 0 0, .int .i64 0, .bool false] 36)).drew)
        case pos =>
          have d2 : (r.1 != 0) = false := by simpa using hf
          have HF := Lib.hid hf
          clear hf
          cases xd with
          | true =>
            have hfe := F2.out HF.out HXd.out.symm
            have hq := E1.out HG.out.2 (by rw [hfe]; decide)
            rw [hfe] at hq
            subst hq
            clear hfe
            go_wp2_with fail
            clear y1
            obtain ⟨t0, t1, t2, lT⟩ := HX3.out.tree
            obtain ⟨⟨r0, r1, r2⟩, ⟨s0, s1, s2, s3, s4⟩, ⟨v0, v1, v2⟩, ⟨z0, z1, z2, z3, z4⟩, lR, lS⟩ := HX3.out.res
            go_wp2_with fail
            go_region_law (first
              | (go_simp; go_at_call 36; refine (rno_any 15 _).mono ?_; rintro e wn ⟨rfl, rfl⟩)
              | fail)
            all_goals
              go_wp2_with fail
              obtain ⟨hlr, hls, hlb, _⟩ := HX3.out.end_ (a := .int .i64 I) (b := .int .i64 J) (v := .slice A k ca) (x0 := .int .i64 15) (x1 := .slice none 0 0) (x2 := .slice none 0 0) (x3 := .int .i64 0) (x4 := .bool false)
              exact bodyPost_ret (ret_rta rfl (by rfl) (heap_drewL (heap_alloc hlr (.cells #[.int .i64 15, .slice none 0 0, .slice none 0 0, .int .i64 0, .bool false] 36))) (by rfl) (heap_drewL (heap_alloc hls (.cells #[.int .i64 15, .slice none 0 0, .slice none 0 0, .int .i64 0, .bool false] 36)))) rfl (told_no HRT.out HK.out (hlb.alloc hlb.size (.cells #[.int .i64 15, .slice none 0 0, .slice none 0 0, .int .i64 0, .bool false] 36)).drew)
          | false =>
            have HFe := Lib.hid (F3.out HF.out HXd.out.symm)
            have hfi := HFit.out ⟨false, xb⟩ HF.out HXv.out
            have hfe : fl = (0, ⟨false, xb⟩) := by rw [HFe.out, ← HXv.out]
            have HFl := Lib.hid hfe
            have hel := HEl.out
            have hxc := hel.2.1
            have hxm := hel.2.2
            simp only at hfi hxc
            unfold maxLen at hxm
            have y2 : W3.cell? ⟨N3, 2, none⟩ = some (.slice xa xb.length xc) := cell_of_row _ _ 2 _ _ _ HY.out
            obtain ⟨L, hL⟩ : ∃ L, L = xb.length := ⟨_, rfl⟩
            have HL := Lib.hid hL
            rw [← hL] at hfi hxc y2
            have HHl : Hid (HEq L L) := HEq.rfl
            obtain ⟨c0, c1, c2, c3, c4, c5, lC⟩ := HX3.out.call
            obtain ⟨t0, t1, t2, lT⟩ := HX3.out.tree
            rw [hkd] at c0
            clear hfe hel hL HHl
            obtain ⟨o, ho⟩ : ∃ o : Nat, c.off = o := ⟨c.off.toNat, by have := HG.out.2.1; omega⟩
            obtain ⟨m, hm⟩ : ∃ m : Nat, c.n = m := ⟨c.n.toNat, by have := HG.out.2.2.1; omega⟩
            have hm8 : m ≤ 128 := by have := HG.out.2.2.2; omega
            rw [ho] at c3
            rw [hm] at c4
            have HO := Lib.hid ho
            have HM := Lib.hid hm
            clear ho hm
            by_cases h2 : L < o
            · have p2 : decide ((L : Int) < (o : Int)) = true := by simpa using h2
              have p2' : decide (L < o) = true := by simpa using h2
              have hq := E2.out HG.out.2 (by rw [HFl.out]) (by rw [HFl.out, HO.out]; show ((xb.length : Nat) : Int) < _; rw [← HL.out]; omega)
              subst hq
              clear h2
              go_wp2_with fail
              clear y1 y2 c0 c1 c2 c3 c4 c5 lC t0 t1 t2 lT
              obtain ⟨t0, t1, t2, lT⟩ := HX3.out.tree
              obtain ⟨⟨r0, r1, r2⟩, ⟨s0, s1, s2, s3, s4⟩, ⟨v0, v1, v2⟩, ⟨z0, z1, z2, z3, z4⟩, lR, lS⟩ := HX3.out.res
              go_wp2_with fail
              go_region_law (first
                | (go_simp; go_at_call 36; refine (rno_any 20 _).mono ?_; rintro e wn ⟨rfl, rfl⟩)
                | fail)
              all_goals
                go_wp2_with fail
                obtain ⟨hlr, hls, hlb, _⟩ := HX3.out.end_ (a := .int .i64 I) (b := .int .i64 J) (v := .slice A k ca) (x0 := .int .i64 20) (x1 := .slice none 0 0) (x2 := .slice none 0 0) (x3 := .int .i64 0) (x4 := .bool false)
                exact bodyPost_ret (ret_rta rfl (by rfl) (heap_drewL (heap_alloc hlr (.cells #[.int .i64 20, .slice none 0 0, .slice none 0 0, .int .i64 0, .bool false] 36))) (by rfl) (heap_drewL (heap_alloc hls (.cells #[.int .i64 20, .slice none 0 0, .slice none 0 0, .int .i64 0, .bool false] 36)))) rfl (told_no HRT.out HK.out (hlb.alloc hlb.size (.cells #[.int .i64 20, .slice none 0 0, .slice none 0 0, .int .i64 0, .bool false] 36)).drew)
            · have p2 : decide ((L : Int) < (o : Int)) = false := by simpa using h2
              have p2' : decide (L < o) = false := by simpa using h2
              have ho1 : o ≤ L := by omega
              have hw64 : IntKind.i64.wrap ((o : Int) + (m : Int)) = (o : Int) + (m : Int) := IntWalk.i64_in _ (by omega)
              have hq := E3.out HG.out.2 (by rw [HFl.out]) (by rw [HFl.out, HO.out]; show (o : Int) ≤ ((xb.length : Nat) : Int); rw [← HL.out]; omega)
              rw [HFl.out, HO.out, HM.out, Int.toNat_natCast, Int.toNat_natCast] at hq
              simp only at hq
              obtain ⟨d, hd⟩ : ∃ d, d = (xb.drop o).take m := ⟨_, rfl⟩
              rw [← hd] at hq
              subst hq
              have hbel := HX3.out.bel
              by_cases h3 : L < o + m
              · have p3 : decide ((L : Int) < (o : Int) + (m : Int)) = true := by simp; omega
                have p3' : decide (L < o + m) = true := by simpa using h3
                have hsl : ∀ U, (Instr.slice 23 (.slice xa L xc) (some (.int .i64 (o : Int))) (some (.int .i64 (L : Int))) none).run Tryz.prog U = .ok (.slice (cutA xa xc o) (L - o) (xc - o)) U := run_cut2 (by omega) (by omega)
                have hdt : d = xb.drop o := by rw [hd]; exact List.take_of_length_le (by rw [List.length_drop, ← HL.out]; omega)
                have HLn : Hid (L - o = d.length) := by show _ = _; rw [hdt, List.length_drop, ← HL.out]
                have HBy : Hid (Bytes W3 (cutA xa xc o) d) := by show Bytes _ _ _; rw [hdt]; exact bytes_cut HEl.out.1 (cap := xc) (lo := o) HEl.out.2.1
                clear h2 h3 hd hdt
                obtain ⟨⟨r0, r1, r2⟩, ⟨s0, s1, s2, s3, s4⟩, ⟨v0, v1, v2⟩, ⟨z0, z1, z2, z3, z4⟩, lR, lS⟩ := HX3.out.res
                go_wp2_with fail
                go_region_law (fail)
                all_goals
                  go_wp2_with fail
                  obtain ⟨hlr, hls, _, _⟩ := HX3.out.end_ (a := .int .i64 I) (b := .int .i64 J) (v := .slice A k ca) (x0 := .int .i64 0) (x1 := .slice (cutA xa xc o) (L - o) (xc - o)) (x2 := .slice none 0 0) (x3 := .int .i64 0) (x4 := .bool false)
                  exact bodyPost_ret (ret_rta rfl (by rfl) (heap_drewL hlr) (by rfl) (heap_drewL hls)) rfl (HX3.out.toldD (cB := xc - o) HRT.out HK.out HBy.out HLn.out).drew
              · have p3 : decide ((L : Int) < (o : Int) + (m : Int)) = false := by simp; omega
                have p3' : decide (L < o + m) = false := by simpa using h3
                have hsl : ∀ U, (Instr.slice 23 (.slice xa L xc) (some (.int .i64 (o : Int))) (some (.int .i64 ((o : Int) + (m : Int)))) none).run Tryz.prog U = .ok (.slice (cutA xa xc o) m (xc - o)) U := fun U => by
                  have := run_cut2 (a := xa) (len := L) (cap := xc) (lo := o) (hi := o + m) (by omega) (by omega) U
                  rw [Nat.add_sub_cancel_left, Int.natCast_add] at this
                  exact this
                have HLn : Hid (m = d.length) := by show _ = _; rw [hd, List.length_take, List.length_drop, ← HL.out]; omega
                have HBy : Hid (Bytes W3 (cutA xa xc o) d) := by show Bytes _ _ _; rw [hd]; exact bytes_take (bytes_cut HEl.out.1 (cap := xc) (lo := o) HEl.out.2.1) m
                clear h2 h3 hd
                obtain ⟨⟨r0, r1, r2⟩, ⟨s0, s1, s2, s3, s4⟩, ⟨v0, v1, v2⟩, ⟨z0, z1, z2, z3, z4⟩, lR, lS⟩ := HX3.out.res
                go_wp2_with fail
                go_region_law (fail)
                all_goals
                  go_wp2_with fail
                  obtain ⟨hlr, hls, _, _⟩ := HX3.out.end_ (a := .int .i64 I) (b := .int .i64 J) (v := .slice A k ca) (x0 := .int .i64 0) (x1 := .slice (cutA xa xc o) (m) (xc - o)) (x2 := .slice none 0 0) (x3 := .int .i64 0) (x4 := .bool false)
                  exact bodyPost_ret (ret_rta rfl (by rfl) (heap_drewL hlr) (by rfl) (heap_drewL hls)) rfl (HX3.out.toldD (cB := xc - o) HRT.out HK.out HBy.out HLn.out).drew

end Go.Proofs.YtabecceojbeomaaGreatDoor
end

section
/- The contract of the reference's bytes at kind Truncate. Conditions: the tree's invariant; a path below 2^32 bytes. -/
namespace Go.Cat.Tree
open Go.RowKit Go.Cat Go.Cat.Dir
variable {l : TL} {c : CallV} {p : Txt}
theorem bcut_arg (h : c.n < 0) : truncV l c = (l, wrongV 1) := by unfold truncV; rw [if_pos h]
theorem bcut_err (h : 0 ≤ c.n) (hf : (fileV l c.path).1 ≠ 0) : truncV l c = (l, wrongV (fileV l c.path).1) := by unfold truncV; rw [if_neg (by omega), if_neg hf]
theorem bcut_range (h : 0 ≤ c.n) (hf : (fileV l c.path).1 = 0) (hr : ((fileV l c.path).2.b.length : Int) < c.n) : truncV l c = (l, wrongV 20) := by unfold truncV; rw [if_neg (by omega), if_pos hf, if_pos hr]
theorem bcut_ok (h : 0 ≤ c.n) (hf : (fileV l c.path).1 = 0) (hr : c.n ≤ ((fileV l c.path).2.b.length : Int)) : truncV l c = (putT c.path ⟨false, (fileV l c.path).2.b.take c.n.toNat⟩ l, {}) := by unfold truncV; rw [if_neg (by omega), if_pos hf, if_neg (by omega)]
end Go.Cat.Tree
namespace Go.Proofs.YtabecceojbeomaaGreatDoor
open Go.RowKit Go.Cat Go.Cat.Dir Go.Cat.Tree

set_option maxRecDepth 100000 in
set_option maxHeartbeats 2000000 in
theorem rcut_any (I J : Int) (A : Option Addr) (es : List (Txt × El)) (ca : Nat) (c : CallV) (Ac : Option Addr) (cA : Nat) (w : World) (h : RT w A ca es) (hAc : Bytes w Ac c.data) (_ : c.data.length ≤ 9223372036854775807) (hi : Inv (fullR es)) (hn : es.length ≤ 900) (hp : c.path.length < 4294967281) (hkd : c.kind = 8) :
    Calls Tryz.prog 43 #[.agg #[.int .i64 I, .int .i64 J, .slice A es.length ca], .agg (callC c Ac cA)] w (ToldRDo (truncV (fullR es) c) I J w) := by
  have pf := fun W (hW : Below w.heap.size w W) => rfind_any I J A es ca c.path W (h.below hW) (by omega) hp
  unfold ToldRF rtC at pf
  have HAc := Lib.hid hAc
  have hfo := fun h0 => hi.find_ok (p := c.path) h0
  have hfit : ∀ x : Th, (findV (fullR es) c.path).1 = 0 → x = (findV (fullR es) c.path).2 → x.b.length ≤ 512 := fun x h0 hx => by rw [hx]; exact hi.fit _ (get_mem (hfo h0))
  have HInv := Lib.hid hi
  have HRise := Lib.hid (full_rise hi)
  have hget := hfo
  obtain ⟨Q, hQ⟩ : ∃ Q, Q = truncV (fullR es) c := ⟨_, rfl⟩
  rw [← hQ]
  have f1 := file_err (l := fullR es) (p := c.path)
  have f2 := file_dir (l := fullR es) (p := c.path)
  have f3 := file_file (l := fullR es) (p := c.path)
  have e0 := bcut_arg (l := fullR es) (c := c)
  have e1 := bcut_err (l := fullR es) (c := c)
  have e2 := bcut_range (l := fullR es) (c := c)
  have e3 := bcut_ok (l := fullR es) (c := c)
  rw [← hQ] at e0 e1 e2 e3
  obtain ⟨r, hr⟩ : ∃ r, r = findV (fullR es) c.path := ⟨_, rfl⟩
  obtain ⟨fl, hfl⟩ : ∃ fl, fl = fileV (fullR es) c.path := ⟨_, rfl⟩
  simp only [← hr, ← hfl] at pf f1 f2 f3 hfit hget e0 e1 e2 e3
  obtain ⟨tp, htp⟩ : ∃ tp, tp = if r.1 = 0 then c.path else [] := ⟨_, rfl⟩
  simp only [← htp] at pf
  have F1 := Lib.hid f1
  have F2 := Lib.hid f2
  have F3 := Lib.hid f3
  have HFit := Lib.hid hfit
  have HTp := Lib.hid htp
  have HGet := Lib.hid hget
  have E0 := Lib.hid e0
  have E1 := Lib.hid e1
  have E2 := Lib.hid e2
  have E3 := Lib.hid e3
  have HRT := Lib.hid h
  obtain ⟨k, hk⟩ : ∃ k, k = es.length := ⟨_, rfl⟩
  have HK := Lib.hid hk
  rw [← hk] at pf ⊢
  have PF0 := Lib.hid pf
  obtain ⟨W0, hW0⟩ : ∃ W0, W0 = (((w.alloc (.cells #[.int .i64 I, .int .i64 J, .slice A k ca] 53)).alloc (.cells (callC c Ac cA) 33)).alloc (.cells #[.int .i64 0, .int .i64 0, .slice none 0 0] 53)).alloc (.cells #[.int .i64 0, .slice none 0 0, .slice none 0 0, .int .i64 0, .bool false] 36) := ⟨_, rfl⟩
  have HX0 := Lib.hid (RxW.new hW0)
  have HW0 := Lib.hid hW0
  clear hk hW0 h pf f1 f2 f3 hfit htp hfl hr hQ hfo hAc hi e0 e1 e2 e3 hget
  go_enter Tryz.func43, Tryz.ntmps43
  go_upto_region 1 with (fail)
  rw [← HW0.out, show w.heap.size + 1 + 1 = w.heap.size + 2 from rfl, show w.heap.size + 2 + 1 = w.heap.size + 3 from rfl]
  clear HW0
  obtain ⟨c0, c1, c2, c3, c4, c5, lC⟩ := HX0.out.call
  rw [hkd] at c0
  by_cases g0 : c.n < 0
  · have dg0 : decide (c.n < 0) = true := by simpa using g0
    have hq := E0.out (by first | exact .inl g0 | exact .inr (.inl g0) | exact .inr (.inr g0) | exact .inr g0 | exact g0)
    subst hq
    clear g0
    go_wp2_with fail
    clear c0 c1 c2 c3 c4 c5 lC
    obtain ⟨t0, t1, t2, lT⟩ := HX0.out.tree
    obtain ⟨⟨r0, r1, r2⟩, ⟨s0, s1, s2, s3, s4⟩, ⟨v0, v1, v2⟩, ⟨z0, z1, z2, z3, z4⟩, lR, lS⟩ := HX0.out.res
    go_wp2_with fail
    go_region_law (first
      | (go_simp; go_at_call 36; refine (rno_any 1 _).mono ?_; rintro e wn ⟨rfl, rfl⟩)
      | fail)
    all_goals
      go_wp2_with fail
      obtain ⟨hlr, hls, hlb, _⟩ := HX0.out.end_ (a := .int .i64 I) (b := .int .i64 J) (v := .slice A k ca) (x0 := .int .i64 1) (x1 := .slice none 0 0) (x2 := .slice none 0 0) (x3 := .int .i64 0) (x4 := .bool false)
      exact bodyPost_ret (ret_rta rfl (by rfl) (heap_drewL (heap_alloc hlr (.cells #[.int .i64 1, .slice none 0 0, .slice none 0 0, .int .i64 0, .bool false] 36))) (by rfl) (heap_drewL (heap_alloc hls (.cells #[.int .i64 1, .slice none 0 0, .slice none 0 0, .int .i64 0, .bool false] 36)))) rfl (told_no HRT.out HK.out (hlb.alloc hlb.size (.cells #[.int .i64 1, .slice none 0 0, .slice none 0 0, .int .i64 0, .bool false] 36)).drew)
  · have dg0 : decide (c.n < 0) = false := by simpa using g0
    obtain ⟨t0, t1, t2, lT⟩ := HX0.out.tree
    have PF := Lib.hid (PF0.out W0 HX0.out.bel)
    clear PF0
    go_wp2_with fail
    refine (PF.out).mono ?_
    rintro e w2 ⟨⟨⟨xd, xb⟩, xa, xc⟩, rfl, hx2, hel, hB2⟩
    have HXd : Hid (xd = r.2.dir) := Lib.hid (by rw [← hx2])
    have HXv : Hid ((⟨xd, xb⟩ : Th) = r.2) := Lib.hid hx2
    clear hx2
    have HX2 := Lib.hid (HX0.out.below hB2)
    have hx3 := heap_alloc_new w2 (.cells #[.string (bs tp), .bool xd, .slice xa xb.length xc] 80)
    have HX3 := Lib.hid (HX2.out.alloc (.cells #[.string (bs tp), .bool xd, .slice xa xb.length xc] 80))
    have hel3 := el_below (el_below hel hB2) ((Below.refl _ _).alloc (Nat.le_refl _) (.cells #[.string (bs tp), .bool xd, .slice xa xb.length xc] 80))
    have hlt3 : w.heap.size + 3 < w2.heap.size := heap_lt HX2.out.sb
    clear hB2 hel t0 t1 t2 lT c0 c1 c2 c3 c4 c5 lC HX2 PF
    go_upto_region 4 with (fail)
    generalize w2.alloc (.cells #[.string (bs tp), .bool xd, .slice xa xb.length xc] 80) = W3 at hx3 HX3 hel3 ⊢
    generalize w2.heap.size = N3 at hx3 hlt3 ⊢
    have y1 : W3.cell? ⟨N3, 1, none⟩ = some (.bool xd) := cell_of_row _ _ 1 _ _ _ hx3
    have hne2 : N3 ≠ w.heap.size + 2 := by omega
    have hne3 : N3 ≠ w.heap.size + 3 := by omega
    have hne2' : w.heap.size + 2 ≠ N3 := by omega
    have hne3' : w.heap.size + 3 ≠ N3 := by omega
    have HEl := Lib.hid hel3
    clear hel3
    have HY := Lib.hid hx3
    clear hx3
    clear dg0
    have HG : Hid (True ∧ 0 ≤ c.n) := Lib.hid ⟨trivial, by omega⟩
    clear g0
    by_cases hf : r.1 = 0
    case neg =>
      have d2 : (r.1 != 0) = true := by simpa using hf
      have hfe := F1.out hf
      have hq := E1.out HG.out.2 (by rw [hfe]; exact hf)
      rw [hfe] at hq
      subst hq
      clear hf hfe
      go_wp2_with fail
      clear y1
      obtain ⟨t0, t1, t2, lT⟩ := HX3.out.tree
      obtain ⟨⟨r0, r1, r2⟩, ⟨s0, s1, s2, s3, s4⟩, ⟨v0, v1, v2⟩, ⟨z0, z1, z2, z3, z4⟩, lR, lS⟩ := HX3.out.res
      go_wp2_with fail
      go_region_law (first
        | (go_simp; go_at_call 36; refine (rno_any r.1 _).mono ?_; rintro e wn ⟨rfl, rfl⟩)
        | fail)
      all_goals
        go_wp2_with fail
        obtain ⟨hlr, hls, hlb, _⟩ := HX3.out.end_ (a := .int .i64 I) (b := .int .i64 J) (v := .slice A k ca) (x0 := .int .i64 r.1) (x1 := .slice none 0 0) (x2 := .slice none 0 0) (x3 := .int .i64 0) (x4 := .bool false)
        exact bodyPost_ret (ret_rta rfl (by rfl) (heap_drewL (heap_alloc hlr (.cells #[.int .i64 r.1, .slice none 0 0, .slice none 0 0, .int .i64 0, .bool false] 36))) (by rfl) (heap_drewL (heap_alloc hls (.cells #[.int .i64 r.1, .slice none 0 0, .slice none 0 0, .int .i64 0, .bool false] 36)))) rfl (told_no HRT.out HK.out (hlb.alloc hlb.size (.cells #[.int .i64 r.1, .slice none 0 0, .slice none 0 0, .int .i64 0, .bool false] 36)).drew)
    case pos =>
      have d2 : (r.1 != 0) = false := by simpa using hf
      have HF := Lib.hid hf
      clear hf
      cases xd with
      | true =>
        have hfe := F2.out HF.out HXd.out.symm
        have hq := E1.out HG.out.2 (by rw [hfe]; decide)
        rw [hfe] at hq
        subst hq
        clear hfe
        go_wp2_with fail
        clear y1
        obtain ⟨t0, t1, t2, lT⟩ := HX3.out.tree
        obtain ⟨⟨r0, r1, r2⟩, ⟨s0, s1, s2, s3, s4⟩, ⟨v0, v1, v2⟩, ⟨z0, z1, z2, z3, z4⟩, lR, lS⟩ := HX3.out.res
        go_wp2_with fail
        go_region_law (first
          | (go_simp; go_at_call 36; refine (rno_any 15 _).mono ?_; rintro e wn ⟨rfl, rfl⟩)
          | fail)
        all_goals
          go_wp2_with fail
          obtain ⟨hlr, hls, hlb, _⟩ := HX3.out.end_ (a := .int .i64 I) (b := .int .i64 J) (v := .slice A k ca) (x0 := .int .i64 15) (x1 := .slice none 0 0) (x2 := .slice none 0 0) (x3 := .int .i64 0) (x4 := .bool false)
          exact bodyPost_ret (ret_rta rfl (by rfl) (heap_drewL (heap_alloc hlr (.cells #[.int .i64 15, .slice none 0 0, .slice none 0 0, .int .i64 0, .bool false] 36))) (by rfl) (heap_drewL (heap_alloc hls (.cells #[.int .i64 15, .slice none 0 0, .slice none 0 0, .int .i64 0, .bool false] 36)))) rfl (told_no HRT.out HK.out (hlb.alloc hlb.size (.cells #[.int .i64 15, .slice none 0 0, .slice none 0 0, .int .i64 0, .bool false] 36)).drew)
      | false =>
        have HFe := Lib.hid (F3.out HF.out HXd.out.symm)
        have hfi := HFit.out ⟨false, xb⟩ HF.out HXv.out
        have hfe : fl = (0, ⟨false, xb⟩) := by rw [HFe.out, ← HXv.out]
        have HFl := Lib.hid hfe
        have hel := HEl.out
        have hxc := hel.2.1
        have hxm := hel.2.2
        simp only at hfi hxc
        unfold maxLen at hxm
        have y2 : W3.cell? ⟨N3, 2, none⟩ = some (.slice xa xb.length xc) := cell_of_row _ _ 2 _ _ _ HY.out
        obtain ⟨L, hL⟩ : ∃ L, L = xb.length := ⟨_, rfl⟩
        have HL := Lib.hid hL
        rw [← hL] at hfi hxc y2
        have HHl : Hid (HEq L L) := HEq.rfl
        obtain ⟨c0, c1, c2, c3, c4, c5, lC⟩ := HX3.out.call
        obtain ⟨t0, t1, t2, lT⟩ := HX3.out.tree
        rw [hkd] at c0
        clear hfe hel hL HHl
        obtain ⟨m, hm⟩ : ∃ m : Nat, c.n = m := ⟨c.n.toNat, by have := HG.out.2; omega⟩
        rw [hm] at c4
        have HM := Lib.hid hm
        clear hm
        by_cases h2 : L < m
        · have p2 : decide ((L : Int) < (m : Int)) = true := by simpa using h2
          have p2' : decide (L < m) = true := by simpa using h2
          have hq := E2.out HG.out.2 (by rw [HFl.out]) (by rw [HFl.out, HM.out]; show ((xb.length : Nat) : Int) < _; rw [← HL.out]; omega)
          subst hq
          clear h2
          go_wp2_with fail
          clear y1 y2 c0 c1 c2 c3 c4 c5 lC t0 t1 t2 lT
          obtain ⟨t0, t1, t2, lT⟩ := HX3.out.tree
          obtain ⟨⟨r0, r1, r2⟩, ⟨s0, s1, s2, s3, s4⟩, ⟨v0, v1, v2⟩, ⟨z0, z1, z2, z3, z4⟩, lR, lS⟩ := HX3.out.res
          go_wp2_with fail
          go_region_law (first
            | (go_simp; go_at_call 36; refine (rno_any 20 _).mono ?_; rintro e wn ⟨rfl, rfl⟩)
            | fail)
          all_goals
            go_wp2_with fail
            obtain ⟨hlr, hls, hlb, _⟩ := HX3.out.end_ (a := .int .i64 I) (b := .int .i64 J) (v := .slice A k ca) (x0 := .int .i64 20) (x1 := .slice none 0 0) (x2 := .slice none 0 0) (x3 := .int .i64 0) (x4 := .bool false)
            exact bodyPost_ret (ret_rta rfl (by rfl) (heap_drewL (heap_alloc hlr (.cells #[.int .i64 20, .slice none 0 0, .slice none 0 0, .int .i64 0, .bool false] 36))) (by rfl) (heap_drewL (heap_alloc hls (.cells #[.int .i64 20, .slice none 0 0, .slice none 0 0, .int .i64 0, .bool false] 36)))) rfl (told_no HRT.out HK.out (hlb.alloc hlb.size (.cells #[.int .i64 20, .slice none 0 0, .slice none 0 0, .int .i64 0, .bool false] 36)).drew)
        · have p2 : decide ((L : Int) < (m : Int)) = false := by simpa using h2
          have p2' : decide (L < m) = false := by simpa using h2
          have hq := E3.out HG.out.2 (by rw [HFl.out]) (by rw [HFl.out, HM.out]; show (m : Int) ≤ ((xb.length : Nat) : Int); rw [← HL.out]; omega)
          rw [HFl.out, HM.out, Int.toNat_natCast] at hq
          simp only at hq
          subst hq
          have hsl : ∀ U, (Instr.slice 23 (.slice xa L xc) none (some (.int .i64 (m : Int))) none).run Tryz.prog U = .ok (.slice xa m xc) U := run_cut0 (by omega)
          have hln : (xb.take m).length = m := by rw [List.length_take, ← HL.out]; omega
          have HX4 := Lib.hid (HX3.out.side (N := N3) (i := 2) (v := .slice xa m xc) hlt3)
          have hel4 : ElAt (W3.setCell ⟨N3, 2, none⟩ (.slice xa m xc)) (⟨false, xb.take m⟩, xa, xc) := by
            refine el_skip (x := (⟨false, xb.take m⟩, xa, xc)) ⟨bytes_take HEl.out.1 m, ?_, HEl.out.2.2⟩ (Tch.set _ _ _ _) fun k hk o u => ?_
            · show (xb.take m).length ≤ xc; rw [hln]; omega
            · subst hk; exact no_cell HY.out (by simp [by8]) o
          have p4 := rput_any I J A es ca c.path (⟨false, xb.take m⟩, xa, xc) _ (HRT.out.below HX4.out.bel) hel4 HRise.out (by omega)
          have htp : tp = c.path := by rw [HTp.out, if_pos HF.out]
          unfold ToldRT rtC at p4
          simp only [hln] at p4
          rw [← HK.out, ← htp] at p4
          have P4 := Lib.hid p4
          have HFull := Lib.hid (full_putF HInv.out (HGet.out HF.out) HXd.out.symm (⟨false, xb.take m⟩, xa, xc))
          have n0 : W3.cell? ⟨N3, 0, none⟩ = some (.string (bs tp)) := cell_of_row _ _ 0 _ _ _ HY.out
          have g2 := frozen_of_row W3 N3 2 _ _ HY.out
          have hN3 : N3 < W3.heap.size := heap_lt HY.out
          clear h2 hln hel4 p4 htp
          go_wp2_with fail
          refine (P4.out).mono ?_
          rintro e w6 ⟨A6, c6, rfl, hRT6, hB6⟩
          have HX6 := Lib.hid (HX4.out.below hB6)
          have HRT6 := Lib.hid hRT6
          clear hB6 hRT6 P4 y1 y2 n0 g2 hN3 c0 c1 c2 c3 c4 c5 lC t0 t1 t2 lT
          obtain ⟨⟨r0, r1, r2⟩, ⟨s0, s1, s2, s3, s4⟩, ⟨v0, v1, v2⟩, ⟨z0, z1, z2, z3, z4⟩, lR, lS⟩ := HX6.out.res
          go_wp2_with fail
          have hl := HFull.out
          obtain ⟨hlr, hls, _, _⟩ := HX6.out.end_ (a := .int .i64 I) (b := .int .i64 J) (v := .slice A6 (putT tp (⟨false, xb.take m⟩, xa, xc) es).length c6) (x0 := .int .i64 0) (x1 := .slice none 0 0) (x2 := .slice none 0 0) (x3 := .int .i64 0) (x4 := .bool false)
          rw [← show tp = c.path by rw [HTp.out, if_pos HF.out]] at hl
          refine bodyPost_ret (ret_rta rfl (by rfl) hlr (by rfl) hls) rfl ?_
          have := HX6.out.told HRT6.out hl
          rw [show tp = c.path by rw [HTp.out, if_pos HF.out]] at this ⊢
          exact this

end Go.Proofs.YtabecceojbeomaaGreatDoor
end
