/- The contract of the reference's bytes at kind Put. Conditions: the tree's invariant; a path below 2^32 bytes. -/
import Derived.Test.YtabecceojbeomaaGreatDoorTrRB
import Derived.Test.YtabecceojbeomaaGreatDoorElem
import Derived.Deep.DeepCutAuto
namespace Go.Cat.Tree
open Go.RowKit Go.Cat Go.Cat.Dir
variable {l : TL} {c : CallV} {I J : Int}
theorem dov6_bad {e : Int} (hk : c.kind = 6) (h : putV l c = (l, wrongV e)) (h0 : e ≠ 0) : doV I J l c = (l, wrongV e) := by
  have ha : actV l c = (l, wrongV e) := by unfold actV; rw [hk]; exact h
  unfold doV
  rw [ha]
  exact if_neg h0
theorem dov6_ok {m : TL} (hk : c.kind = 6) (h : putV l c = (m, {})) : doV I J l c = if overV I J m then (l, wrongV 16) else (m, {}) := by
  have ha : actV l c = (m, {}) := by unfold actV; rw [hk]; exact h
  unfold doV
  rw [ha, hk]
  rfl
theorem bput_arg (hk : c.kind = 6) (h : c.off < 0 ∨ 128 < c.data.length) : doV I J l c = (l, wrongV 1) := dov6_bad hk (by unfold putV; rw [if_pos h]) (by decide)
theorem bput_err (hk : c.kind = 6) (h : 0 ≤ c.off ∧ c.data.length ≤ 128) (hf : (fileV l c.path).1 ≠ 0) : doV I J l c = (l, wrongV (fileV l c.path).1) := dov6_bad hk (by unfold putV; rw [if_neg (by omega), if_neg hf]) hf
theorem bput_range (hk : c.kind = 6) (h : 0 ≤ c.off ∧ c.data.length ≤ 128) (hf : (fileV l c.path).1 = 0) (hr : ((fileV l c.path).2.b.length : Int) < c.off) : doV I J l c = (l, wrongV 20) := dov6_bad hk (by unfold putV; rw [if_neg (by omega), if_pos hf, if_pos hr]) (by decide)
theorem bput_big (hk : c.kind = 6) (h : 0 ≤ c.off ∧ c.data.length ≤ 128) (hf : (fileV l c.path).1 = 0) (hr : c.off ≤ ((fileV l c.path).2.b.length : Int)) (hb : 512 < c.off + c.data.length) : doV I J l c = (l, wrongV 17) := dov6_bad hk (by unfold putV; rw [if_neg (by omega), if_pos hf, if_neg (by omega), if_pos hb]) (by decide)
theorem bput_ok (hk : c.kind = 6) (h : 0 ≤ c.off ∧ c.data.length ≤ 128) (hf : (fileV l c.path).1 = 0) (hr : c.off ≤ ((fileV l c.path).2.b.length : Int)) (hb : c.off + c.data.length ≤ 512) :
    doV I J l c = if overV I J (putT c.path ⟨false, writeV (fileV l c.path).2.b c.off.toNat c.data⟩ l) then (l, wrongV 16) else (putT c.path ⟨false, writeV (fileV l c.path).2.b c.off.toNat c.data⟩ l, {}) := dov6_ok hk (by unfold putV; rw [if_neg (by omega), if_pos hf, if_neg (by omega), if_neg (by omega)])
end Go.Cat.Tree
namespace Go.Proofs.YtabecceojbeomaaGreatDoor
open Go.RowKit Go.Cat Go.Cat.Dir Go.Cat.Tree

set_option maxRecDepth 100000 in
set_option maxHeartbeats 4000000 in
theorem rbput_any (I J : Int) (A : Option Addr) (es : List (Txt × El)) (ca : Nat) (c : CallV) (Ac : Option Addr) (cA : Nat) (w : World) (h : RT w A ca es) (hAc : Bytes w Ac c.data) (_ : c.data.length ≤ 9223372036854775807) (hi : Inv (fullR es)) (hn : es.length ≤ 900) (hp : c.path.length < 4294967281) (hkd : c.kind = 6) :
    Calls Tryz.prog 43 #[.agg #[.int .i64 I, .int .i64 J, .slice A es.length ca], .agg (callC c Ac cA)] w (ToldRDo (doV I J (fullR es) c) I J w) := by
  have pf := fun W (hW : Below w.heap.size w W) => rfind_any I J A es ca c.path W (h.below hW) (by omega) hp
  unfold ToldRF rtC at pf
  have HAc := Lib.hid hAc
  have hfo := fun h0 => hi.find_ok (p := c.path) h0
  have hfit : ∀ x : Th, (findV (fullR es) c.path).1 = 0 → x = (findV (fullR es) c.path).2 → x.b.length ≤ 512 := fun x h0 hx => by rw [hx]; exact hi.fit _ (get_mem (hfo h0))
  have HInv := Lib.hid hi
  have HRise := Lib.hid (full_rise hi)
  obtain ⟨Q, hQ⟩ : ∃ Q, Q = doV I J (fullR es) c := ⟨_, rfl⟩
  rw [← hQ]
  have f1 := file_err (l := fullR es) (p := c.path)
  have f2 := file_dir (l := fullR es) (p := c.path)
  have f3 := file_file (l := fullR es) (p := c.path)
  have e0 := bput_arg (l := fullR es) (c := c) (I := I) (J := J) hkd
  have e1 := bput_err (l := fullR es) (c := c) (I := I) (J := J) hkd
  have e2 := bput_range (l := fullR es) (c := c) (I := I) (J := J) hkd
  have e3 := bput_big (l := fullR es) (c := c) (I := I) (J := J) hkd
  have e4 := bput_ok (l := fullR es) (c := c) (I := I) (J := J) hkd
  rw [← hQ] at e0 e1 e2 e3 e4
  obtain ⟨r, hr⟩ : ∃ r, r = findV (fullR es) c.path := ⟨_, rfl⟩
  obtain ⟨fl, hfl⟩ : ∃ fl, fl = fileV (fullR es) c.path := ⟨_, rfl⟩
  simp only [← hr, ← hfl] at pf f1 f2 f3 hfit e0 e1 e2 e3 e4
  obtain ⟨tp, htp⟩ : ∃ tp, tp = if r.1 = 0 then c.path else [] := ⟨_, rfl⟩
  simp only [← htp] at pf
  have HRd := Lib.hid hr
  have F1 := Lib.hid f1
  have F2 := Lib.hid f2
  have F3 := Lib.hid f3
  have HFit := Lib.hid hfit
  have HTp := Lib.hid htp
  have E0 := Lib.hid e0
  have E1 := Lib.hid e1
  have E2 := Lib.hid e2
  have E3 := Lib.hid e3
  have E4 := Lib.hid e4
  have HRT := Lib.hid h
  obtain ⟨k, hk⟩ : ∃ k, k = es.length := ⟨_, rfl⟩
  have HK := Lib.hid hk
  rw [← hk] at pf ⊢
  have PF0 := Lib.hid pf
  obtain ⟨W0, hW0⟩ : ∃ W0, W0 = (((w.alloc (.cells #[.int .i64 I, .int .i64 J, .slice A k ca] 53)).alloc (.cells (callC c Ac cA) 33)).alloc (.cells #[.int .i64 0, .int .i64 0, .slice none 0 0] 53)).alloc (.cells #[.int .i64 0, .slice none 0 0, .slice none 0 0, .int .i64 0, .bool false] 36) := ⟨_, rfl⟩
  have HX0 := Lib.hid (RxW.new hW0)
  have HW0 := Lib.hid hW0
  clear hk hW0 h pf f1 f2 f3 hfit htp hfl hr hQ hfo hAc hi e0 e1 e2 e3 e4
  go_enter Tryz.func43, Tryz.ntmps43
  go_upto_region 1 with (fail)
  rw [← HW0.out, show w.heap.size + 1 + 1 = w.heap.size + 2 from rfl, show w.heap.size + 2 + 1 = w.heap.size + 3 from rfl]
  clear HW0
  obtain ⟨c0, c1, c2, c3, c4, c5, lC⟩ := HX0.out.call
  rw [hkd] at c0
  by_cases g0 : c.off < 0
  · have dg0 : decide (c.off < 0) = true := by simpa using g0
    have hq := E0.out (by first | exact .inl g0 | exact .inr (.inl g0) | exact .inr (.inr g0) | exact .inr g0 | exact g0)
    subst hq
    clear g0
    go_wp2_with fail
    clear c0 c1 c2 c3 c4 c5 lC
    obtain ⟨t0, t1, t2, lT⟩ := HX0.out.tree
    obtain ⟨⟨r0, r1, r2⟩, ⟨s0, s1, s2, s3, s4⟩, ⟨v0, v1, v2⟩, ⟨z0, z1, z2, z3, z4⟩, lR, lS⟩ := HX0.out.res
    go_wp2_with fail
    go_region_law (first
      | (go_simp; go_at_call 36; refine (rno_any 1 _).mono ?_; rintro e wn ⟨rfl, rfl⟩)
      | fail)
    all_goals
      go_wp2_with fail
      obtain ⟨hlr, hls, hlb, _⟩ := HX0.out.end_ (a := .int .i64 I) (b := .int .i64 J) (v := .slice A k ca) (x0 := .int .i64 1) (x1 := .slice none 0 0) (x2 := .slice none 0 0) (x3 := .int .i64 0) (x4 := .bool false)
      exact bodyPost_ret (ret_rta rfl (by rfl) (heap_drewL (heap_alloc hlr (.cells #[.int .i64 1, .slice none 0 0, .slice none 0 0, .int .i64 0, .bool false] 36))) (by rfl) (heap_drewL (heap_alloc hls (.cells #[.int .i64 1, .slice none 0 0, .slice none 0 0, .int .i64 0, .bool false] 36)))) rfl (told_no HRT.out HK.out (hlb.alloc hlb.size (.cells #[.int .i64 1, .slice none 0 0, .slice none 0 0, .int .i64 0, .bool false] 36)).drew)
  · have dg0 : decide (c.off < 0) = false := by simpa using g0
    by_cases g1 : 128 < c.data.length
    · have dg1 : decide ((128 : Int) < (c.data.length : Int)) = true := by simp; omega
      have hq := E0.out (by first | exact .inl g1 | exact .inr (.inl g1) | exact .inr (.inr g1) | exact .inr g1 | exact g1)
      subst hq
      clear g0 g1
      go_wp2_with fail
      clear c0 c1 c2 c3 c4 c5 lC
      obtain ⟨t0, t1, t2, lT⟩ := HX0.out.tree
      obtain ⟨⟨r0, r1, r2⟩, ⟨s0, s1, s2, s3, s4⟩, ⟨v0, v1, v2⟩, ⟨z0, z1, z2, z3, z4⟩, lR, lS⟩ := HX0.out.res
      go_wp2_with fail
      go_region_law (first
        | (go_simp; go_at_call 36; refine (rno_any 1 _).mono ?_; rintro e wn ⟨rfl, rfl⟩)
        | fail)
      all_goals
        go_wp2_with fail
        obtain ⟨hlr, hls, hlb, _⟩ := HX0.out.end_ (a := .int .i64 I) (b := .int .i64 J) (v := .slice A k ca) (x0 := .int .i64 1) (x1 := .slice none 0 0) (x2 := .slice none 0 0) (x3 := .int .i64 0) (x4 := .bool false)
        exact bodyPost_ret (ret_rta rfl (by rfl) (heap_drewL (heap_alloc hlr (.cells #[.int .i64 1, .slice none 0 0, .slice none 0 0, .int .i64 0, .bool false] 36))) (by rfl) (heap_drewL (heap_alloc hls (.cells #[.int .i64 1, .slice none 0 0, .slice none 0 0, .int .i64 0, .bool false] 36)))) rfl (told_no HRT.out HK.out (hlb.alloc hlb.size (.cells #[.int .i64 1, .slice none 0 0, .slice none 0 0, .int .i64 0, .bool false] 36)).drew)
    · have dg1 : decide ((128 : Int) < (c.data.length : Int)) = false := by simp; omega
      obtain ⟨t0, t1, t2, lT⟩ := HX0.out.tree
      have PF := Lib.hid (PF0.out W0 HX0.out.bel)
      clear PF0
      go_wp2_with fail
      refine (PF.out).mono ?_
      rintro e w2 ⟨⟨⟨xd, xb⟩, xa, xc⟩, rfl, hx2, hel, hB2⟩
      have HXd : Hid (xd = r.2.dir) := Lib.hid (by rw [← hx2])
      have HXv : Hid ((⟨xd, xb⟩ : Th) = r.2) := Lib.hid hx2
      clear hx2
      have HX2 := Lib.hid (HX0.out.below hB2)
      have hx3 := heap_alloc_new w2 (.cells #[.string (bs tp), .bool xd, .slice xa xb.length xc] 80)
      have HX3 := Lib.hid (HX2.out.alloc (.cells #[.string (bs tp), .bool xd, .slice xa xb.length xc] 80))
      have hel3 := el_below (el_below hel hB2) ((Below.refl _ _).alloc (Nat.le_refl _) (.cells #[.string (bs tp), .bool xd, .slice xa xb.length xc] 80))
      have hlt3 : w.heap.size + 3 < w2.heap.size := heap_lt HX2.out.sb
      clear hB2 hel t0 t1 t2 lT c0 c1 c2 c3 c4 c5 lC HX2 PF
      go_upto_region 4 with (fail)
      generalize w2.alloc (.cells #[.string (bs tp), .bool xd, .slice xa xb.length xc] 80) = W3 at hx3 HX3 hel3 ⊢
      generalize w2.heap.size = N3 at hx3 hlt3 ⊢
      have y1 : W3.cell? ⟨N3, 1, none⟩ = some (.bool xd) := cell_of_row _ _ 1 _ _ _ hx3
      have hne2 : N3 ≠ w.heap.size + 2 := by omega
      have hne3 : N3 ≠ w.heap.size + 3 := by omega
      have hne2' : w.heap.size + 2 ≠ N3 := by omega
      have hne3' : w.heap.size + 3 ≠ N3 := by omega
      have HEl := Lib.hid hel3
      clear hel3
      have HY := Lib.hid hx3
      clear hx3
      clear dg0 dg1
      have HG : Hid (True ∧ 0 ≤ c.off ∧ c.data.length ≤ 128) := Lib.hid ⟨trivial, by omega, by omega⟩
      clear g0 g1
      by_cases hf : r.1 = 0
      case neg =>
        have d2 : (r.1 != 0) = true := by simpa using hf
        have hfe := F1.out hf
        have hq := E1.out HG.out.2 (by rw [hfe]; exact hf)
        rw [hfe] at hq
        subst hq
        clear hf hfe
        go_wp2_with fail
        clear y1
        obtain ⟨t0, t1, t2, lT⟩ := HX3.out.tree
        obtain ⟨⟨r0, r1, r2⟩, ⟨s0, s1, s2, s3, s4⟩, ⟨v0, v1, v2⟩, ⟨z0, z1, z2, z3, z4⟩, lR, lS⟩ := HX3.out.res
        go_wp2_with fail
        go_region_law (first
          | (go_simp; go_at_call 36; refine (rno_any r.1 _).mono ?_; rintro e wn ⟨rfl, rfl⟩)
          | fail)
        all_goals
          go_wp2_with fail
          obtain ⟨hlr, hls, hlb, _⟩ := HX3.out.end_ (a := .int .i64 I) (b := .int .i64 J) (v := .slice A k ca) (x0 := .int .i64 r.1) (x1 := .slice none 0 0) (x2 := .slice none 0 0) (x3 := .int .i64 0) (x4 := .bool false)
          exact bodyPost_ret (ret_rta rfl (by rfl) (heap_drewL (heap_alloc hlr (.cells #[.int .i64 r.1, .slice none 0 0, .slice none 0 0, .int .i64 0, .bool false] 36))) (by rfl) (heap_drewL (heap_alloc hls (.cells #[.int .i64 r.1, .slice none 0 0, .slice none 0 0, .int .i64 0, .bool false] 36)))) rfl (told_no HRT.out HK.out (hlb.alloc hlb.size (.cells #[.int .i64 r.1, .slice none 0 0, .slice none 0 0, .int .i64 0, .bool false] 36)).drew)
      case pos =>
        have d2 : (r.1 != 0) = false := by simpa using hf
        have HF := Lib.hid hf
        clear hf
        cases xd with
        | true =>
          have hfe := F2.out HF.out HXd.out.symm
          have hq := E1.out HG.out.2 (by rw [hfe]; decide)
          rw [hfe] at hq
          subst hq
          clear hfe
          go_wp2_with fail
          clear y1
          obtain ⟨t0, t1, t2, lT⟩ := HX3.out.tree
          obtain ⟨⟨r0, r1, r2⟩, ⟨s0, s1, s2, s3, s4⟩, ⟨v0, v1, v2⟩, ⟨z0, z1, z2, z3, z4⟩, lR, lS⟩ := HX3.out.res
          go_wp2_with fail
          go_region_law (first
            | (go_simp; go_at_call 36; refine (rno_any 15 _).mono ?_; rintro e wn ⟨rfl, rfl⟩)
            | fail)
          all_goals
            go_wp2_with fail
            obtain ⟨hlr, hls, hlb, _⟩ := HX3.out.end_ (a := .int .i64 I) (b := .int .i64 J) (v := .slice A k ca) (x0 := .int .i64 15) (x1 := .slice none 0 0) (x2 := .slice none 0 0) (x3 := .int .i64 0) (x4 := .bool false)
            exact bodyPost_ret (ret_rta rfl (by rfl) (heap_drewL (heap_alloc hlr (.cells #[.int .i64 15, .slice none 0 0, .slice none 0 0, .int .i64 0, .bool false] 36))) (by rfl) (heap_drewL (heap_alloc hls (.cells #[.int .i64 15, .slice none 0 0, .slice none 0 0, .int .i64 0, .bool false] 36)))) rfl (told_no HRT.out HK.out (hlb.alloc hlb.size (.cells #[.int .i64 15, .slice none 0 0, .slice none 0 0, .int .i64 0, .bool false] 36)).drew)
        | false =>
          have HFe := Lib.hid (F3.out HF.out HXd.out.symm)
          have hfi := HFit.out ⟨false, xb⟩ HF.out HXv.out
          have hfe : fl = (0, ⟨false, xb⟩) := by rw [HFe.out, ← HXv.out]
          have HFl := Lib.hid hfe
          have hel := HEl.out
          have hxc := hel.2.1
          have hxm := hel.2.2
          simp only at hfi hxc
          unfold maxLen at hxm
          have y2 : W3.cell? ⟨N3, 2, none⟩ = some (.slice xa xb.length xc) := cell_of_row _ _ 2 _ _ _ HY.out
          obtain ⟨L, hL⟩ : ∃ L, L = xb.length := ⟨_, rfl⟩
          have HL := Lib.hid hL
          rw [← hL] at hfi hxc y2
          have HHl : Hid (HEq L L) := HEq.rfl
          obtain ⟨c0, c1, c2, c3, c4, c5, lC⟩ := HX3.out.call
          obtain ⟨t0, t1, t2, lT⟩ := HX3.out.tree
          rw [hkd] at c0
          clear hfe hel hL HHl
          obtain ⟨o, ho⟩ : ∃ o : Nat, c.off = o := ⟨c.off.toNat, by have := HG.out.2.1; omega⟩
          obtain ⟨D, hD⟩ : ∃ D, D = c.data.length := ⟨_, rfl⟩
          have hD8 : D ≤ 128 := by have := HG.out.2.2; omega
          rw [ho] at c3
          rw [← hD] at c5
          have HO := Lib.hid ho
          have HD := Lib.hid hD
          clear ho hD
          by_cases h2 : L < o
          · have p2 : decide ((L : Int) < (o : Int)) = true := by simpa using h2
            have p2' : decide (L < o) = true := by simpa using h2
            have hq := E2.out HG.out.2 (by rw [HFl.out]) (by rw [HFl.out, HO.out]; show ((xb.length : Nat) : Int) < _; rw [← HL.out]; omega)
            subst hq
            clear h2
            go_wp2_with fail
            clear y1 y2 c0 c1 c2 c3 c4 c5 lC t0 t1 t2 lT
            obtain ⟨t0, t1, t2, lT⟩ := HX3.out.tree
            obtain ⟨⟨r0, r1, r2⟩, ⟨s0, s1, s2, s3, s4⟩, ⟨v0, v1, v2⟩, ⟨z0, z1, z2, z3, z4⟩, lR, lS⟩ := HX3.out.res
            go_wp2_with fail
            go_region_law (first
              | (go_simp; go_at_call 36; refine (rno_any 20 _).mono ?_; rintro e wn ⟨rfl, rfl⟩)
              | fail)
            all_goals
              go_wp2_with fail
              obtain ⟨hlr, hls, hlb, _⟩ := HX3.out.end_ (a := .int .i64 I) (b := .int .i64 J) (v := .slice A k ca) (x0 := .int .i64 20) (x1 := .slice none 0 0) (x2 := .slice none 0 0) (x3 := .int .i64 0) (x4 := .bool false)
              exact bodyPost_ret (ret_rta rfl (by rfl) (heap_drewL (heap_alloc hlr (.cells #[.int .i64 20, .slice none 0 0, .slice none 0 0, .int .i64 0, .bool false] 36))) (by rfl) (heap_drewL (heap_alloc hls (.cells #[.int .i64 20, .slice none 0 0, .slice none 0 0, .int .i64 0, .bool false] 36)))) rfl (told_no HRT.out HK.out (hlb.alloc hlb.size (.cells #[.int .i64 20, .slice none 0 0, .slice none 0 0, .int .i64 0, .bool false] 36)).drew)
          · have p2 : decide ((L : Int) < (o : Int)) = false := by simpa using h2
            have p2' : decide (L < o) = false := by simpa using h2
            have ho1 : o ≤ L := by omega
            have hw64 : IntKind.i64.wrap ((o : Int) + (D : Int)) = (o : Int) + (D : Int) := IntWalk.i64_in _ (by omega)
            by_cases h3 : 512 < o + D
            · have p3 : decide ((512 : Int) < (o : Int) + (D : Int)) = true := by simp; omega
              have p3' : decide (512 < o + D) = true := by simpa using h3
              have hq := E3.out HG.out.2 (by rw [HFl.out]) (by rw [HFl.out, HO.out]; show (o : Int) ≤ ((xb.length : Nat) : Int); rw [← HL.out]; omega) (by rw [HO.out, ← HD.out]; omega)
              subst hq
              clear h2 h3
              go_wp2_with fail
              clear y1 y2 c0 c1 c2 c3 c4 c5 lC t0 t1 t2 lT
              obtain ⟨t0, t1, t2, lT⟩ := HX3.out.tree
              obtain ⟨⟨r0, r1, r2⟩, ⟨s0, s1, s2, s3, s4⟩, ⟨v0, v1, v2⟩, ⟨z0, z1, z2, z3, z4⟩, lR, lS⟩ := HX3.out.res
              go_wp2_with fail
              go_region_law (first
                | (go_simp; go_at_call 36; refine (rno_any 17 _).mono ?_; rintro e wn ⟨rfl, rfl⟩)
                | fail)
              all_goals
                go_wp2_with fail
                obtain ⟨hlr, hls, hlb, _⟩ := HX3.out.end_ (a := .int .i64 I) (b := .int .i64 J) (v := .slice A k ca) (x0 := .int .i64 17) (x1 := .slice none 0 0) (x2 := .slice none 0 0) (x3 := .int .i64 0) (x4 := .bool false)
                exact bodyPost_ret (ret_rta rfl (by rfl) (heap_drewL (heap_alloc hlr (.cells #[.int .i64 17, .slice none 0 0, .slice none 0 0, .int .i64 0, .bool false] 36))) (by rfl) (heap_drewL (heap_alloc hls (.cells #[.int .i64 17, .slice none 0 0, .slice none 0 0, .int .i64 0, .bool false] 36)))) rfl (told_no HRT.out HK.out (hlb.alloc hlb.size (.cells #[.int .i64 17, .slice none 0 0, .slice none 0 0, .int .i64 0, .bool false] 36)).drew)
            · have p3 : decide ((512 : Int) < (o : Int) + (D : Int)) = false := by simp; omega
              have p3' : decide (512 < o + D) = false := by simpa using h3
              have hq := E4.out HG.out.2 (by rw [HFl.out]) (by rw [HFl.out, HO.out]; show (o : Int) ≤ ((xb.length : Nat) : Int); rw [← HL.out]; omega) (by rw [HO.out, ← HD.out]; omega)
              rw [HFl.out, HO.out, Int.toNat_natCast] at hq
              simp only at hq
              obtain ⟨wr, hwr⟩ : ∃ wr, wr = writeV xb o c.data := ⟨_, rfl⟩
              rw [← hwr] at hq
              have hwl : wr.length ≤ 512 := by rw [hwr, write_len (by rw [← HL.out]; omega), ← HD.out, ← HL.out]; omega
              rw [← show tp = c.path by rw [HTp.out, if_pos HF.out]] at hq
              have HQ6' := Lib.hid hq
              have HWr := Lib.hid hwr
              have HWl := Lib.hid hwl
              have hsl : ∀ U, (Instr.slice 23 (.slice xa L xc) none (some (.int .i64 (o : Int))) none).run Tryz.prog U = .ok (.slice xa o xc) U := run_cut0 (by omega)
              have HS1 := Lib.hid (bytes_take HEl.out.1 o)
              have htl : (xb.take o).length = o := by rw [List.length_take, ← HL.out]; omega
              have HTl := Lib.hid htl
              have HDa := Lib.hid (Sees.below HAc.out HX3.out.bel)
              have hbig : W3.heap.size ≤ W3.heap.size := Nat.le_refl _
              clear hq hwr hwl h2 h3 htl
              go_upto_region 16 with (fail)
              go_cut [10] (fun s wc => ∃ (A2 : Option Addr) (k2 : Nat), s = .slice A2 (o + D) k2 ∧ Hid (wc.ownsRow W3.heap.size 5 1 (.slice A2 (o + D) k2) (o + D) ((xb.take o).map by8 ++ c.data.map by8)) ∧ Hid (Below W3.heap.size W3 wc))
              case first =>
               go_region_law (first
                | (refine step_app elem_u8 (by rfl) (.const (.slice none 0 0)) (.tmp 101) (by rfl) W3.heap.size (.slice none 0 0) 0 [] (by rfl) (World.ownsRow_nil _ W3.heap.size 5 1) xa o xc ((xb.take o).map by8) (by rfl) (by exact HS1.out) (by rw [List.length_map, HTl.out, Nat.mul_one]) (by intro u hu; obtain ⟨_, _, rfl⟩ := List.mem_map.1 hu; rfl) (by omega) (by exact Nat.le_refl _) ?_; intro v1 w1 hown1' hg1 _; have hown1 : w1.ownsRow W3.heap.size 5 1 v1 o ((xb.take o).map by8) := (by simpa using hown1'); have hb1 : Below W3.heap.size W3 w1 := below_undrew ((Below.refl _ _).grown hg1 (Nat.le_refl _) (fun k hk => by cases hk)); obtain ⟨A1, k1, rfl, _, _⟩ := own_full hown1; have q5 : w1.cell? ⟨w.heap.size + 1, 5, none⟩ = some (.slice Ac D cA) := (hb1.cell lC).trans c5; have HO1 := Lib.hid hown1; have HB1 := Lib.hid hb1; clear hown1 hown1' hg1 hb1)
                | (refine step_app elem_u8 (by rfl) (.tmp 102) (.tmp 104) (by rfl) W3.heap.size (.slice A1 o k1) o ((xb.take o).map by8) (by rfl) (by exact HO1.out) Ac D cA (c.data.map by8) (by rfl) (by exact Sees.below HDa.out HB1.out) (by rw [List.length_map, ← HD.out, Nat.mul_one]) (by intro u hu; obtain ⟨_, _, rfl⟩ := List.mem_map.1 hu; rfl) (by omega) (by exact HB1.out.size) ?_; intro v2 w2 hown2 hg2 _; obtain ⟨A2, k2, rfl, _, _⟩ := own_full hown2; have HO2 := Lib.hid hown2; have HB2 := Lib.hid (HB1.out.own HO1.out hg2 HB1.out.size (Nat.le_refl _)); clear hown2 hg2)
                | fail)
               all_goals
                go_wp2_with fail
                go_meet
                exact ⟨A2, k2, rfl, HO2, HB2⟩
              case rest =>
               obtain ⟨A2, k2, rfl, HO2, HB2⟩ := hcut
               have HX4 := Lib.hid (HX3.out.below HB2.out)
               have hy4 := heap_below HY.out HB2.out
               have HY4 := Lib.hid hy4
               have n2 : wc.cell? ⟨N3, 2, none⟩ = some (.slice xa L xc) := by rw [HL.out]; exact cell_of_row _ _ 2 _ _ _ hy4
               have hln9 : wr.length = max (o + D) L := by rw [HWr.out, write_len (by rw [← HL.out]; omega), ← HD.out, ← HL.out]
               have hwl9 := HWl.out
               have hsz4 := HB2.out.size
               have hm9 : 512 ≤ maxLen := by unfold maxLen; omega
               clear y1 y2 hsl hbig hy4 c0 c1 c2 c3 c4 c5 lC t0 t1 t2 lT
               obtain ⟨w4, hw4⟩ : ∃ u, u = wc := ⟨_, rfl⟩
               subst hw4
               go_upto_if 108 with (fail)
               go_cut [10] (fun s wd => ∃ (A9 : Option Addr) (k9 q : Nat), s = .slice A9 q k9 ∧ Hid (q = wr.length) ∧ Hid (wd.ownsRow W3.heap.size 5 1 (.slice A9 q k9) q (wr.map by8)) ∧ Hid (Below W3.heap.size W3 wd))
               case first =>
                by_cases h5 : o + D < L
                · have p5 : decide ((o : Int) + (D : Int) < (L : Int)) = true := by simp; omega
                  have p5' : decide (o + D < L) = true := by simpa using h5
                  have hsl2 : ∀ U, (Instr.slice 23 (.slice xa L xc) (some (.int .i64 ((o : Int) + (D : Int)))) none none).run Tryz.prog U = .ok (.slice (cutA xa xc (o + D)) (L - (o + D)) (xc - (o + D))) U := by rw [← Int.natCast_add]; exact run_cut1 (by omega)
                  have HSd := Lib.hid (bytes_cut (Sees.below HEl.out.1 HB2.out) (cap := xc) (lo := o + D) HEl.out.2.1)
                  go_wp2_with (at_builtin; refine wpList_app elem_u8 rfl (.tmp 109) (.tmp 113) rfl W3.heap.size (.slice A2 (o + D) k2) (o + D) ((xb.take o).map by8 ++ c.data.map by8) rfl HO2.out (cutA xa xc (o + D)) (L - (o + D)) (xc - (o + D)) ((xb.drop (o + D)).map by8) rfl HSd.out (by rw [List.length_map, List.length_drop, ← HL.out, Nat.mul_one]) (by intro u hu; obtain ⟨_, _, rfl⟩ := List.mem_map.1 hu; rfl) (by omega) HB2.out.size ?_)
                  intro v5 w5 hown5 hg5 _
                  obtain ⟨A9, k9, rfl, _, _⟩ := own_full hown5
                  have HB9 := Lib.hid (HB2.out.own HO2.out hg5 HB2.out.size (Nat.le_refl _))
                  have HQw : Hid (o + D + (L - (o + D)) = wr.length) := Lib.hid (by omega)
                  have HO5 : Hid (w5.ownsRow W3.heap.size 5 1 (.slice A9 (o + D + (L - (o + D))) k9) (o + D + (L - (o + D))) (wr.map by8)) := by
                    have e : wr.map by8 = (xb.take o).map by8 ++ c.data.map by8 ++ (xb.drop (o + D)).map by8 := by rw [HWr.out]; unfold writeV; rw [List.map_append, List.map_append, ← HD.out]
                    show World.ownsRow _ _ _ _ _ _ _
                    rw [e]
                    first
                      | exact hown5
                      | (rw [List.map_take, List.map_drop]; exact hown5)
                      | (rw [List.map_take, List.map_drop, List.append_assoc]; exact hown5)
                  clear hown5 hg5
                  go_wp2_with fail
                  go_meet
                  exact ⟨A9, k9, _, rfl, HQw, HO5, HB9⟩
                · have p5 : decide ((o : Int) + (D : Int) < (L : Int)) = false := by simp; omega
                  have p5' : decide (o + D < L) = false := by simpa using h5
                  have HQw : Hid (o + D = wr.length) := Lib.hid (by omega)
                  have HO5 : Hid (w4.ownsRow W3.heap.size 5 1 (.slice A2 (o + D) k2) (o + D) (wr.map by8)) := by
                    have e : wr.map by8 = (xb.take o).map by8 ++ c.data.map by8 := by
                      rw [HWr.out]; unfold writeV
                      rw [List.map_append, List.map_append, List.drop_of_length_le (by rw [← HL.out, ← HD.out]; omega), List.map_nil, List.append_nil]
                    show World.ownsRow _ _ _ _ _ _ _
                    rw [e]
                    exact HO2.out
                  go_wp2_with fail
                  go_meet
                  exact ⟨A2, k2, _, rfl, HQw, HO5, HB2⟩
               case rest =>
                obtain ⟨A9, k9, q, rfl, HQw, HO9, HB9⟩ := hcut
                clear n2 HX4 HY4 HB2 HO2 hsz4 hln9
                have HX9 := Lib.hid (HX3.out.below HB9.out)
                have hy9 := heap_below HY.out HB9.out
                have n0 : wc.cell? ⟨N3, 0, none⟩ = some (.string (bs tp)) := cell_of_row _ _ 0 _ _ _ hy9
                have n1 : wc.cell? ⟨N3, 1, none⟩ = some (.bool false) := cell_of_row _ _ 1 _ _ _ hy9
                have n2 : wc.cell? ⟨N3, 2, none⟩ = some (.slice xa xb.length xc) := cell_of_row _ _ 2 _ _ _ hy9
                have g2 := frozen_of_row wc N3 2 _ _ hy9
                have hN3 : N3 < W3.heap.size := heap_lt HY.out
                have hX10 : RxW w I J A k ca c Ac cA (wc.setCell ⟨N3, 2, none⟩ (.slice A9 q k9)) := HX9.out.side hlt3
                have hy10 : (wc.setCell ⟨N3, 2, none⟩ (.slice A9 q k9)).heap[N3]? = some (.cells #[.string (bs tp), .bool false, .slice A9 q k9] 80 (0, 0)) := by
                  have := Go.Cat.set_block (.slice A9 q k9) hy9 (i := 2)
                  simpa using this
                have hel10 : ElAt (wc.setCell ⟨N3, 2, none⟩ (.slice A9 q k9)) (⟨false, wr⟩, A9, k9) := by
                  obtain ⟨_, _, e1, h3, h4⟩ := own_full HO9.out
                  injection e1 with _ _ e1
                  refine ⟨Sees.of_own (n := q) (c := k9) (own_touch HO9.out (Tch.set wc N3 2 (.slice A9 q k9)) fun k hk hk2 => ?_), ?_, ?_⟩
                  · have := (HO9.out.lt k hk).1; omega
                  · show wr.length ≤ k9; rw [← HQw.out]; omega
                  · show k9 ≤ maxLen; omega
                have HHy := Lib.hid hy9
                clear hy9
                go_upto_region 20 with (fail)
                generalize wc.setCell ⟨N3, 2, none⟩ (.slice A9 q k9) = W10 at hX10 hy10 hel10 ⊢
                clear n0 n1 n2 g2 hN3
                have htp : tp = c.path := by rw [HTp.out, if_pos HF.out]
                have hfull := full_putF HInv.out (HInv.out.find_ok (p := c.path) (by rw [← HRd.out]; exact HF.out)) (by rw [← HRd.out]; exact HXd.out.symm) (⟨false, wr⟩, A9, k9)
                have hinv : Inv (fullR (putT c.path ((⟨false, wr⟩, A9, k9) : El) es)) := by rw [hfull]; exact HInv.out.set (by rw [file_file (by rw [← HRd.out]; exact HF.out) (by rw [← HRd.out]; exact HXd.out.symm)]) HWl.out
                have p4 := rput_any I J A es ca c.path (⟨false, wr⟩, A9, k9) W10.drew (HRT.out.below hX10.bel.drew) hel10 HRise.out (by omega)
                unfold ToldRT rtC at p4
                simp only [← HQw.out] at p4
                have pl : (putT c.path ((⟨false, wr⟩, A9, k9) : El) es).length ≤ 1000 := by have := put_le c.path ((⟨false, wr⟩, A9, k9) : El) es; omega
                have pq := fun W A' c' (h' : RT W A' c' (putT c.path ((⟨false, wr⟩, A9, k9) : El) es)) (hW : Below w.heap.size w W) => rfits_any I J A es ca A' _ c' W (HRT.out.below hW) h' hinv pl
                rw [hfull, ← HK.out] at pq
                rw [← HK.out, ← htp] at p4
                rw [← htp] at pq
                simp only [← HQ6'.out] at pq
                unfold ToldRDo at pq
                have PP := Lib.hid p4
                have PQ0 := Lib.hid pq
                have HX10 := Lib.hid hX10
                obtain ⟨t0, t1, t2, lT⟩ := hX10.tree
                have n0 : W10.cell? ⟨N3, 0, none⟩ = some (.string (bs tp)) := cell_of_row _ _ 0 _ _ _ hy10
                have n1 : W10.cell? ⟨N3, 1, none⟩ = some (.bool false) := cell_of_row _ _ 1 _ _ _ hy10
                have n2 : W10.cell? ⟨N3, 2, none⟩ = some (.slice A9 q k9) := cell_of_row _ _ 2 _ _ _ hy10
                clear hX10 hy10 hel10 htp hfull hinv p4 pl pq
                go_region_law (first
                  | (go_simp; go_at_call 40; with_reducible refine (PP.out).mono ?_; rintro e w11 ⟨A11, c11, rfl, hRT11, hB11⟩; have HX11 := Lib.hid (HX10.out.drew.below hB11); obtain ⟨q0, q1, q2, qT⟩ := HX11.out.tree; have PQ := Lib.hid (PQ0.out w11 A11 c11 hRT11 HX11.out.bel); clear hB11 hRT11)
                  | (go_simp; go_at_call 39; with_reducible refine (PQ.out).mono ?_; rintro e w12 ⟨A12, c12, es12, B12, cB12, C12, cC12, rfl, hRT12, hfl12, hby12, htx12, hB12⟩; have HX12 := Lib.hid (HX11.out.below hB12); have HT12 := Lib.hid (And.intro hRT12 (And.intro hfl12 (And.intro hby12 htx12))); obtain ⟨⟨r0, r1, r2⟩, ⟨s0, s1, s2, s3, s4⟩, ⟨v0, v1, v2⟩, ⟨z0, z1, z2, z3, z4⟩, lR, lS⟩ := HX12.out.res; clear hRT12 hfl12 hby12 htx12 hB12)
                  | fail)
                all_goals
                  go_wp2_with fail
                  obtain ⟨hlr, hls, _, _⟩ := HX12.out.end_ (a := .int .i64 I) (b := .int .i64 J) (v := .slice A12 es12.length c12) (x0 := .int .i64 Q.2.code) (x1 := .slice B12 Q.2.data.length cB12) (x2 := .slice C12 Q.2.names.length cC12) (x3 := .int .i64 Q.2.size) (x4 := .bool Q.2.dir)
                  exact bodyPost_ret (ret_rta rfl (by rfl) hlr (by rfl) hls) rfl (HX12.out.toldF HT12.out.1 HT12.out.2.1 HT12.out.2.2.1 HT12.out.2.2.2 rfl rfl rfl)

end Go.Proofs.YtabecceojbeomaaGreatDoor
