/- The contract of the reference's Do at kinds Make and MakeDir. Conditions: the tree's invariant; at most 900 things; a path below 2^32 bytes. -/
import Derived.Test.YtabecceojbeomaaGreatDoorTrRB
namespace Go.Proofs.YtabecceojbeomaaGreatDoor
open Go.RowKit Go.Cat Go.Cat.Dir Go.Cat.Tree

set_option maxRecDepth 100000 in
set_option maxHeartbeats 4000000 in
theorem rdomake_any (I J : Int) (A : Option Addr) (es : List (Txt × El)) (ca : Nat) (c : CallV) (Ac : Option Addr) (cA : Nat) (w : World) (h : RT w A ca es) (hi : Inv (fullR es)) (hn : es.length ≤ 900) (hp : c.path.length < 4294967281) (hkd : c.kind = 1) :
    Calls Tryz.prog 21 #[.agg #[.int .i64 I, .int .i64 J, .slice A es.length ca], .agg (callC c Ac cA)] w (ToldRDo (doV I J (fullR es) c) I J w) := by
  have pp := fun W (hW : Below w.heap.size w W) => rplace_any I J A es ca c.path W (h.below hW) (by omega) hp
  have pt := fun W (hW : Below w.heap.size w W) => rat_any I J A es ca c.path W (h.below hW) (by omega)
  unfold ToldAt rtC at pt
  have pn := fun W (hW : Below w.heap.size w W) => rnames_any I J A es ca (upV (fullR es) c.path).2 W (h.below hW) (fun y hy => full_abe hi hy) (full_rise hi) (by omega)
  unfold ToldT at pn
  simp only [← names_full] at pn
  have hnl : (namesV (upV (fullR es) c.path).2 (fullR es)).length ≤ 100000 := by rw [names_full]; have := namesV_le (upV (fullR es) c.path).2 (ths es); rw [ths_length] at this; omega
  have pu := fun W (hW : Below w.heap.size w W) => rput_any I J A es ca c.path (⟨false, []⟩, none, 0) W (h.below hW) ⟨.inl rfl, Nat.le_refl _, Nat.zero_le _⟩ (full_rise hi) (by omega)
  unfold ToldRT rtC at pu
  simp only [List.length_nil] at pu
  have e1 := mk_up (l := fullR es) (c := c) (I := I) (J := J) (by omega)
  have e2 := mk_there (l := fullR es) (c := c) (I := I) (J := J) (by omega)
  have e3 := mk_big (I := I) (J := J) (c := c) hi (by omega)
  have e4 := mk_ok (I := I) (J := J) (c := c) hi (by omega)
  rw [show (c.kind == 2) = false by rw [hkd]; rfl] at e4
  rw [full_some] at e2 e3 e4
  obtain ⟨m, hm⟩ : ∃ m, m = putT c.path ((⟨false, []⟩, none, 0) : El) es := ⟨_, rfl⟩
  have hml : m.length ≤ 1000 := by rw [hm]; have := put_le c.path ((⟨false, []⟩, none, 0) : El) es; omega
  rw [← hm] at e4
  simp only [← hm] at pu
  have pg := fun W (hW : Below w.heap.size w W) (A' : Option Addr) (c' : Nat) (h' : RT W A' c' m) (hi' : Inv (fullR m)) => rfits_any I J A es ca A' m c' W (h.below hW) h' hi' hml
  unfold ToldRDo at pg
  obtain ⟨Q, hQ⟩ : ∃ Q, Q = doV I J (fullR es) c := ⟨_, rfl⟩
  rw [← hQ] at e1 e2 e3 e4 ⊢
  obtain ⟨F, hF⟩ : ∃ F, F = if overV I J (fullR m) then (fullR es, wrongV 16) else (fullR m, {}) := ⟨_, rfl⟩
  rw [← hF] at e4
  simp only [← hF] at pg
  obtain ⟨up, hup⟩ : ∃ up, up = upV (fullR es) c.path := ⟨_, rfl⟩
  rw [← hup] at e1 e2 e3 e4 hnl
  simp only [← hup] at pp pn
  obtain ⟨nm, hnm⟩ : ∃ nm, nm = (namesV up.2 (fullR es)).length := ⟨_, rfl⟩
  rw [← hnm] at e3 e4 hnl
  simp only [← hnm] at pn
  obtain ⟨mt, hmt⟩ : ∃ mt, mt = (getR c.path es).isSome := ⟨_, rfl⟩
  obtain ⟨zx, hzx⟩ : ∃ zx, zx = (getR c.path es).getD zeroE := ⟨_, rfl⟩
  obtain ⟨zq, hzq⟩ : ∃ zq, zq = if (getR c.path es).isSome then c.path else [] := ⟨_, rfl⟩
  simp only [← hzq] at pt
  simp only [← hzx, ← hmt] at pt
  rw [← hmt] at e2 e3 e4
  have E1 := Lib.hid e1
  have E2 := Lib.hid e2
  have E3 := Lib.hid e3
  have E4 := Lib.hid e4
  have HNl := Lib.hid hnl
  have HRT := Lib.hid h
  obtain ⟨k, hk⟩ : ∃ k, k = es.length := ⟨_, rfl⟩
  have HK := Lib.hid hk
  rw [← hk] at pp pt pn pu pg ⊢
  have PP0 := Lib.hid pp
  have PT0 := Lib.hid pt
  have PN0 := Lib.hid pn
  have PU0 := Lib.hid pu
  have PG0 := Lib.hid pg
  obtain ⟨W0, hW0⟩ : ∃ W0, W0 = (((w.alloc (.cells #[.int .i64 I, .int .i64 J, .slice A k ca] 53)).alloc (.cells (callC c Ac cA) 33)).alloc (.cells #[.int .i64 0, .int .i64 0, .slice none 0 0] 53)).alloc (.cells #[.int .i64 0, .slice none 0 0, .slice none 0 0, .int .i64 0, .bool false] 36) := ⟨_, rfl⟩
  have HX0 := Lib.hid (RxW.new hW0)
  have HW0 := Lib.hid hW0
  clear hk hW0 h hi pp pt pn pu pg hnl hml e1 e2 e3 e4 hQ hF hup hnm hmt hzx hzq hm
  go_enter Tryz.func21, Tryz.ntmps21
  go_upto_region 1 with (fail)
  rw [← HW0.out, show w.heap.size + 1 + 1 = w.heap.size + 2 from rfl, show w.heap.size + 2 + 1 = w.heap.size + 3 from rfl]
  clear HW0
  obtain ⟨c0, c1, c2, c3, c4, c5, lC⟩ := HX0.out.call
  rw [hkd] at c0
  obtain ⟨t0, t1, t2, lT⟩ := HX0.out.tree
  have PP := Lib.hid (PP0.out W0 HX0.out.bel)
  clear PP0
  go_wp2_with fail
  refine (PP.out).mono ?_
  rintro e w2 ⟨rfl, hB2⟩
  have HX2 := Lib.hid (HX0.out.below hB2)
  clear hB2 PP HX0 t0 t1 t2 lT c0 c1 c2 c3 c4 c5 lC
  by_cases hu : up.1 = 0
  case neg =>
    have d4 : (up.1 != 0) = true := by simpa using hu
    have hq := E1.out hu
    subst hq
    clear hu
    go_wp2_with fail
    obtain ⟨t0, t1, t2, lT⟩ := HX2.out.tree
    obtain ⟨⟨r0, r1, r2⟩, ⟨s0, s1, s2, s3, s4⟩, ⟨v0, v1, v2⟩, ⟨z0, z1, z2, z3, z4⟩, lR, lS⟩ := HX2.out.res
    go_wp2_with fail
    go_region_law (first
      | (go_simp; go_at_call 36; refine (rno_any up.1 _).mono ?_; rintro e wn ⟨rfl, rfl⟩)
      | fail)
    all_goals
      go_wp2_with fail
      obtain ⟨hlr, hls, hlb, _⟩ := HX2.out.end_ (a := .int .i64 I) (b := .int .i64 J) (v := .slice A k ca) (x0 := .int .i64 up.1) (x1 := .slice none 0 0) (x2 := .slice none 0 0) (x3 := .int .i64 0) (x4 := .bool false)
      exact bodyPost_ret (ret_rta rfl (by rfl) (heap_drewL (heap_alloc hlr (.cells #[.int .i64 up.1, .slice none 0 0, .slice none 0 0, .int .i64 0, .bool false] 36))) (by rfl) (heap_drewL (heap_alloc hls (.cells #[.int .i64 up.1, .slice none 0 0, .slice none 0 0, .int .i64 0, .bool false] 36)))) rfl (told_no HRT.out HK.out (hlb.alloc hlb.size (.cells #[.int .i64 up.1, .slice none 0 0, .slice none 0 0, .int .i64 0, .bool false] 36)).drew)
  case pos =>
    have d4 : (up.1 != 0) = false := by simpa using hu
    have HU := Lib.hid hu
    clear hu
    obtain ⟨c0, c1, c2, c3, c4, c5, lC⟩ := HX2.out.call
    rw [hkd] at c0
    obtain ⟨t0, t1, t2, lT⟩ := HX2.out.tree
    have PT := Lib.hid (PT0.out w2 HX2.out.bel)
    clear PT0
    go_wp2_with fail
    refine (PT.out).mono ?_
    rintro e w3 ⟨rfl, _, hB3⟩
    have HX3 := Lib.hid (HX2.out.below hB3)
    have HX4 := Lib.hid (HX3.out.alloc (.cells #[.string (bs zq), .bool zx.1.dir, .slice zx.2.1 zx.1.b.length zx.2.2] 80))
    clear hB3 PT HX2 d4 t0 t1 t2 lT c0 c1 c2 c3 c4 c5 lC
    go_upto_region 8 with (fail)
    generalize w3.alloc (.cells #[.string (bs zq), .bool zx.1.dir, .slice zx.2.1 zx.1.b.length zx.2.2] 80) = W4 at HX4 ⊢
    clear HX3
    cases mt with
    | true =>
      have hq := E2.out HU.out rfl
      subst hq
      go_wp2_with fail
      obtain ⟨t0, t1, t2, lT⟩ := HX4.out.tree
      obtain ⟨⟨r0, r1, r2⟩, ⟨s0, s1, s2, s3, s4⟩, ⟨v0, v1, v2⟩, ⟨z0, z1, z2, z3, z4⟩, lR, lS⟩ := HX4.out.res
      go_wp2_with fail
      go_region_law (first
        | (go_simp; go_at_call 36; refine (rno_any 8 _).mono ?_; rintro e wn ⟨rfl, rfl⟩)
        | fail)
      all_goals
        go_wp2_with fail
        obtain ⟨hlr, hls, hlb, _⟩ := HX4.out.end_ (a := .int .i64 I) (b := .int .i64 J) (v := .slice A k ca) (x0 := .int .i64 8) (x1 := .slice none 0 0) (x2 := .slice none 0 0) (x3 := .int .i64 0) (x4 := .bool false)
        exact bodyPost_ret (ret_rta rfl (by rfl) (heap_drewL (heap_alloc hlr (.cells #[.int .i64 8, .slice none 0 0, .slice none 0 0, .int .i64 0, .bool false] 36))) (by rfl) (heap_drewL (heap_alloc hls (.cells #[.int .i64 8, .slice none 0 0, .slice none 0 0, .int .i64 0, .bool false] 36)))) rfl (told_no HRT.out HK.out (hlb.alloc hlb.size (.cells #[.int .i64 8, .slice none 0 0, .slice none 0 0, .int .i64 0, .bool false] 36)).drew)
    | false =>
      obtain ⟨c0, c1, c2, c3, c4, c5, lC⟩ := HX4.out.call
      rw [hkd] at c0
      obtain ⟨t0, t1, t2, lT⟩ := HX4.out.tree
      have PN := Lib.hid (PN0.out W4 HX4.out.bel)
      have hnl := HNl.out
      by_cases h32 : 32 ≤ nm
      · have g2 : decide ((32 : Int) ≤ (nm : Int)) = true := by simp; omega
        have g2' : decide (32 ≤ nm) = true := by simpa using h32
        have hq := E3.out HU.out rfl h32
        subst hq
        clear h32
        go_wp2_with fail
        refine (PN.out).mono ?_
        rintro e w5 ⟨A5, c5', rfl, _, hB5⟩
        have HX5 := Lib.hid (HX4.out.below hB5)
        clear hB5 PN t0 t1 t2 lT c0 c1 c2 c3 c4 c5 lC
        go_wp2_with fail
        obtain ⟨t0, t1, t2, lT⟩ := HX5.out.tree
        obtain ⟨⟨r0, r1, r2⟩, ⟨s0, s1, s2, s3, s4⟩, ⟨v0, v1, v2⟩, ⟨z0, z1, z2, z3, z4⟩, lR, lS⟩ := HX5.out.res
        go_wp2_with fail
        go_region_law (first
          | (go_simp; go_at_call 36; refine (rno_any 17 _).mono ?_; rintro e wn ⟨rfl, rfl⟩)
          | fail)
        all_goals
          go_wp2_with fail
          obtain ⟨hlr, hls, hlb, _⟩ := HX5.out.end_ (a := .int .i64 I) (b := .int .i64 J) (v := .slice A k ca) (x0 := .int .i64 17) (x1 := .slice none 0 0) (x2 := .slice none 0 0) (x3 := .int .i64 0) (x4 := .bool false)
          exact bodyPost_ret (ret_rta rfl (by rfl) (heap_drewL (heap_alloc hlr (.cells #[.int .i64 17, .slice none 0 0, .slice none 0 0, .int .i64 0, .bool false] 36))) (by rfl) (heap_drewL (heap_alloc hls (.cells #[.int .i64 17, .slice none 0 0, .slice none 0 0, .int .i64 0, .bool false] 36)))) rfl (told_no HRT.out HK.out (hlb.alloc hlb.size (.cells #[.int .i64 17, .slice none 0 0, .slice none 0 0, .int .i64 0, .bool false] 36)).drew)
      · have g2 : decide ((32 : Int) ≤ (nm : Int)) = false := by simp; omega
        have g2' : decide (32 ≤ nm) = false := by simpa using h32
        obtain ⟨hI, hq⟩ := E4.out HU.out rfl h32
        have HI := Lib.hid hI
        have pq := PG0.out
        simp only [← hq] at pq
        have PQ0 := Lib.hid pq
        clear h32 hI hq pq PG0
        go_wp2_with fail
        refine (PN.out).mono ?_
        rintro e w5 ⟨A5, c5', rfl, _, hB5⟩
        have HX5 := Lib.hid (HX4.out.below hB5)
        clear hB5 PN HX4 t0 t1 t2 lT c0 c1 c2 c3 c4 c5 lC
        obtain ⟨c0, c1, c2, c3, c4, c5, lC⟩ := HX5.out.call
        rw [hkd] at c0
        obtain ⟨t0, t1, t2, lT⟩ := HX5.out.tree
        obtain ⟨⟨r0, r1, r2⟩, ⟨s0, s1, s2, s3, s4⟩, ⟨v0, v1, v2⟩, ⟨z0, z1, z2, z3, z4⟩, lR, lS⟩ := HX5.out.res
        have PU := Lib.hid (PU0.out w5.drew HX5.out.bel.drew)
        clear PU0
        go_wp2_with fail
        go_region_law (first
          | (go_simp; go_at_call 40; with_reducible refine (PU.out).mono ?_; rintro e w11 ⟨A11, c11, rfl, hRT11, hB11⟩; have HX11 := Lib.hid (HX5.out.drew.below hB11); obtain ⟨q0, q1, q2, qT⟩ := HX11.out.tree; have PQ := Lib.hid (PQ0.out w11 HX11.out.bel A11 c11 hRT11 HI.out); clear hB11 hRT11)
          | (go_simp; go_at_call 39; with_reducible refine (PQ.out).mono ?_; rintro e w12 ⟨A12, c12, es12, B12, cB12, C12, cC12, rfl, hRT12, hfl12, hby12, htx12, hB12⟩; have HX12 := Lib.hid (HX11.out.below hB12); have HT12 := Lib.hid (And.intro hRT12 (And.intro hfl12 (And.intro hby12 htx12))); obtain ⟨⟨r0, r1, r2⟩, ⟨s0, s1, s2, s3, s4⟩, ⟨v0, v1, v2⟩, ⟨z0, z1, z2, z3, z4⟩, lR, lS⟩ := HX12.out.res; clear hRT12 hfl12 hby12 htx12 hB12)
          | fail)
        all_goals
          go_wp2_with fail
          obtain ⟨hlr, hls, _, _⟩ := HX12.out.end_ (a := .int .i64 I) (b := .int .i64 J) (v := .slice A12 es12.length c12) (x0 := .int .i64 Q.2.code) (x1 := .slice B12 Q.2.data.length cB12) (x2 := .slice C12 Q.2.names.length cC12) (x3 := .int .i64 Q.2.size) (x4 := .bool Q.2.dir)
          exact bodyPost_ret (ret_rta rfl (by rfl) hlr (by rfl) hls) rfl (HX12.out.toldF HT12.out.1 HT12.out.2.1 HT12.out.2.2.1 HT12.out.2.2.2 rfl rfl rfl)

set_option maxRecDepth 100000 in
set_option maxHeartbeats 4000000 in
theorem rdodir_any (I J : Int) (A : Option Addr) (es : List (Txt × El)) (ca : Nat) (c : CallV) (Ac : Option Addr) (cA : Nat) (w : World) (h : RT w A ca es) (hi : Inv (fullR es)) (hn : es.length ≤ 900) (hp : c.path.length < 4294967281) (hkd : c.kind = 2) :
    Calls Tryz.prog 21 #[.agg #[.int .i64 I, .int .i64 J, .slice A es.length ca], .agg (callC c Ac cA)] w (ToldRDo (doV I J (fullR es) c) I J w) := by
  have pp := fun W (hW : Below w.heap.size w W) => rplace_any I J A es ca c.path W (h.below hW) (by omega) hp
  have pt := fun W (hW : Below w.heap.size w W) => rat_any I J A es ca c.path W (h.below hW) (by omega)
  unfold ToldAt rtC at pt
  have pn := fun W (hW : Below w.heap.size w W) => rnames_any I J A es ca (upV (fullR es) c.path).2 W (h.below hW) (fun y hy => full_abe hi hy) (full_rise hi) (by omega)
  unfold ToldT at pn
  simp only [← names_full] at pn
  have hnl : (namesV (upV (fullR es) c.path).2 (fullR es)).length ≤ 100000 := by rw [names_full]; have := namesV_le (upV (fullR es) c.path).2 (ths es); rw [ths_length] at this; omega
  have pu := fun W (hW : Below w.heap.size w W) => rput_any I J A es ca c.path (⟨true, []⟩, none, 0) W (h.below hW) ⟨.inl rfl, Nat.le_refl _, Nat.zero_le _⟩ (full_rise hi) (by omega)
  unfold ToldRT rtC at pu
  simp only [List.length_nil] at pu
  have e1 := mk_up (l := fullR es) (c := c) (I := I) (J := J) (by omega)
  have e2 := mk_there (l := fullR es) (c := c) (I := I) (J := J) (by omega)
  have e3 := mk_big (I := I) (J := J) (c := c) hi (by omega)
  have e4 := mk_ok (I := I) (J := J) (c := c) hi (by omega)
  rw [show (c.kind == 2) = true by rw [hkd]; rfl] at e4
  rw [full_some] at e2 e3 e4
  obtain ⟨m, hm⟩ : ∃ m, m = putT c.path ((⟨true, []⟩, none, 0) : El) es := ⟨_, rfl⟩
  have hml : m.length ≤ 1000 := by rw [hm]; have := put_le c.path ((⟨true, []⟩, none, 0) : El) es; omega
  rw [← hm] at e4
  simp only [← hm] at pu
  have pg := fun W (hW : Below w.heap.size w W) (A' : Option Addr) (c' : Nat) (h' : RT W A' c' m) (hi' : Inv (fullR m)) => rfits_any I J A es ca A' m c' W (h.below hW) h' hi' hml
  unfold ToldRDo at pg
  obtain ⟨Q, hQ⟩ : ∃ Q, Q = doV I J (fullR es) c := ⟨_, rfl⟩
  rw [← hQ] at e1 e2 e3 e4 ⊢
  obtain ⟨F, hF⟩ : ∃ F, F = if overV I J (fullR m) then (fullR es, wrongV 16) else (fullR m, {}) := ⟨_, rfl⟩
  rw [← hF] at e4
  simp only [← hF] at pg
  obtain ⟨up, hup⟩ : ∃ up, up = upV (fullR es) c.path := ⟨_, rfl⟩
  rw [← hup] at e1 e2 e3 e4 hnl
  simp only [← hup] at pp pn
  obtain ⟨nm, hnm⟩ : ∃ nm, nm = (namesV up.2 (fullR es)).length := ⟨_, rfl⟩
  rw [← hnm] at e3 e4 hnl
  simp only [← hnm] at pn
  obtain ⟨mt, hmt⟩ : ∃ mt, mt = (getR c.path es).isSome := ⟨_, rfl⟩
  obtain ⟨zx, hzx⟩ : ∃ zx, zx = (getR c.path es).getD zeroE := ⟨_, rfl⟩
  obtain ⟨zq, hzq⟩ : ∃ zq, zq = if (getR c.path es).isSome then c.path else [] := ⟨_, rfl⟩
  simp only [← hzq] at pt
  simp only [← hzx, ← hmt] at pt
  rw [← hmt] at e2 e3 e4
  have E1 := Lib.hid e1
  have E2 := Lib.hid e2
  have E3 := Lib.hid e3
  have E4 := Lib.hid e4
  have HNl := Lib.hid hnl
  have HRT := Lib.hid h
  obtain ⟨k, hk⟩ : ∃ k, k = es.length := ⟨_, rfl⟩
  have HK := Lib.hid hk
  rw [← hk] at pp pt pn pu pg ⊢
  have PP0 := Lib.hid pp
  have PT0 := Lib.hid pt
  have PN0 := Lib.hid pn
  have PU0 := Lib.hid pu
  have PG0 := Lib.hid pg
  obtain ⟨W0, hW0⟩ : ∃ W0, W0 = (((w.alloc (.cells #[.int .i64 I, .int .i64 J, .slice A k ca] 53)).alloc (.cells (callC c Ac cA) 33)).alloc (.cells #[.int .i64 0, .int .i64 0, .slice none 0 0] 53)).alloc (.cells #[.int .i64 0, .slice none 0 0, .slice none 0 0, .int .i64 0, .bool false] 36) := ⟨_, rfl⟩
  have HX0 := Lib.hid (RxW.new hW0)
  have HW0 := Lib.hid hW0
  clear hk hW0 h hi pp pt pn pu pg hnl hml e1 e2 e3 e4 hQ hF hup hnm hmt hzx hzq hm
  go_enter Tryz.func21, Tryz.ntmps21
  go_upto_region 1 with (fail)
  rw [← HW0.out, show w.heap.size + 1 + 1 = w.heap.size + 2 from rfl, show w.heap.size + 2 + 1 = w.heap.size + 3 from rfl]
  clear HW0
  obtain ⟨c0, c1, c2, c3, c4, c5, lC⟩ := HX0.out.call
  rw [hkd] at c0
  obtain ⟨t0, t1, t2, lT⟩ := HX0.out.tree
  have PP := Lib.hid (PP0.out W0 HX0.out.bel)
  clear PP0
  go_wp2_with fail
  refine (PP.out).mono ?_
  rintro e w2 ⟨rfl, hB2⟩
  have HX2 := Lib.hid (HX0.out.below hB2)
  clear hB2 PP HX0 t0 t1 t2 lT c0 c1 c2 c3 c4 c5 lC
  by_cases hu : up.1 = 0
  case neg =>
    have d4 : (up.1 != 0) = true := by simpa using hu
    have hq := E1.out hu
    subst hq
    clear hu
    go_wp2_with fail
    obtain ⟨t0, t1, t2, lT⟩ := HX2.out.tree
    obtain ⟨⟨r0, r1, r2⟩, ⟨s0, s1, s2, s3, s4⟩, ⟨v0, v1, v2⟩, ⟨z0, z1, z2, z3, z4⟩, lR, lS⟩ := HX2.out.res
    go_wp2_with fail
    go_region_law (first
      | (go_simp; go_at_call 36; refine (rno_any up.1 _).mono ?_; rintro e wn ⟨rfl, rfl⟩)
      | fail)
    all_goals
      go_wp2_with fail
      obtain ⟨hlr, hls, hlb, _⟩ := HX2.out.end_ (a := .int .i64 I) (b := .int .i64 J) (v := .slice A k ca) (x0 := .int .i64 up.1) (x1 := .slice none 0 0) (x2 := .slice none 0 0) (x3 := .int .i64 0) (x4 := .bool false)
      exact bodyPost_ret (ret_rta rfl (by rfl) (heap_drewL (heap_alloc hlr (.cells #[.int .i64 up.1, .slice none 0 0, .slice none 0 0, .int .i64 0, .bool false] 36))) (by rfl) (heap_drewL (heap_alloc hls (.cells #[.int .i64 up.1, .slice none 0 0, .slice none 0 0, .int .i64 0, .bool false] 36)))) rfl (told_no HRT.out HK.out (hlb.alloc hlb.size (.cells #[.int .i64 up.1, .slice none 0 0, .slice none 0 0, .int .i64 0, .bool false] 36)).drew)
  case pos =>
    have d4 : (up.1 != 0) = false := by simpa using hu
    have HU := Lib.hid hu
    clear hu
    obtain ⟨c0, c1, c2, c3, c4, c5, lC⟩ := HX2.out.call
    rw [hkd] at c0
    obtain ⟨t0, t1, t2, lT⟩ := HX2.out.tree
    have PT := Lib.hid (PT0.out w2 HX2.out.bel)
    clear PT0
    go_wp2_with fail
    refine (PT.out).mono ?_
    rintro e w3 ⟨rfl, _, hB3⟩
    have HX3 := Lib.hid (HX2.out.below hB3)
    have HX4 := Lib.hid (HX3.out.alloc (.cells #[.string (bs zq), .bool zx.1.dir, .slice zx.2.1 zx.1.b.length zx.2.2] 80))
    clear hB3 PT HX2 d4 t0 t1 t2 lT c0 c1 c2 c3 c4 c5 lC
    go_upto_region 8 with (fail)
    generalize w3.alloc (.cells #[.string (bs zq), .bool zx.1.dir, .slice zx.2.1 zx.1.b.length zx.2.2] 80) = W4 at HX4 ⊢
    clear HX3
    cases mt with
    | true =>
      have hq := E2.out HU.out rfl
      subst hq
      go_wp2_with fail
      obtain ⟨t0, t1, t2, lT⟩ := HX4.out.tree
      obtain ⟨⟨r0, r1, r2⟩, ⟨s0, s1, s2, s3, s4⟩, ⟨v0, v1, v2⟩, ⟨z0, z1, z2, z3, z4⟩, lR, lS⟩ := HX4.out.res
      go_wp2_with fail
      go_region_law (first
        | (go_simp; go_at_call 36; refine (rno_any 8 _).mono ?_; rintro e wn ⟨rfl, rfl⟩)
        | fail)
      all_goals
        go_wp2_with fail
        obtain ⟨hlr, hls, hlb, _⟩ := HX4.out.end_ (a := .int .i64 I) (b := .int .i64 J) (v := .slice A k ca) (x0 := .int .i64 8) (x1 := .slice none 0 0) (x2 := .slice none 0 0) (x3 := .int .i64 0) (x4 := .bool false)
        exact bodyPost_ret (ret_rta rfl (by rfl) (heap_drewL (heap_alloc hlr (.cells #[.int .i64 8, .slice none 0 0, .slice none 0 0, .int .i64 0, .bool false] 36))) (by rfl) (heap_drewL (heap_alloc hls (.cells #[.int .i64 8, .slice none 0 0, .slice none 0 0, .int .i64 0, .bool false] 36)))) rfl (told_no HRT.out HK.out (hlb.alloc hlb.size (.cells #[.int .i64 8, .slice none 0 0, .slice none 0 0, .int .i64 0, .bool false] 36)).drew)
    | false =>
      obtain ⟨c0, c1, c2, c3, c4, c5, lC⟩ := HX4.out.call
      rw [hkd] at c0
      obtain ⟨t0, t1, t2, lT⟩ := HX4.out.tree
      have PN := Lib.hid (PN0.out W4 HX4.out.bel)
      have hnl := HNl.out
      by_cases h32 : 32 ≤ nm
      · have g2 : decide ((32 : Int) ≤ (nm : Int)) = true := by simp; omega
        have g2' : decide (32 ≤ nm) = true := by simpa using h32
        have hq := E3.out HU.out rfl h32
        subst hq
        clear h32
        go_wp2_with fail
        refine (PN.out).mono ?_
        rintro e w5 ⟨A5, c5', rfl, _, hB5⟩
        have HX5 := Lib.hid (HX4.out.below hB5)
        clear hB5 PN t0 t1 t2 lT c0 c1 c2 c3 c4 c5 lC
        go_wp2_with fail
        obtain ⟨t0, t1, t2, lT⟩ := HX5.out.tree
        obtain ⟨⟨r0, r1, r2⟩, ⟨s0, s1, s2, s3, s4⟩, ⟨v0, v1, v2⟩, ⟨z0, z1, z2, z3, z4⟩, lR, lS⟩ := HX5.out.res
        go_wp2_with fail
        go_region_law (first
          | (go_simp; go_at_call 36; refine (rno_any 17 _).mono ?_; rintro e wn ⟨rfl, rfl⟩)
          | fail)
        all_goals
          go_wp2_with fail
          obtain ⟨hlr, hls, hlb, _⟩ := HX5.out.end_ (a := .int .i64 I) (b := .int .i64 J) (v := .slice A k ca) (x0 := .int .i64 17) (x1 := .slice none 0 0) (x2 := .slice none 0 0) (x3 := .int .i64 0) (x4 := .bool false)
          exact bodyPost_ret (ret_rta rfl (by rfl) (heap_drewL (heap_alloc hlr (.cells #[.int .i64 17, .slice none 0 0, .slice none 0 0, .int .i64 0, .bool false] 36))) (by rfl) (heap_drewL (heap_alloc hls (.cells #[.int .i64 17, .slice none 0 0, .slice none 0 0, .int .i64 0, .bool false] 36)))) rfl (told_no HRT.out HK.out (hlb.alloc hlb.size (.cells #[.int .i64 17, .slice none 0 0, .slice none 0 0, .int .i64 0, .bool false] 36)).drew)
      · have g2 : decide ((32 : Int) ≤ (nm : Int)) = false := by simp; omega
        have g2' : decide (32 ≤ nm) = false := by simpa using h32
        obtain ⟨hI, hq⟩ := E4.out HU.out rfl h32
        have HI := Lib.hid hI
        have pq := PG0.out
        simp only [← hq] at pq
        have PQ0 := Lib.hid pq
        clear h32 hI hq pq PG0
        go_wp2_with fail
        refine (PN.out).mono ?_
        rintro e w5 ⟨A5, c5', rfl, _, hB5⟩
        have HX5 := Lib.hid (HX4.out.below hB5)
        clear hB5 PN HX4 t0 t1 t2 lT c0 c1 c2 c3 c4 c5 lC
        obtain ⟨c0, c1, c2, c3, c4, c5, lC⟩ := HX5.out.call
        rw [hkd] at c0
        obtain ⟨t0, t1, t2, lT⟩ := HX5.out.tree
        obtain ⟨⟨r0, r1, r2⟩, ⟨s0, s1, s2, s3, s4⟩, ⟨v0, v1, v2⟩, ⟨z0, z1, z2, z3, z4⟩, lR, lS⟩ := HX5.out.res
        have PU := Lib.hid (PU0.out w5.drew HX5.out.bel.drew)
        clear PU0
        go_wp2_with fail
        go_region_law (first
          | (go_simp; go_at_call 40; with_reducible refine (PU.out).mono ?_; rintro e w11 ⟨A11, c11, rfl, hRT11, hB11⟩; have HX11 := Lib.hid (HX5.out.drew.below hB11); obtain ⟨q0, q1, q2, qT⟩ := HX11.out.tree; have PQ := Lib.hid (PQ0.out w11 HX11.out.bel A11 c11 hRT11 HI.out); clear hB11 hRT11)
          | (go_simp; go_at_call 39; with_reducible refine (PQ.out).mono ?_; rintro e w12 ⟨A12, c12, es12, B12, cB12, C12, cC12, rfl, hRT12, hfl12, hby12, htx12, hB12⟩; have HX12 := Lib.hid (HX11.out.below hB12); have HT12 := Lib.hid (And.intro hRT12 (And.intro hfl12 (And.intro hby12 htx12))); obtain ⟨⟨r0, r1, r2⟩, ⟨s0, s1, s2, s3, s4⟩, ⟨v0, v1, v2⟩, ⟨z0, z1, z2, z3, z4⟩, lR, lS⟩ := HX12.out.res; clear hRT12 hfl12 hby12 htx12 hB12)
          | fail)
        all_goals
          go_wp2_with fail
          obtain ⟨hlr, hls, _, _⟩ := HX12.out.end_ (a := .int .i64 I) (b := .int .i64 J) (v := .slice A12 es12.length c12) (x0 := .int .i64 Q.2.code) (x1 := .slice B12 Q.2.data.length cB12) (x2 := .slice C12 Q.2.names.length cC12) (x3 := .int .i64 Q.2.size) (x4 := .bool Q.2.dir)
          exact bodyPost_ret (ret_rta rfl (by rfl) hlr (by rfl) hls) rfl (HX12.out.toldF HT12.out.1 HT12.out.2.1 HT12.out.2.2.1 HT12.out.2.2.2 rfl rfl rfl)

end Go.Proofs.YtabecceojbeomaaGreatDoor
