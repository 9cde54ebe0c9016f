/- The contracts of the parts TrMake, TrRemove, TrGet, TrTrunc, TrList, TrStat, in one text. Conditions: those told at each part. -/
import Derived.Test.YtabecceojbeomaaGreatDoorTrCalls
import Derived.Deep.Cut
import Derived.Deep.RegionHeld3
section
/- The contract of a Tree's make. Condition: the bounds on a tree's things; the path's length below 2^31. -/
namespace Go.Proofs.YtabecceojbeomaaGreatDoor
open Go.RowKit Go.Cat Go.Cat.Dir Go.Cat.Tree Go.Maps

set_option maxRecDepth 100000 in
set_option maxHeartbeats 4000000 in
theorem make_any (a : Nat) (I J : Int) (M : Nat) (es : List (Txt × El)) (c : CallV) (A : Option Addr) (cA : Nat) (w : World) (h : TrAt w a I J M es) (hA : Bytes w A c.data) (hk : KeyB es) (hp : c.path.length < 4294967281) :
    Calls Tryz.prog 49 #[.pointer (some ⟨a, 0, none⟩), .agg (callC c A cA)] w (ToldA (makeV (ths es) c) w a I J M) := by
  have hF := MF.start h hA cA
  have p1 := above_any a I J M es c.path _ hF.tr hp
  have hul := up_len (ths es) c.path
  have hsome : (getT c.path (ths es)).isSome = (getT c.path es).isSome := by rw [ths_get, Option.isSome_map]
  obtain ⟨V, hV⟩ : ∃ V, V = makeV (ths es) c := ⟨_, rfl⟩
  rw [← hV]
  unfold makeV at hV
  rw [hsome] at hV
  obtain ⟨r, hr⟩ : ∃ r, r = upV (ths es) c.path := ⟨_, rfl⟩
  rw [← hr] at hV p1 hul
  obtain ⟨rc, up⟩ := r
  simp only at hV hul
  unfold ToldUp at p1
  have p2 := fun W (hW : MF w a I J M es c A cA W) => full_any a I J M es up W hW.tr hk (by omega)
  have p3 := fun W (hW : MF w a I J M es c A cA W) => look_run_ok hW.tr.tm hp
  obtain ⟨y, hy⟩ : ∃ y, y = lookE c.path es := ⟨_, rfl⟩
  obtain ⟨mt, hmt⟩ : ∃ mt, mt = (getT c.path es).isSome := ⟨_, rfl⟩
  obtain ⟨fl, hfl⟩ : ∃ fl, fl = fullV (ths es) up := ⟨_, rfl⟩
  rw [← hy, ← hmt] at p3
  rw [← hfl] at p2
  rw [← hmt, ← hfl] at hV
  have P1 := Lib.hid p1
  have P2 := Lib.hid p2
  have P3 := Lib.hid p3
  have HV := Lib.hid hV
  have HF := Lib.hid hF
  have HN5 := Lib.hid hk.n
  have HP := Lib.hid hp
  clear h hA hp hk p1 p2 p3 hr hV hF hul hsome hy hmt hfl
  go_enter Tryz.func49, Tryz.ntmps49
  go_wp2_with fail
  refine (P1.out).mono ?_
  rintro e W ⟨rfl, hB2⟩
  have hF2 := HF.out.below hB2
  clear hB2 P1 HF
  obtain ⟨⟨k0, k1, k2, k3, k4, k5⟩, ⟨r0, r1, r2, r3, r4⟩, ⟨q0, q1, q2, q3, q4⟩, c2⟩ := hF2.facts
  have HF2 := Lib.hid hF2
  clear hF2
  by_cases h0 : rc = 0
  · have t0 : (rc != 0) = false := by rw [h0]; rfl
    rw [if_pos h0] at HV
    have hFa := fun o => HF2.out.below ((Below.refl _ W).alloc (Nat.le_refl _) o)
    have look1 := P3.out W.drew (HF2.out.below (Below.refl _ _).drew)
    have look2 := fun o => P3.out (W.alloc o).drew ((hFa o).below (Below.refl _ _).drew)
    have a2 : ∀ o, (W.alloc o).cell? ⟨a, 2, none⟩ = some (.map (some M)) := fun o => (hFa o).facts.2.2.2
    have a1 : ∀ o, (W.alloc o).cell? ⟨w.heap.size, 1, none⟩ = some (.string (bs c.path)) := fun o => (hFa o).facts.1.2.1
    have HFa := Lib.hid hFa
    clear h0 P3 hFa
    go_wp2_with fail
    go_region_held3 (fun U => U.cell? ⟨a, 2, none⟩ = some (.map (some M)) ∧ U.cell? ⟨w.heap.size, 1, none⟩ = some (.string (bs c.path)))
      (first | exact ⟨c2, k1⟩ | exact ⟨a2 _, a1 _⟩)
      (fail)
    all_goals
      rename_i FS
      clear FS
      have hF3 := HFa.out (.cells #[.bool y.1.dir, .slice y.2.1 y.1.b.length y.2.2] 60)
      clear look1 look2 a2 a1 HFa k0 k1 k2 k3 k4 k5 r0 r1 r2 r3 r4 q0 q1 q2 q3 q4 c2
      generalize W.alloc (.cells #[.bool y.1.dir, .slice y.2.1 y.1.b.length y.2.2] 60) = W3 at hF3 ⊢
      have hF3 := hF3.below (Below.refl _ _).drew
      generalize W3.drew = W4 at hF3 ⊢
      obtain ⟨⟨k0, k1, k2, k3, k4, k5⟩, ⟨r0, r1, r2, r3, r4⟩, ⟨q0, q1, q2, q3, q4⟩, c2⟩ := hF3.facts
      have HF3 := Lib.hid hF3
      clear hF3

      cases mt with
      | true =>
        have hl : V = (ths es, wrongV 8) := HV.out
        have HL := Lib.hid hl
        clear hl P2
        have P9 := Lib.hid (wrong_any 8 W4)
        go_wp2_with fail
        refine (P9.out).mono ?_
        rintro e w9 ⟨rfl, hB9⟩
        have hF9 := HF3.out.below hB9
        clear k0 k1 k2 k3 k4 k5 r0 r1 r2 r3 r4 q0 q1 q2 q3 q4 c2 hB9 
        obtain ⟨⟨k0, k1, k2, k3, k4, k5⟩, ⟨r0, r1, r2, r3, r4⟩, ⟨q0, q1, q2, q3, q4⟩, c2⟩ := hF9.facts
        have HF9 := Lib.hid hF9
        clear hF9
        go_wp2_with fail
        refine bodyPost_ret (ret_ans rfl (by rfl) (set5B _ _ _ _ _ HF9.out.rb)) rfl ?_
        rw [HL.out]
        exact HF9.out.no 8

      | false =>
        rw [if_neg (by simp)] at HV
        have P4 := Lib.hid (P2.out W4 HF3.out)
        clear P2
        go_wp2_with fail
        refine (P4.out).mono ?_
        rintro e w5 ⟨rfl, hB5⟩
        have hF5 := HF3.out.below hB5
        clear hB5 k0 k1 k2 k3 k4 k5 r0 r1 r2 r3 r4 q0 q1 q2 q3 q4 c2
        obtain ⟨⟨k0, k1, k2, k3, k4, k5⟩, ⟨r0, r1, r2, r3, r4⟩, ⟨q0, q1, q2, q3, q4⟩, c2⟩ := hF5.facts
        have HF5 := Lib.hid hF5
        clear hF5

        cases fl with
        | true =>
          have hl : V = (ths es, wrongV 17) := HV.out
          have HL := Lib.hid hl
          clear hl
          have P9 := Lib.hid (wrong_any 17 w5)
          go_wp2_with fail
          refine (P9.out).mono ?_
          rintro e w9 ⟨rfl, hB9⟩
          have hF9 := HF5.out.below hB9
          clear k0 k1 k2 k3 k4 k5 r0 r1 r2 r3 r4 q0 q1 q2 q3 q4 c2 hB9 
          obtain ⟨⟨k0, k1, k2, k3, k4, k5⟩, ⟨r0, r1, r2, r3, r4⟩, ⟨q0, q1, q2, q3, q4⟩, c2⟩ := hF9.facts
          have HF9 := Lib.hid hF9
          clear hF9
          go_wp2_with fail
          refine bodyPost_ret (ret_ans rfl (by rfl) (set5B _ _ _ _ _ HF9.out.rb)) rfl ?_
          rw [HL.out]
          exact HF9.out.no 17

        | false =>
          have hl : V = (putT c.path ⟨c.kind == 2, []⟩ (ths es), {}) := HV.out
          have HL := Lib.hid hl
          obtain ⟨w6, hrun, hT6, ht6⟩ := (HF5.out.tr.tm.below (Below.refl _ _).drew).store Tryz.underlying9 Tryz.underlying61 (by have := HN5.out; unfold maxLen; omega) (p := c.path) (by have := HP.out; unfold maxLen; omega) (x := (⟨c.kind == 2, []⟩, none, 0)) ⟨.inl rfl, Nat.le_refl _, Nat.zero_le _⟩
          have hrun : (Instr.mapUpdate 61 (.map (some M)) (.string (bs c.path)) (.agg #[.bool (c.kind == 2), .slice none 0 0])).run Tryz.prog w5.drew = .ok () w6 := hrun
          have hF6 := (HF5.out.below (Below.refl _ _).drew).turned hT6 ht6
          obtain ⟨⟨l0, l1, l2, l3, l4, l5⟩, ⟨s0, s1, s2, s3, s4⟩, ⟨m0, m1, m2, m3, m4⟩, d2⟩ := hF6.facts
          have HF6 := Lib.hid hF6
          clear hl hT6 ht6 hF6
          go_wp2_with fail
          go_region_held3 (fun U => U.cell? ⟨a, 2, none⟩ = some (.map (some M)) ∧ U.cell? ⟨w.heap.size, 1, none⟩ = some (.string (bs c.path)) ∧ U.cell? ⟨w.heap.size, 0, none⟩ = some (.int .i64 c.kind))
            (first | exact ⟨c2, k1, k0⟩ | exact ⟨d2, l1, l0⟩)
            (fail)
          clear hrun k0 k1 k2 k3 k4 k5 r0 r1 r2 r3 r4 q0 q1 q2 q3 q4 c2
          go_wp2_with fail
          refine bodyPost_ret (ret_ans rfl (by rfl) (set5B _ _ _ _ _ HF6.out.rb)) rfl ?_
          rw [HL.out]
          exact HF6.out.fin {} (.inl rfl) (.inl rfl) (ths_put _ _ _)
  · have t0 : (rc != 0) = true := by simpa using h0
    have hl : V = (ths es, wrongV rc) := by rw [HV.out, if_neg h0]
    have HL := Lib.hid hl
    clear h0 hl P2 P3
    have P9 := Lib.hid (wrong_any rc W)
    go_wp2_with fail
    refine (P9.out).mono ?_
    rintro e w9 ⟨rfl, hB9⟩
    have hF9 := HF2.out.below hB9
    clear k0 k1 k2 k3 k4 k5 r0 r1 r2 r3 r4 q0 q1 q2 q3 q4 c2 hB9 
    obtain ⟨⟨k0, k1, k2, k3, k4, k5⟩, ⟨r0, r1, r2, r3, r4⟩, ⟨q0, q1, q2, q3, q4⟩, c2⟩ := hF9.facts
    have HF9 := Lib.hid hF9
    clear hF9
    go_wp2_with fail
    refine bodyPost_ret (ret_ans rfl (by rfl) (set5B _ _ _ _ _ HF9.out.rb)) rfl ?_
    rw [HL.out]
    exact HF9.out.no rc
end Go.Proofs.YtabecceojbeomaaGreatDoor
end

section
/- The contract of a Tree's remove. Condition: the bounds on a tree's things; the path's length below 2^31. -/
namespace Go.Proofs.YtabecceojbeomaaGreatDoor
open Go.RowKit Go.Cat Go.Cat.Dir Go.Cat.Tree Go.Maps

set_option maxRecDepth 100000 in
set_option maxHeartbeats 4000000 in
theorem remove_any (a : Nat) (I J : Int) (M : Nat) (es : List (Txt × El)) (c : CallV) (A : Option Addr) (cA : Nat) (w : World) (h : TrAt w a I J M es) (hA : Bytes w A c.data) (hk : KeyB es) (hkind : c.kind = 3 ∨ c.kind = 4) (hp : c.path.length < 4294967281) :
    Calls Tryz.prog 50 #[.pointer (some ⟨a, 0, none⟩), .agg (callC c A cA)] w (ToldA (removeV (ths es) c) w a I J M) := by
  have hF := MF.start h hA cA
  obtain ⟨m, hm⟩ := hF.tr.gl
  have p1 := dabove_any c.path m _ hp hm
  have p2 := fun W (hW : MF w a I J M es c A cA W) => find_any a I J M es c.path W hW.tr hp
  have p3 := fun W (hW : MF w a I J M es c A cA W) => names_any a I J M es c.path W hW.tr hk.n hk.k
  obtain ⟨V, hV⟩ : ∃ V, V = removeV (ths es) c := ⟨_, rfl⟩
  rw [← hV]
  unfold removeV at hV
  obtain ⟨r, hr⟩ : ∃ r, r = findV (ths es) c.path := ⟨_, rfl⟩
  rw [← hr] at hV p2
  unfold ToldT at p3
  obtain ⟨n, hn⟩ : ∃ n, n = (namesV c.path (ths es)).length := ⟨_, rfl⟩
  rw [← hn] at hV p3
  obtain ⟨rc, rx⟩ := r
  simp only at hV p2
  unfold ToldAb at p1
  obtain ⟨ac, hac⟩ : ∃ ac, ac = abe c.path := ⟨_, rfl⟩
  rw [← hac] at p1 hV
  have P1 := Lib.hid p1
  have P2 := Lib.hid p2
  have P3 := Lib.hid p3
  have HV := Lib.hid hV
  have HF := Lib.hid hF
  have HP := Lib.hid hp
  clear h hA hp hk p1 p2 p3 hr hV hF hn hm hac
  go_enter Tryz.func50, Tryz.ntmps50
  go_wp2_with fail
  refine (P1.out).mono ?_
  rintro e W ⟨rfl, hB2⟩
  have hF2 := HF.out.below hB2
  clear hB2 P1 HF
  obtain ⟨⟨k0, k1, k2, k3, k4, k5⟩, ⟨r0, r1, r2, r3, r4⟩, ⟨q0, q1, q2, q3, q4⟩, c2⟩ := hF2.facts
  have HF2 := Lib.hid hF2
  clear hF2
  by_cases ha : ac = 0
  · have t0 : (ac != 0) = false := by rw [ha]; rfl
    rw [if_pos ha] at HV
    have P4 := Lib.hid (P2.out W HF2.out)
    clear ha P2
    go_wp2_with fail
    refine (P4.out).mono ?_
    rintro e w2 ⟨x, rfl, hx, _, hB2⟩
    have HX := Lib.hid hx
    have hF3 := (HF2.out.below hB2).below ((Below.refl _ w2).alloc (Nat.le_refl _) (.cells #[.bool x.1.dir, .slice x.2.1 x.1.b.length x.2.2] 60))
    have hN := heap_alloc_new w2 (.cells #[.bool x.1.dir, .slice x.2.1 x.1.b.length x.2.2] 60)
    unfold elV
    clear hx hB2 P4 k0 k1 k2 k3 k4 k5 r0 r1 r2 r3 r4 q0 q1 q2 q3 q4 c2
    go_upto_region 5 with (fail)
    generalize w2.alloc (.cells #[.bool x.1.dir, .slice x.2.1 x.1.b.length x.2.2] 60) = W3 at hF3 hN ⊢
    generalize w2.heap.size = N at hN ⊢
    have n0 : W3.cell? ⟨N, 0, none⟩ = some (.bool x.1.dir) := cell_of_row _ _ 0 _ _ _ hN
    obtain ⟨⟨k0, k1, k2, k3, k4, k5⟩, ⟨r0, r1, r2, r3, r4⟩, ⟨q0, q1, q2, q3, q4⟩, c2⟩ := hF3.facts
    have HF3 := Lib.hid hF3
    clear hF3
    clear hN
    by_cases h0 : rc = 0
    · have t1 : (rc != 0) = false := by rw [h0]; rfl
      rw [if_pos h0, ← HX.out] at HV
      rcases hkind with hkd | hkd
      · rw [hkd] at k0 HV
        cases hd : x.1.dir with
        | true =>
          have hl : V = (ths es, wrongV 15) := by rw [HV.out, hd]; rfl
          have HL := Lib.hid hl
          rw [hd] at n0
          clear hl hkd hd h0 P3
          have P9 := Lib.hid (wrong_any 15 W3)
          go_wp2_with fail
          refine (P9.out).mono ?_
          rintro e w9 ⟨rfl, hB9⟩
          have hF9 := HF3.out.below hB9
          clear k0 k1 k2 k3 k4 k5 r0 r1 r2 r3 r4 q0 q1 q2 q3 q4 c2 hB9 n0
          obtain ⟨⟨k0, k1, k2, k3, k4, k5⟩, ⟨r0, r1, r2, r3, r4⟩, ⟨q0, q1, q2, q3, q4⟩, c2⟩ := hF9.facts
          have HF9 := Lib.hid hF9
          clear hF9
          go_wp2_with fail
          refine bodyPost_ret (ret_ans rfl (by rfl) (set5B _ _ _ _ _ HF9.out.rb)) rfl ?_
          rw [HL.out]
          exact HF9.out.no 15

        | false =>
          have HV2 : Hid (V = if 0 < n then (ths es, wrongV 19) else (delT c.path (ths es), {})) := by show _ = _; rw [HV.out, hd]; rfl
          rw [hd] at n0
          clear hkd hd h0
          have P5 := Lib.hid (P3.out W3 HF3.out)
          clear P3
          go_wp2_with fail
          refine (P5.out).mono ?_
          rintro e w5 ⟨B, cB, rfl, _, hB5⟩
          have hF5 := HF3.out.below hB5
          clear hB5 n0 k0 k1 k2 k3 k4 k5 r0 r1 r2 r3 r4 q0 q1 q2 q3 q4 c2
          obtain ⟨⟨k0, k1, k2, k3, k4, k5⟩, ⟨r0, r1, r2, r3, r4⟩, ⟨q0, q1, q2, q3, q4⟩, c2⟩ := hF5.facts
          have HF5 := Lib.hid hF5
          clear hF5

          by_cases hz : 0 < n
          · have t2 : decide (0 < n) = true := by simpa using hz
            have hl : V = (ths es, wrongV 19) := by rw [HV2.out, if_pos hz]
            have HL := Lib.hid hl
            clear hl hz
            have P9 := Lib.hid (wrong_any 19 w5)
            go_wp2_with fail
            refine (P9.out).mono ?_
            rintro e w9 ⟨rfl, hB9⟩
            have hF9 := HF5.out.below hB9
            clear k0 k1 k2 k3 k4 k5 r0 r1 r2 r3 r4 q0 q1 q2 q3 q4 c2 hB9 
            obtain ⟨⟨k0, k1, k2, k3, k4, k5⟩, ⟨r0, r1, r2, r3, r4⟩, ⟨q0, q1, q2, q3, q4⟩, c2⟩ := hF9.facts
            have HF9 := Lib.hid hF9
            clear hF9
            go_wp2_with fail
            refine bodyPost_ret (ret_ans rfl (by rfl) (set5B _ _ _ _ _ HF9.out.rb)) rfl ?_
            rw [HL.out]
            exact HF9.out.no 19

          · have t2 : decide (0 < n) = false := by simpa using hz
            have hl : V = (delT c.path (ths es), {}) := by rw [HV2.out, if_neg hz]
            have HL := Lib.hid hl
            obtain ⟨w6, hrun, hT6, ht6⟩ := (HF5.out.tr.tm.below (Below.refl _ _).drew).drop Tryz.underlying9 Tryz.underlying61 (p := c.path) (by have := HP.out; unfold maxLen; omega) 0
            have hrun : (Builtin.delete_ #[61, 9] 0 #[.map (some M), .string (bs c.path)]).run Tryz.prog w5.drew = .ok (.tuple #[]) w6 := hrun
            have hF6 := (HF5.out.below (Below.refl _ _).drew).turned hT6 ht6
            obtain ⟨⟨l0, l1, l2, l3, l4, l5⟩, ⟨s0, s1, s2, s3, s4⟩, ⟨m0, m1, m2, m3, m4⟩, d2⟩ := hF6.facts
            have HF6 := Lib.hid hF6
            have HRun := Lib.hid hrun
            clear hl hT6 ht6 hF6 hz
            go_wp2_with fail
            go_region_held3 (fun U => U.cell? ⟨a, 2, none⟩ = some (.map (some M)) ∧ U.cell? ⟨w.heap.size, 1, none⟩ = some (.string (bs c.path)))
              (first | exact ⟨c2, k1⟩ | exact ⟨d2, l1⟩)
              (first | (refine step_delete rfl _ _ _ rfl HRun.out rfl rfl ?_))
            clear k0 k1 k2 k3 k4 k5 r0 r1 r2 r3 r4 q0 q1 q2 q3 q4 c2
            go_wp2_with fail
            refine bodyPost_ret (ret_ans rfl (by rfl) (set5B _ _ _ _ _ HF6.out.rb)) rfl ?_
            rw [HL.out]
            exact HF6.out.fin {} (.inl rfl) (.inl rfl) (ths_del _ _)

      · rw [hkd] at k0 HV
        cases hd : x.1.dir with
        | false =>
          have hl : V = (ths es, wrongV 14) := by rw [HV.out, hd]; rfl
          have HL := Lib.hid hl
          rw [hd] at n0
          clear hl hkd hd h0 P3
          have P9 := Lib.hid (wrong_any 14 W3)
          go_wp2_with fail
          refine (P9.out).mono ?_
          rintro e w9 ⟨rfl, hB9⟩
          have hF9 := HF3.out.below hB9
          clear k0 k1 k2 k3 k4 k5 r0 r1 r2 r3 r4 q0 q1 q2 q3 q4 c2 hB9 n0
          obtain ⟨⟨k0, k1, k2, k3, k4, k5⟩, ⟨r0, r1, r2, r3, r4⟩, ⟨q0, q1, q2, q3, q4⟩, c2⟩ := hF9.facts
          have HF9 := Lib.hid hF9
          clear hF9
          go_wp2_with fail
          refine bodyPost_ret (ret_ans rfl (by rfl) (set5B _ _ _ _ _ HF9.out.rb)) rfl ?_
          rw [HL.out]
          exact HF9.out.no 14

        | true =>
          have HV2 : Hid (V = if 0 < n then (ths es, wrongV 19) else (delT c.path (ths es), {})) := by show _ = _; rw [HV.out, hd]; rfl
          rw [hd] at n0
          clear hkd hd h0
          have P5 := Lib.hid (P3.out W3 HF3.out)
          clear P3
          go_wp2_with fail
          refine (P5.out).mono ?_
          rintro e w5 ⟨B, cB, rfl, _, hB5⟩
          have hF5 := HF3.out.below hB5
          clear hB5 n0 k0 k1 k2 k3 k4 k5 r0 r1 r2 r3 r4 q0 q1 q2 q3 q4 c2
          obtain ⟨⟨k0, k1, k2, k3, k4, k5⟩, ⟨r0, r1, r2, r3, r4⟩, ⟨q0, q1, q2, q3, q4⟩, c2⟩ := hF5.facts
          have HF5 := Lib.hid hF5
          clear hF5

          by_cases hz : 0 < n
          · have t2 : decide (0 < n) = true := by simpa using hz
            have hl : V = (ths es, wrongV 19) := by rw [HV2.out, if_pos hz]
            have HL := Lib.hid hl
            clear hl hz
            have P9 := Lib.hid (wrong_any 19 w5)
            go_wp2_with fail
            refine (P9.out).mono ?_
            rintro e w9 ⟨rfl, hB9⟩
            have hF9 := HF5.out.below hB9
            clear k0 k1 k2 k3 k4 k5 r0 r1 r2 r3 r4 q0 q1 q2 q3 q4 c2 hB9 
            obtain ⟨⟨k0, k1, k2, k3, k4, k5⟩, ⟨r0, r1, r2, r3, r4⟩, ⟨q0, q1, q2, q3, q4⟩, c2⟩ := hF9.facts
            have HF9 := Lib.hid hF9
            clear hF9
            go_wp2_with fail
            refine bodyPost_ret (ret_ans rfl (by rfl) (set5B _ _ _ _ _ HF9.out.rb)) rfl ?_
            rw [HL.out]
            exact HF9.out.no 19

          · have t2 : decide (0 < n) = false := by simpa using hz
            have hl : V = (delT c.path (ths es), {}) := by rw [HV2.out, if_neg hz]
            have HL := Lib.hid hl
            obtain ⟨w6, hrun, hT6, ht6⟩ := (HF5.out.tr.tm.below (Below.refl _ _).drew).drop Tryz.underlying9 Tryz.underlying61 (p := c.path) (by have := HP.out; unfold maxLen; omega) 0
            have hrun : (Builtin.delete_ #[61, 9] 0 #[.map (some M), .string (bs c.path)]).run Tryz.prog w5.drew = .ok (.tuple #[]) w6 := hrun
            have hF6 := (HF5.out.below (Below.refl _ _).drew).turned hT6 ht6
            obtain ⟨⟨l0, l1, l2, l3, l4, l5⟩, ⟨s0, s1, s2, s3, s4⟩, ⟨m0, m1, m2, m3, m4⟩, d2⟩ := hF6.facts
            have HF6 := Lib.hid hF6
            have HRun := Lib.hid hrun
            clear hl hT6 ht6 hF6 hz
            go_wp2_with fail
            go_region_held3 (fun U => U.cell? ⟨a, 2, none⟩ = some (.map (some M)) ∧ U.cell? ⟨w.heap.size, 1, none⟩ = some (.string (bs c.path)))
              (first | exact ⟨c2, k1⟩ | exact ⟨d2, l1⟩)
              (first | (refine step_delete rfl _ _ _ rfl HRun.out rfl rfl ?_))
            clear k0 k1 k2 k3 k4 k5 r0 r1 r2 r3 r4 q0 q1 q2 q3 q4 c2
            go_wp2_with fail
            refine bodyPost_ret (ret_ans rfl (by rfl) (set5B _ _ _ _ _ HF6.out.rb)) rfl ?_
            rw [HL.out]
            exact HF6.out.fin {} (.inl rfl) (.inl rfl) (ths_del _ _)
    · have t1 : (rc != 0) = true := by simpa using h0
      have hl : V = (ths es, wrongV rc) := by rw [HV.out, if_neg h0]
      have HL := Lib.hid hl
      clear h0 hl P3 hkind
      have P9 := Lib.hid (wrong_any rc W3)
      go_wp2_with fail
      refine (P9.out).mono ?_
      rintro e w9 ⟨rfl, hB9⟩
      have hF9 := HF3.out.below hB9
      clear k0 k1 k2 k3 k4 k5 r0 r1 r2 r3 r4 q0 q1 q2 q3 q4 c2 hB9 n0
      obtain ⟨⟨k0, k1, k2, k3, k4, k5⟩, ⟨r0, r1, r2, r3, r4⟩, ⟨q0, q1, q2, q3, q4⟩, c2⟩ := hF9.facts
      have HF9 := Lib.hid hF9
      clear hF9
      go_wp2_with fail
      refine bodyPost_ret (ret_ans rfl (by rfl) (set5B _ _ _ _ _ HF9.out.rb)) rfl ?_
      rw [HL.out]
      exact HF9.out.no rc
  · have t0 : (ac != 0) = true := by simpa using ha
    have hl : V = (ths es, wrongV ac) := by rw [HV.out, if_neg ha]
    have HL := Lib.hid hl
    clear ha hl P2 P3 hkind
    have P9 := Lib.hid (wrong_any ac W)
    go_wp2_with fail
    refine (P9.out).mono ?_
    rintro e w9 ⟨rfl, hB9⟩
    have hF9 := HF2.out.below hB9
    clear k0 k1 k2 k3 k4 k5 r0 r1 r2 r3 r4 q0 q1 q2 q3 q4 c2 hB9 
    obtain ⟨⟨k0, k1, k2, k3, k4, k5⟩, ⟨r0, r1, r2, r3, r4⟩, ⟨q0, q1, q2, q3, q4⟩, c2⟩ := hF9.facts
    have HF9 := Lib.hid hF9
    clear hF9
    go_wp2_with fail
    refine bodyPost_ret (ret_ans rfl (by rfl) (set5B _ _ _ _ _ HF9.out.rb)) rfl ?_
    rw [HL.out]
    exact HF9.out.no ac
end Go.Proofs.YtabecceojbeomaaGreatDoor
end

section
/- The contract of a Tree's get. Condition: a tree's things stand in directories; the path's length below 2^31. -/
namespace Go.Proofs.YtabecceojbeomaaGreatDoor
open Go.RowKit Go.Cat Go.Cat.Dir Go.Cat.Tree Go.Maps

set_option maxRecDepth 100000 in
set_option maxHeartbeats 4000000 in
theorem get_any (a : Nat) (I J : Int) (M : Nat) (es : List (Txt × El)) (c : CallV) (A : Option Addr) (cA : Nat) (w : World) (h : TrAt w a I J M es) (hA : Bytes w A c.data) (hi : Inv (ths es)) (hn : es.length ≤ 100000) (hp : c.path.length < 4294967281) :
    Calls Tryz.prog 53 #[.pointer (some ⟨a, 0, none⟩), .agg (callC c A cA)] w (ToldA (getV (ths es) c) w a I J M) := by
  have hF := MF.start h hA cA
  have p1 := file_any a I J M es c.path _ hF.tr hp
  have hfi : ∀ {x : Th}, (fileV (ths es) c.path).1 = 0 → x = (fileV (ths es) c.path).2 → x.b.length ≤ 512 := fun {x} h1 h2 => by rw [h2]; exact hi.fit _ (get_mem (hi.file_ok h1).1)
  obtain ⟨V, hV⟩ : ∃ V, V = getV (ths es) c := ⟨_, rfl⟩
  rw [← hV]
  unfold getV at hV
  obtain ⟨r, hr⟩ : ∃ r, r = fileV (ths es) c.path := ⟨_, rfl⟩
  rw [← hr] at hV p1 hfi
  obtain ⟨rc, rx⟩ := r
  simp only at hV p1 hfi
  have P1 := Lib.hid p1
  have HV := Lib.hid hV
  have HF := Lib.hid hF
  have HN5 := Lib.hid hn
  have HP := Lib.hid hp
  have HFi : Hid (∀ x : Th, rc = 0 → x = rx → x.b.length ≤ 512) := fun x => hfi
  clear h hA p1 hr hV hF hfi hn hi hp
  by_cases h1 : c.off < 0
  · have t9 : decide (c.off < 0) = true := by simpa using h1
    have hl : V = (ths es, wrongV 1) := by rw [HV.out, if_pos (.inl h1)]
    have HL := Lib.hid hl
    have P9 := Lib.hid (wrong_any 1 ((w.alloc (.cells (callC c A cA) 33)).alloc (.cells (ansC 0 none 0 0 none 0 0 0 false) 36)))
    clear hl P1
    go_enter Tryz.func53, Tryz.ntmps53
    go_wp2_with fail
    refine (P9.out).mono ?_
    rintro e w9 ⟨rfl, hB9⟩
    have hF9 := HF.out.below hB9
    clear hB9
    obtain ⟨⟨k0, k1, k2, k3, k4, k5⟩, ⟨r0, r1, r2, r3, r4⟩, ⟨q0, q1, q2, q3, q4⟩, c2⟩ := hF9.facts
    have HF9 := Lib.hid hF9
    clear hF9
    go_wp2_with fail
    refine bodyPost_ret (ret_ans rfl (by rfl) (set5B _ _ _ _ _ HF9.out.rb)) rfl ?_
    rw [HL.out]
    exact HF9.out.no 1
  · have t9 : decide (c.off < 0) = false := by simpa using h1
    by_cases h2 : c.n < 0
    · have t8 : decide (c.n < 0) = true := by simpa using h2
      have hl : V = (ths es, wrongV 1) := by rw [HV.out, if_pos (.inr (.inl h2))]
      have HL := Lib.hid hl
      have P9 := Lib.hid (wrong_any 1 ((w.alloc (.cells (callC c A cA) 33)).alloc (.cells (ansC 0 none 0 0 none 0 0 0 false) 36)))
      clear hl P1
      go_enter Tryz.func53, Tryz.ntmps53
      go_wp2_with fail
      refine (P9.out).mono ?_
      rintro e w9 ⟨rfl, hB9⟩
      have hF9 := HF.out.below hB9
      clear hB9
      obtain ⟨⟨k0, k1, k2, k3, k4, k5⟩, ⟨r0, r1, r2, r3, r4⟩, ⟨q0, q1, q2, q3, q4⟩, c2⟩ := hF9.facts
      have HF9 := Lib.hid hF9
      clear hF9
      go_wp2_with fail
      refine bodyPost_ret (ret_ans rfl (by rfl) (set5B _ _ _ _ _ HF9.out.rb)) rfl ?_
      rw [HL.out]
      exact HF9.out.no 1
    · have t8 : decide (c.n < 0) = false := by simpa using h2
      by_cases h3 : 128 < c.n
      · have t7 : decide ((128 : Int) < c.n) = true := by simpa using h3
        have hl : V = (ths es, wrongV 1) := by rw [HV.out, if_pos (.inr (.inr h3))]
        have HL := Lib.hid hl
        have P9 := Lib.hid (wrong_any 1 ((w.alloc (.cells (callC c A cA) 33)).alloc (.cells (ansC 0 none 0 0 none 0 0 0 false) 36)))
        clear hl P1
        go_enter Tryz.func53, Tryz.ntmps53
        go_wp2_with fail
        refine (P9.out).mono ?_
        rintro e w9 ⟨rfl, hB9⟩
        have hF9 := HF.out.below hB9
        clear hB9
        obtain ⟨⟨k0, k1, k2, k3, k4, k5⟩, ⟨r0, r1, r2, r3, r4⟩, ⟨q0, q1, q2, q3, q4⟩, c2⟩ := hF9.facts
        have HF9 := Lib.hid hF9
        clear hF9
        go_wp2_with fail
        refine bodyPost_ret (ret_ans rfl (by rfl) (set5B _ _ _ _ _ HF9.out.rb)) rfl ?_
        rw [HL.out]
        exact HF9.out.no 1
      · have t7 : decide ((128 : Int) < c.n) = false := by simpa using h3
        rw [if_neg (by omega)] at HV
        obtain ⟨o, ho⟩ : ∃ o : Nat, c.off = o := ⟨c.off.toNat, by omega⟩
        obtain ⟨n, hn⟩ : ∃ n : Nat, c.n = n := ⟨c.n.toNat, by omega⟩
        have hn8 : n ≤ 128 := by omega
        have HO := Lib.hid ho
        have HNn := Lib.hid hn
        rw [ho, hn] at HV
        clear ho hn h1 h2 h3
        go_enter Tryz.func53, Tryz.ntmps53
        go_wp2_with fail
        refine (P1.out).mono ?_
        rintro e w2 ⟨x, rfl, hx, hel2, hB2⟩
        have HX := Lib.hid hx
        have hF2 := (HF.out.below hB2).below ((Below.refl _ w2).alloc (Nat.le_refl _) (.cells #[.bool x.1.dir, .slice x.2.1 x.1.b.length x.2.2] 60))
        have hN := heap_alloc_new w2 (.cells #[.bool x.1.dir, .slice x.2.1 x.1.b.length x.2.2] 60)
        have hel := el_below hel2 ((Below.refl _ w2).alloc (Nat.le_refl _) (.cells #[.bool x.1.dir, .slice x.2.1 x.1.b.length x.2.2] 60))
        unfold elV
        clear hx hB2 hel2 P1 HF
        go_upto_region 4 with (fail)
        generalize w2.alloc (.cells #[.bool x.1.dir, .slice x.2.1 x.1.b.length x.2.2] 60) = W at hF2 hN hel ⊢
        generalize w2.heap.size = N at hN ⊢
        have n0 : W.cell? ⟨N, 0, none⟩ = some (.bool x.1.dir) := cell_of_row _ _ 0 _ _ _ hN
        have n1 : W.cell? ⟨N, 1, none⟩ = some (.slice x.2.1 x.1.b.length x.2.2) := cell_of_row _ _ 1 _ _ _ hN
        clear t9 t8 t7
        obtain ⟨⟨k0, k1, k2, k3, k4, k5⟩, ⟨r0, r1, r2, r3, r4⟩, ⟨q0, q1, q2, q3, q4⟩, c2⟩ := hF2.facts
        have HF2 := Lib.hid hF2
        clear hF2
        rw [HO.out] at k3
        rw [HNn.out] at k4
        have HE := Lib.hid hel
        clear hN hel
        by_cases h0 : rc = 0
        · have t0 : (rc != 0) = false := by rw [h0]; rfl
          rw [if_pos h0, ← HX.out] at HV
          have hbl := HFi.out x.1 h0 HX.out
          obtain ⟨L, hL⟩ : ∃ L, L = x.1.b.length := ⟨_, rfl⟩
          rw [← hL] at HV hbl n1
          by_cases h2 : L < o
          · have t2 : decide (L < o) = true := by simpa using h2
            have hl : V = (ths es, wrongV 20) := by rw [HV.out, if_pos (by omega)]
            have HL := Lib.hid hl
            clear h0 hl h2 hL
            have P9 := Lib.hid (wrong_any 20 W)
            go_wp2_with fail
            refine (P9.out).mono ?_
            rintro e w9 ⟨rfl, hB9⟩
            have hF9 := HF2.out.below hB9
            clear k0 k1 k2 k3 k4 k5 r0 r1 r2 r3 r4 q0 q1 q2 q3 q4 c2 hB9 n0 n1
            obtain ⟨⟨k0, k1, k2, k3, k4, k5⟩, ⟨r0, r1, r2, r3, r4⟩, ⟨q0, q1, q2, q3, q4⟩, c2⟩ := hF9.facts
            have HF9 := Lib.hid hF9
            clear hF9
            go_wp2_with fail
            refine bodyPost_ret (ret_ans rfl (by rfl) (set5B _ _ _ _ _ HF9.out.rb)) rfl ?_
            rw [HL.out]
            exact HF9.out.no 20
          · have t2 : decide (L < o) = false := by simpa using h2
            have ho1 : o ≤ L := by omega
            have hw64 : IntKind.i64.wrap ((o : Int) + (n : Int)) = (o : Int) + (n : Int) := IntWalk.i64_in _ (by omega)
            obtain ⟨hh, hhh⟩ : ∃ hh, hh = min (o + n) L := ⟨_, rfl⟩
            have hmin : min ((o : Int) + (n : Int)) (L : Int) = (hh : Int) := by omega
            have hsl : ∀ U, (Instr.slice 23 (.slice x.2.1 L x.2.2) (some (.int .i64 (o : Int))) (some (.int .i64 (hh : Int))) none).run Tryz.prog U = .ok (.slice (cutA x.2.1 x.2.2 o) (hh - o) (x.2.2 - o)) U := run_cut2 (by omega) (by have := HE.out.2; omega)
            have hd8 : (x.1.b.drop o).take (hh - o) = (x.1.b.drop o).take n := by
              rw [List.take_eq_take_iff, List.length_drop, ← hL]; omega
            have hbd := bytes_take (bytes_cut HE.out.1 (cap := x.2.2) (lo := o) HE.out.2.1) (hh - o)
            rw [hd8] at hbd
            have hln : hh - o = ((x.1.b.drop o).take n).length := by rw [List.length_take, List.length_drop, ← hL]; omega
            obtain ⟨d, hd⟩ : ∃ d, d = (x.1.b.drop o).take n := ⟨_, rfl⟩
            rw [← hd] at hbd hln
            have hl : V = (ths es, { data := d }) := by rw [HV.out, if_neg (by omega), hd]; rfl
            have HL := Lib.hid hl
            have P4 := Lib.hid (clone_any (cutA x.2.1 x.2.2 o) (hh - o) (x.2.2 - o) d W hbd hln (by omega))
            clear h0 hl h2 hL hhh hd8 hd hbd hln
            go_wp2_with fail
            refine (P4.out).mono ?_
            rintro e w5 ⟨B, cB, rfl, ho5, hB5⟩
            have hF5 := HF2.out.below hB5
            have HO5 := Lib.hid (Sees.of_own ho5)
            clear hB5 ho5 n0 n1 hsl k0 k1 k2 k3 k4 k5 r0 r1 r2 r3 r4 q0 q1 q2 q3 q4 c2
            obtain ⟨⟨k0, k1, k2, k3, k4, k5⟩, ⟨r0, r1, r2, r3, r4⟩, ⟨q0, q1, q2, q3, q4⟩, c2⟩ := hF5.facts
            have HF5 := Lib.hid hF5
            clear hF5
            go_wp2_with fail
            refine bodyPost_ret (ret_ans rfl (by rfl) (set5B _ _ _ _ _ HF5.out.rb)) rfl ?_
            rw [HL.out]
            exact HF5.out.fin { data := d } HO5.out (.inl rfl) rfl
        · have t0 : (rc != 0) = true := by simpa using h0
          have hl : V = (ths es, wrongV rc) := by rw [HV.out, if_neg h0]
          have HL := Lib.hid hl
          clear h0 hl
          have P9 := Lib.hid (wrong_any rc W)
          go_wp2_with fail
          refine (P9.out).mono ?_
          rintro e w9 ⟨rfl, hB9⟩
          have hF9 := HF2.out.below hB9
          clear k0 k1 k2 k3 k4 k5 r0 r1 r2 r3 r4 q0 q1 q2 q3 q4 c2 hB9 n0 n1
          obtain ⟨⟨k0, k1, k2, k3, k4, k5⟩, ⟨r0, r1, r2, r3, r4⟩, ⟨q0, q1, q2, q3, q4⟩, c2⟩ := hF9.facts
          have HF9 := Lib.hid hF9
          clear hF9
          go_wp2_with fail
          refine bodyPost_ret (ret_ans rfl (by rfl) (set5B _ _ _ _ _ HF9.out.rb)) rfl ?_
          rw [HL.out]
          exact HF9.out.no rc
end Go.Proofs.YtabecceojbeomaaGreatDoor
end

section
/- The contract of a Tree's truncate. Condition: less than the most things; bytes' lengths below 2^20; the path's length below 2^31. -/
namespace Go.Proofs.YtabecceojbeomaaGreatDoor
open Go.RowKit Go.Cat Go.Cat.Dir Go.Cat.Tree Go.Maps

set_option maxRecDepth 100000 in
set_option maxHeartbeats 4000000 in
theorem trunc_any (a : Nat) (I J : Int) (M : Nat) (es : List (Txt × El)) (c : CallV) (A : Option Addr) (cA : Nat) (w : World) (h : TrAt w a I J M es) (hA : Bytes w A c.data) (hi : Inv (ths es)) (hn : es.length ≤ 100000) (hp : c.path.length < 4294967281) :
    Calls Tryz.prog 54 #[.pointer (some ⟨a, 0, none⟩), .agg (callC c A cA)] w (ToldA (truncV (ths es) c) w a I J M) := by
  have hF := MF.start h hA cA
  have p1 := file_any a I J M es c.path _ hF.tr hp
  have hfi : ∀ {x : Th}, (fileV (ths es) c.path).1 = 0 → x = (fileV (ths es) c.path).2 → x.b.length ≤ 512 := fun {x} h1 h2 => by rw [h2]; exact hi.fit _ (get_mem (hi.file_ok h1).1)
  obtain ⟨V, hV⟩ : ∃ V, V = truncV (ths es) c := ⟨_, rfl⟩
  rw [← hV]
  unfold truncV at hV
  obtain ⟨r, hr⟩ : ∃ r, r = fileV (ths es) c.path := ⟨_, rfl⟩
  rw [← hr] at hV p1 hfi
  obtain ⟨rc, rx⟩ := r
  simp only at hV p1 hfi
  have P1 := Lib.hid p1
  have HV := Lib.hid hV
  have HF := Lib.hid hF
  have HN5 := Lib.hid hn
  have HP := Lib.hid hp
  have HFi : Hid (∀ x : Th, rc = 0 → x = rx → x.b.length ≤ 512) := fun x => hfi
  clear h hA p1 hr hV hF hfi hn hi hp
  by_cases hneg : c.n < 0
  · have t9 : decide (c.n < 0) = true := by simpa using hneg
    have hl : V = (ths es, wrongV 1) := by rw [HV.out, if_pos hneg]
    have HL := Lib.hid hl
    have P9 := Lib.hid (wrong_any 1 ((w.alloc (.cells (callC c A cA) 33)).alloc (.cells (ansC 0 none 0 0 none 0 0 0 false) 36)))
    clear hl hneg P1
    go_enter Tryz.func54, Tryz.ntmps54
    go_wp2_with fail
    refine (P9.out).mono ?_
    rintro e w9 ⟨rfl, hB9⟩
    have hF9 := HF.out.below hB9
    clear hB9
    obtain ⟨⟨k0, k1, k2, k3, k4, k5⟩, ⟨r0, r1, r2, r3, r4⟩, ⟨q0, q1, q2, q3, q4⟩, c2⟩ := hF9.facts
    have HF9 := Lib.hid hF9
    clear hF9
    go_wp2_with fail
    refine bodyPost_ret (ret_ans rfl (by rfl) (set5B _ _ _ _ _ HF9.out.rb)) rfl ?_
    rw [HL.out]
    exact HF9.out.no 1
  · have t9 : decide (c.n < 0) = false := by simpa using hneg
    rw [if_neg hneg] at HV
    go_enter Tryz.func54, Tryz.ntmps54
    go_wp2_with fail
    refine (P1.out).mono ?_
    rintro e w2 ⟨x, rfl, hx, hel2, hB2⟩
    have HX := Lib.hid hx
    have hF2 := (HF.out.below hB2).below ((Below.refl _ w2).alloc (Nat.le_refl _) (.cells #[.bool x.1.dir, .slice x.2.1 x.1.b.length x.2.2] 60))
    have hN := heap_alloc_new w2 (.cells #[.bool x.1.dir, .slice x.2.1 x.1.b.length x.2.2] 60)
    have hel := el_below hel2 ((Below.refl _ w2).alloc (Nat.le_refl _) (.cells #[.bool x.1.dir, .slice x.2.1 x.1.b.length x.2.2] 60))
    unfold elV
    clear hx hB2 hel2 P1 HF
    go_upto_region 4 with (fail)
    generalize w2.alloc (.cells #[.bool x.1.dir, .slice x.2.1 x.1.b.length x.2.2] 60) = W at hF2 hN hel ⊢
    generalize w2.heap.size = N at hN ⊢
    have n0 : W.cell? ⟨N, 0, none⟩ = some (.bool x.1.dir) := cell_of_row _ _ 0 _ _ _ hN
    have n1 : W.cell? ⟨N, 1, none⟩ = some (.slice x.2.1 x.1.b.length x.2.2) := cell_of_row _ _ 1 _ _ _ hN
    obtain ⟨⟨k0, k1, k2, k3, k4, k5⟩, ⟨r0, r1, r2, r3, r4⟩, ⟨q0, q1, q2, q3, q4⟩, c2⟩ := hF2.facts
    have HF2 := Lib.hid hF2
    clear hF2
    have HE := Lib.hid hel
    have HN := Lib.hid hN
    clear hN hel
    by_cases h0 : rc = 0
    · have t0 : (rc != 0) = false := by rw [h0]; rfl
      rw [if_pos h0, ← HX.out] at HV
      have hbl := HFi.out x.1 h0 HX.out
      obtain ⟨n, hn⟩ : ∃ n : Nat, c.n = n := ⟨c.n.toNat, by omega⟩
      have hnn := hn
      rw [hn] at HV k4
      by_cases h2 : (x.1.b.length : Int) < (n : Int)
      · have t2 : decide (x.1.b.length < n) = true := by simp; omega
        have hl : V = (ths es, wrongV 20) := by rw [HV.out, if_pos h2]
        have HL := Lib.hid hl
        clear h0 hl h2 hn hnn
        have P9 := Lib.hid (wrong_any 20 W)
        go_wp2_with fail
        refine (P9.out).mono ?_
        rintro e w9 ⟨rfl, hB9⟩
        have hF9 := HF2.out.below hB9
        clear k0 k1 k2 k3 k4 k5 r0 r1 r2 r3 r4 q0 q1 q2 q3 q4 c2 hB9 n0 n1
        obtain ⟨⟨k0, k1, k2, k3, k4, k5⟩, ⟨r0, r1, r2, r3, r4⟩, ⟨q0, q1, q2, q3, q4⟩, c2⟩ := hF9.facts
        have HF9 := Lib.hid hF9
        clear hF9
        go_wp2_with fail
        refine bodyPost_ret (ret_ans rfl (by rfl) (set5B _ _ _ _ _ HF9.out.rb)) rfl ?_
        rw [HL.out]
        exact HF9.out.no 20
      · have t2 : decide (x.1.b.length < n) = false := by simp; omega
        have hl : V = (putT c.path ⟨false, x.1.b.take n⟩ (ths es), {}) := by rw [HV.out, if_neg h2]; rfl
        have HL := Lib.hid hl
        have hnl : n ≤ x.1.b.length := by omega
        have hEn := el_cut HE.out hnl
        obtain ⟨w5, hrun, hT5, ht5⟩ := (HF2.out.tr.tm.below (Below.refl _ _).drew).store Tryz.underlying9 Tryz.underlying61 (by have := HN5.out; unfold maxLen; omega) (p := c.path) (by have := HP.out; unfold maxLen; omega) (x := (⟨false, x.1.b.take n⟩, x.2.1, n)) (el_below hEn (Below.refl _ _).drew)
        have hrun : (Instr.mapUpdate 61 (.map (some M)) (.string (bs c.path)) (.agg #[.bool false, .slice x.2.1 n n])).run Tryz.prog W.drew = .ok () w5 := by
          rw [← el_cutV hnl]; exact hrun
        have hF5 := (HF2.out.below (Below.refl _ _).drew).turned hT5 ht5
        have hsl : ∀ U, (Instr.slice 23 (.slice x.2.1 x.1.b.length x.2.2) none (some (.int .i64 (n : Int))) (some (.int .i64 (n : Int)))).run Tryz.prog U = .ok (.slice x.2.1 n n) U := run_cut3 (by have := HE.out.2; omega)
        have hn5 := heap_touch HN.out (K := fun k => k = M) ((Tch.of_below (K := fun k => k = M) (Below.refl W.heap.size W).drew).trans (turned_tch ht5)) (fun e => box_ne HN.out ht5 e)
        clear h0 hl hnl hEn h2
        obtain ⟨⟨l0, l1, l2, l3, l4, l5⟩, ⟨s0, s1, s2, s3, s4⟩, ⟨m0, m1, m2, m3, m4⟩, d2⟩ := hF5.facts
        rw [hnn] at l4
        clear hnn hn
        have g1 : w5.cell? ⟨N, 1, none⟩ = some (.slice x.2.1 x.1.b.length x.2.2) := cell_of_row _ _ 1 _ _ _ hn5
        have HF5 := Lib.hid hF5
        clear hT5 ht5 hF5 hn5
        go_wp2_with fail
        go_region_held3 (fun U => U.cell? ⟨a, 2, none⟩ = some (.map (some M)) ∧ U.cell? ⟨w.heap.size, 1, none⟩ = some (.string (bs c.path)) ∧ U.cell? ⟨w.heap.size, 4, none⟩ = some (.int .i64 (n : Int)) ∧ U.cell? ⟨N, 1, none⟩ = some (.slice x.2.1 x.1.b.length x.2.2))
          (first | exact ⟨c2, k1, k4, n1⟩ | exact ⟨d2, l1, l4, g1⟩)
          (fail)
        clear k0 k1 k2 k3 k4 k5 r0 r1 r2 r3 r4 q0 q1 q2 q3 q4 c2 n0 n1 hsl hrun
        go_wp2_with fail
        refine bodyPost_ret (ret_ans rfl (by rfl) (set5B _ _ _ _ _ HF5.out.rb)) rfl ?_
        rw [HL.out]
        exact HF5.out.fin {} (.inl rfl) (.inl rfl) (ths_put _ _ _)
    · have t0 : (rc != 0) = true := by simpa using h0
      have hl : V = (ths es, wrongV rc) := by rw [HV.out, if_neg h0]
      have HL := Lib.hid hl
      clear h0 hl
      have P9 := Lib.hid (wrong_any rc W)
      go_wp2_with fail
      refine (P9.out).mono ?_
      rintro e w9 ⟨rfl, hB9⟩
      have hF9 := HF2.out.below hB9
      clear k0 k1 k2 k3 k4 k5 r0 r1 r2 r3 r4 q0 q1 q2 q3 q4 c2 hB9 n0 n1
      obtain ⟨⟨k0, k1, k2, k3, k4, k5⟩, ⟨r0, r1, r2, r3, r4⟩, ⟨q0, q1, q2, q3, q4⟩, c2⟩ := hF9.facts
      have HF9 := Lib.hid hF9
      clear hF9
      go_wp2_with fail
      refine bodyPost_ret (ret_ans rfl (by rfl) (set5B _ _ _ _ _ HF9.out.rb)) rfl ?_
      rw [HL.out]
      exact HF9.out.no rc
end Go.Proofs.YtabecceojbeomaaGreatDoor
end

section
/- The contracts of a Tree's list and stat. Condition: the bounds on a tree's things; the path's length below 2^31. -/
namespace Go.Proofs.YtabecceojbeomaaGreatDoor
open Go.RowKit Go.Cat Go.Cat.Dir Go.Cat.Tree Go.Maps

set_option maxRecDepth 100000 in
set_option maxHeartbeats 2000000 in
theorem list_any (a : Nat) (I J : Int) (M : Nat) (es : List (Txt × El)) (c : CallV) (A : Option Addr) (cA : Nat) (w : World) (h : TrAt w a I J M es) (hA : Bytes w A c.data) (hk : KeyB es) (hp : c.path.length < 4294967281) :
    Calls Tryz.prog 55 #[.pointer (some ⟨a, 0, none⟩), .agg (callC c A cA)] w (ToldA (listV (ths es) c) w a I J M) := by
  have hF := MF.start h hA cA
  have p1 := find_any a I J M es c.path _ hF.tr hp
  have p2 := fun W (hW : MF w a I J M es c A cA W) => names_any a I J M es c.path W hW.tr hk.n hk.k
  obtain ⟨V, hV⟩ : ∃ V, V = listV (ths es) c := ⟨_, rfl⟩
  rw [← hV]
  unfold listV at hV
  obtain ⟨r, hr⟩ : ∃ r, r = findV (ths es) c.path := ⟨_, rfl⟩
  rw [← hr] at hV p1
  unfold ToldT at p2
  obtain ⟨ns, hns⟩ : ∃ ns, ns = namesV c.path (ths es) := ⟨_, rfl⟩
  rw [← hns] at hV p2
  obtain ⟨rc, rx⟩ := r
  simp only at hV p1
  have P1 := Lib.hid p1
  have P2 := Lib.hid p2
  have HV := Lib.hid hV
  have HF := Lib.hid hF
  clear h hA hp hk p1 p2 hr hV hF hns
  go_enter Tryz.func55, Tryz.ntmps55
  go_wp2_with fail
  refine (P1.out).mono ?_
  rintro e w2 ⟨x, rfl, hx, _, hB2⟩
  have HX := Lib.hid hx
  have hF2 := (HF.out.below hB2).below ((Below.refl _ w2).alloc (Nat.le_refl _) (.cells #[.bool x.1.dir, .slice x.2.1 x.1.b.length x.2.2] 60))
  have hN := heap_alloc_new w2 (.cells #[.bool x.1.dir, .slice x.2.1 x.1.b.length x.2.2] 60)
  unfold elV
  clear hx hB2 P1 HF
  go_upto_region 2 with (fail)
  generalize w2.alloc (.cells #[.bool x.1.dir, .slice x.2.1 x.1.b.length x.2.2] 60) = W at hF2 hN ⊢
  generalize w2.heap.size = N at hN ⊢
  have n0 : W.cell? ⟨N, 0, none⟩ = some (.bool x.1.dir) := cell_of_row _ _ 0 _ _ _ hN
  obtain ⟨⟨k0, k1, k2, k3, k4, k5⟩, ⟨r0, r1, r2, r3, r4⟩, ⟨q0, q1, q2, q3, q4⟩, c2⟩ := hF2.facts
  have HF2 := Lib.hid hF2
  clear hN hF2
  by_cases h0 : rc = 0
  · have t0 : (rc != 0) = false := by rw [h0]; rfl
    cases hd : x.1.dir with
    | true =>
      have hl : V = (ths es, { names := ns }) := by rw [HV.out, if_pos h0, if_pos (by rw [← HX.out]; exact hd)]
      have HL := Lib.hid hl
      rw [hd] at n0
      have P3 := Lib.hid (P2.out W HF2.out)
      clear h0 hd hl P2
      go_wp2_with fail
      refine (P3.out).mono ?_
      rintro e w3 ⟨B, cB, rfl, hT3, hB3⟩
      have hF3 := HF2.out.below hB3
      have HT3 := Lib.hid hT3
      clear k0 k1 k2 k3 k4 k5 r0 r1 r2 r3 r4 q0 q1 q2 q3 q4 c2 n0 hT3 hB3
      obtain ⟨⟨k0, k1, k2, k3, k4, k5⟩, ⟨r0, r1, r2, r3, r4⟩, ⟨q0, q1, q2, q3, q4⟩, c2⟩ := hF3.facts
      have HF3 := Lib.hid hF3
      clear hF3
      go_wp2_with fail
      refine bodyPost_ret (ret_ans rfl (by rfl) (set5B _ _ _ _ _ HF3.out.rb)) rfl ?_
      rw [HL.out]
      exact HF3.out.fin { names := ns } (.inl rfl) HT3.out rfl
    | false =>
      have hl : V = (ths es, wrongV 14) := by rw [HV.out, if_pos h0, if_neg (by rw [← HX.out, hd]; simp)]
      have HL := Lib.hid hl
      rw [hd] at n0
      clear h0 hd hl P2
      have P3 := Lib.hid (wrong_any 14 W)
      go_wp2_with fail
      refine (P3.out).mono ?_
      rintro e w3 ⟨rfl, hB3⟩
      have hF3 := HF2.out.below hB3
      clear k0 k1 k2 k3 k4 k5 r0 r1 r2 r3 r4 q0 q1 q2 q3 q4 c2 n0 hB3
      obtain ⟨⟨k0, k1, k2, k3, k4, k5⟩, ⟨r0, r1, r2, r3, r4⟩, ⟨q0, q1, q2, q3, q4⟩, c2⟩ := hF3.facts
      have HF3 := Lib.hid hF3
      clear hF3
      go_wp2_with fail
      refine bodyPost_ret (ret_ans rfl (by rfl) (set5B _ _ _ _ _ HF3.out.rb)) rfl ?_
      rw [HL.out]
      exact HF3.out.no 14
  · have t0 : (rc != 0) = true := by simpa using h0
    have hl : V = (ths es, wrongV rc) := by rw [HV.out, if_neg h0]
    have HL := Lib.hid hl
    have P3 := Lib.hid (wrong_any rc W)
    clear h0 hl P2
    go_wp2_with fail
    refine (P3.out).mono ?_
    rintro e w3 ⟨rfl, hB3⟩
    have hF3 := HF2.out.below hB3
    clear k0 k1 k2 k3 k4 k5 r0 r1 r2 r3 r4 q0 q1 q2 q3 q4 c2 n0 hB3
    obtain ⟨⟨k0, k1, k2, k3, k4, k5⟩, ⟨r0, r1, r2, r3, r4⟩, ⟨q0, q1, q2, q3, q4⟩, c2⟩ := hF3.facts
    have HF3 := Lib.hid hF3
    clear hF3
    go_wp2_with fail
    refine bodyPost_ret (ret_ans rfl (by rfl) (set5B _ _ _ _ _ HF3.out.rb)) rfl ?_
    rw [HL.out]
    exact HF3.out.no rc
end Go.Proofs.YtabecceojbeomaaGreatDoor
end

section
/- The contract of a Tree's stat. Condition: the bounds on a tree's things; the path's length below 2^31. -/
namespace Go.Proofs.YtabecceojbeomaaGreatDoor
open Go.RowKit Go.Cat Go.Cat.Dir Go.Cat.Tree Go.Maps

set_option maxRecDepth 100000 in
set_option maxHeartbeats 2000000 in
theorem stat_any (a : Nat) (I J : Int) (M : Nat) (es : List (Txt × El)) (c : CallV) (A : Option Addr) (cA : Nat) (w : World) (h : TrAt w a I J M es) (hA : Bytes w A c.data) (hk : KeyB es) (hp : c.path.length < 4294967281) :
    Calls Tryz.prog 56 #[.pointer (some ⟨a, 0, none⟩), .agg (callC c A cA)] w (ToldA (statV (ths es) c) w a I J M) := by
  have hF := MF.start h hA cA
  have p1 := find_any a I J M es c.path _ hF.tr hp
  have p2 := fun W (hW : MF w a I J M es c A cA W) => names_any a I J M es c.path W hW.tr hk.n hk.k
  obtain ⟨V, hV⟩ : ∃ V, V = statV (ths es) c := ⟨_, rfl⟩
  rw [← hV]
  unfold statV at hV
  obtain ⟨r, hr⟩ : ∃ r, r = findV (ths es) c.path := ⟨_, rfl⟩
  rw [← hr] at hV p1
  unfold ToldT at p2
  obtain ⟨n, hn⟩ : ∃ n, n = (namesV c.path (ths es)).length := ⟨_, rfl⟩
  rw [← hn] at hV p2
  obtain ⟨rc, rx⟩ := r
  simp only at hV p1
  have P1 := Lib.hid p1
  have P2 := Lib.hid p2
  have HV := Lib.hid hV
  have HF := Lib.hid hF
  clear h hA hp hk p1 p2 hr hV hF hn
  go_enter Tryz.func56, Tryz.ntmps56
  go_wp2_with fail
  refine (P1.out).mono ?_
  rintro e w2 ⟨x, rfl, hx, hel2, hB2⟩
  have HX := Lib.hid hx
  have hF2 := (HF.out.below hB2).below ((Below.refl _ w2).alloc (Nat.le_refl _) (.cells #[.bool x.1.dir, .slice x.2.1 x.1.b.length x.2.2] 60))
  have hN := heap_alloc_new w2 (.cells #[.bool x.1.dir, .slice x.2.1 x.1.b.length x.2.2] 60)
  have hel := el_below hel2 ((Below.refl _ w2).alloc (Nat.le_refl _) (.cells #[.bool x.1.dir, .slice x.2.1 x.1.b.length x.2.2] 60))
  unfold elV
  clear hx hB2 hel2 P1 HF
  go_upto_region 2 with (fail)
  generalize w2.alloc (.cells #[.bool x.1.dir, .slice x.2.1 x.1.b.length x.2.2] 60) = W at hF2 hN hel ⊢
  generalize w2.heap.size = N at hN ⊢
  have n0 : W.cell? ⟨N, 0, none⟩ = some (.bool x.1.dir) := cell_of_row _ _ 0 _ _ _ hN
  have n1 : W.cell? ⟨N, 1, none⟩ = some (.slice x.2.1 x.1.b.length x.2.2) := cell_of_row _ _ 1 _ _ _ hN
  obtain ⟨⟨k0, k1, k2, k3, k4, k5⟩, ⟨r0, r1, r2, r3, r4⟩, ⟨q0, q1, q2, q3, q4⟩, c2⟩ := hF2.facts
  have HF2 := Lib.hid hF2
  clear hF2
  clear hN hel
  by_cases h0 : rc = 0
  · have t0 : (rc != 0) = false := by rw [h0]; rfl
    cases hd : x.1.dir with
    | true =>
      have hl : V = (ths es, { dir := true, size := (n : Int) }) := by rw [HV.out, if_pos h0, if_pos (by rw [← HX.out]; exact hd)]
      have HL := Lib.hid hl
      rw [hd] at n0
      have P3 := Lib.hid (P2.out W HF2.out)
      clear h0 hd hl P2
      go_wp2_with fail
      refine (P3.out).mono ?_
      rintro e w3 ⟨B, cB, rfl, _, hB3⟩
      have hF3 := HF2.out.below hB3
      clear k0 k1 k2 k3 k4 k5 r0 r1 r2 r3 r4 q0 q1 q2 q3 q4 c2 n0 n1 hB3
      obtain ⟨⟨k0, k1, k2, k3, k4, k5⟩, ⟨r0, r1, r2, r3, r4⟩, ⟨q0, q1, q2, q3, q4⟩, c2⟩ := hF3.facts
      have HF3 := Lib.hid hF3
      clear hF3
      go_wp2_with fail
      refine bodyPost_ret (ret_ans rfl (by rfl) (set5B _ _ _ _ _ HF3.out.rb)) rfl ?_
      rw [HL.out]
      exact HF3.out.fin { dir := true, size := (n : Int) } (.inl rfl) (.inl rfl) rfl

    | false =>
      have hl : V = (ths es, { size := (x.1.b.length : Int) }) := by rw [HV.out, if_pos h0, if_neg (by rw [← HX.out, hd]; simp), HX.out]
      have HL := Lib.hid hl
      rw [hd] at n0
      clear h0 hd hl P2
      go_wp2_with fail
      refine bodyPost_ret (ret_ans rfl (by rfl) (set5B _ _ _ _ _ HF2.out.rb)) rfl ?_
      rw [HL.out]
      exact HF2.out.fin { size := (x.1.b.length : Int) } (.inl rfl) (.inl rfl) rfl
  · have t0 : (rc != 0) = true := by simpa using h0
    have hl : V = (ths es, wrongV rc) := by rw [HV.out, if_neg h0]
    have HL := Lib.hid hl
    clear h0 hl P2
    have P9 := Lib.hid (wrong_any rc W)
    go_wp2_with fail
    refine (P9.out).mono ?_
    rintro e w9 ⟨rfl, hB9⟩
    have hF9 := HF2.out.below hB9
    clear k0 k1 k2 k3 k4 k5 r0 r1 r2 r3 r4 q0 q1 q2 q3 q4 c2 hB9 n0 n1
    obtain ⟨⟨k0, k1, k2, k3, k4, k5⟩, ⟨r0, r1, r2, r3, r4⟩, ⟨q0, q1, q2, q3, q4⟩, c2⟩ := hF9.facts
    have HF9 := Lib.hid hF9
    clear hF9
    go_wp2_with fail
    refine bodyPost_ret (ret_ans rfl (by rfl) (set5B _ _ _ _ _ HF9.out.rb)) rfl ?_
    rw [HL.out]
    exact HF9.out.no rc
end Go.Proofs.YtabecceojbeomaaGreatDoor
end
