/- The contract of a Tree's rename (a directory, to another path). Condition: the bounds on a tree's things; the paths' lengths below 2^31. -/
import Derived.Test.YtabecceojbeomaaGreatDoorTrRen
namespace Go.Proofs.YtabecceojbeomaaGreatDoor
open Go.RowKit Go.Cat Go.Cat.Dir Go.Cat.Tree Go.Maps

set_option maxRecDepth 100000 in
set_option maxHeartbeats 16000000 in
theorem rename_dir (a : Nat) (I J : Int) (M : Nat) (es : List (Txt × El)) (c : CallV) (A : Option Addr) (cA : Nat) (w : World) (h : TrAt w a I J M es) (hA : Bytes w A c.data) (hk : KeyB es) (hp : c.path.length < 4294967281) (hto : c.to.length < 4294967281)
    (h1 : abe c.path = 0) (h2 : abe c.to = 0) (h3 : (findV (ths es) c.path).1 = 0) (hd : (findV (ths es) c.path).2.dir = true) (hne : c.to ≠ c.path) :
    Calls Tryz.prog 51 #[.pointer (some ⟨a, 0, none⟩), .agg (callC c A cA)] w (ToldA (renameV (ths es) c) w a I J M) := by
  have hF := MF.start h hA cA
  have p1 := fun W (hW : MF w a I J M es c A cA W) => let ⟨m, hm⟩ := hW.tr.gl; dabove_any c.path m W hp hm
  have p2 := fun W (hW : MF w a I J M es c A cA W) => let ⟨m, hm⟩ := hW.tr.gl; dabove_any c.to m W hto hm
  have p3 := fun W (hW : MF w a I J M es c A cA W) => find_any a I J M es c.path W hW.tr hp
  obtain ⟨V, hV⟩ : ∃ V, V = renameV (ths es) c := ⟨_, rfl⟩
  rw [← hV]
  unfold ToldAb at p1 p2
  unfold renameV at hV
  obtain ⟨r, hr⟩ : ∃ r, r = findV (ths es) c.path := ⟨_, rfl⟩
  rw [← hr] at hV p3
  obtain ⟨fr, hfr⟩ : ∃ fr, fr = (abv c.path).1 := ⟨_, rfl⟩
  rw [← hfr] at hV
  rw [if_pos ⟨h1, h2⟩] at hV
  rw [← hr] at h3 hd
  obtain ⟨rc, rx⟩ := r
  simp only at hV p3 h3 hd
  subst h3
  rw [if_pos rfl] at hV
  simp only [h1] at p1
  simp only [h2] at p2
  simp only [← hfr] at p1
  have p4 := fun W (hW : MF w a I J M es c A cA W) => let ⟨m, hm⟩ := hW.tr.gl; dunder_any c.to c.path m W hto hp hm
  have p5 := fun W (hW : MF w a I J M es c A cA W) => above_any a I J M es c.to W hW.tr hto
  have p6 := fun W (hW : MF w a I J M es c A cA W) => look_run_ok hW.tr.tm hto
  have hul := up_len (ths es) c.to
  have hsome : (getT c.to (ths es)).isSome = (getT c.to es).isSome := by rw [ths_get, Option.isSome_map]
  rw [hsome] at hV
  obtain ⟨ur, hur⟩ : ∃ ur, ur = upV (ths es) c.to := ⟨_, rfl⟩
  unfold ToldUp at p5
  rw [← hur] at hV p5 hul
  obtain ⟨uc, up⟩ := ur
  simp only at hV p5 hul
  have p7 := fun W (hW : MF w a I J M es c A cA W) => full_any a I J M es up W hW.tr hk (by omega)
  obtain ⟨y, hy⟩ : ∃ y, y = lookE c.to es := ⟨_, rfl⟩
  obtain ⟨mt, hmt⟩ : ∃ mt, mt = (getT c.to es).isSome := ⟨_, rfl⟩
  obtain ⟨fl, hfl⟩ : ∃ fl, fl = fullV (ths es) up := ⟨_, rfl⟩
  rw [← hy, ← hmt] at p6
  rw [← hfl] at p7
  rw [← hmt, ← hfl] at hV
  obtain ⟨ud, hud⟩ : ∃ ud, ud = underV c.to c.path := ⟨_, rfl⟩
  rw [← hud] at p4 hV
  have P1 := Lib.hid p1
  have P2 := Lib.hid p2
  have P3 := Lib.hid p3
  have P4 := Lib.hid p4
  have P5 := Lib.hid p5
  have P6 := Lib.hid p6
  have P7 := Lib.hid p7
  have P8 := Lib.hid (fun W (hW : MF w a I J M es c A cA W) => paths_any a I J M es W hW.tr hk)
  have PUn : Hid (∀ (q : Txt) (_ : q.length < 4294967281) (W : World) (_ : Unit) (esk : List (Txt × El)), MF w a I J M esk c A cA W → Calls Tryz.prog 73 #[.string (bs q), .string (bs c.path)] W fun e w' => e = .returned (.bool (underV q c.path)) ∧ Below W.heap.size W w') := fun q hq W _ esk hW => let ⟨m, hm⟩ := hW.tr.gl; dunder_any q c.path m W hq hp hm
  have PTn := Lib.hid (fun (q : Txt) (h : underV q c.path = true) => trimp_any h1 h)
  have HKb : Hid (∀ q ∈ keysE es, q.length < 4294967281) := fun q hq => by obtain ⟨z, hz, e⟩ := List.mem_map.1 hq; rw [← e]; exact hk.k z hz
  obtain ⟨n, hn⟩ : ∃ n, n = es.length := ⟨_, rfl⟩
  have HKl : Hid ((keysE es).length = n) := by show _ = _; rw [hn]; exact List.length_map _
  unfold ToldP at P8
  rw [← hn] at P8
  have HNn : Hid (n ≤ 100000) := by show _ ≤ _; rw [hn]; exact hk.n
  have HTo := Lib.hid hto
  have HNe : Hid (es.length = n) := hn.symm
  have HV := Lib.hid hV
  have HF := Lib.hid hF
  have HN5 := Lib.hid hk.n
  clear h hA hp hto hk p1 p2 p3 p4 p5 p6 p7 hr hV hF hfr hul hsome hur hy hmt hfl hud h1 h2 hn
  have P0 := Lib.hid (P1.out _ HF.out)
  go_enter Tryz.func51, Tryz.ntmps51
  go_wp2_with fail
  refine (P0.out).mono ?_
  rintro e W ⟨rfl, hB2⟩
  have hF2 := HF.out.below hB2
  clear hB2 P0 P1 HF
  obtain ⟨⟨k0, k1, k2, k3, k4, k5⟩, ⟨r0, r1, r2, r3, r4⟩, ⟨q0, q1, q2, q3, q4⟩, c2⟩ := hF2.facts
  have HF2 := Lib.hid hF2
  clear hF2
  have P0 := Lib.hid (P2.out W HF2.out)
  go_wp2_with fail
  refine (P0.out).mono ?_
  rintro e W3 ⟨rfl, hB9⟩
  have hF9 := HF2.out.below hB9
  clear hB9 P0 k0 k1 k2 k3 k4 k5 r0 r1 r2 r3 r4 q0 q1 q2 q3 q4 c2
  obtain ⟨⟨k0, k1, k2, k3, k4, k5⟩, ⟨r0, r1, r2, r3, r4⟩, ⟨q0, q1, q2, q3, q4⟩, c2⟩ := hF9.facts
  have HF3 := Lib.hid hF9
  clear hF9
  have P0 := Lib.hid (P3.out W3 HF3.out)
  clear P2 P3
  go_wp2_with fail
  refine (P0.out).mono ?_
  rintro e w2 ⟨x, rfl, hx, _, hB2⟩
  have hF2 := (HF3.out.below hB2).below ((Below.refl _ w2).alloc (Nat.le_refl _) (.cells #[.bool x.1.dir, .slice x.2.1 x.1.b.length x.2.2] 60))
  have hN := heap_alloc_new w2 (.cells #[.bool x.1.dir, .slice x.2.1 x.1.b.length x.2.2] 60)
  unfold elV
  replace hx : x.1 = rx := hx
  rw [← hx] at hd
  have hd0 := Lib.hid hx
  rw [hd] at hF2 hN
  clear hx hB2 P0 k0 k1 k2 k3 k4 k5 r0 r1 r2 r3 r4 q0 q1 q2 q3 q4 c2
  go_upto_region 6 with (fail)
  generalize w2.alloc (.cells #[.bool true, .slice x.2.1 x.1.b.length x.2.2] 60) = W4 at hF2 hN ⊢
  generalize w2.heap.size = N at hN ⊢
  have n0 : W4.cell? ⟨N, 0, none⟩ = some (.bool true) := cell_of_row _ _ 0 _ _ _ hN
  obtain ⟨⟨k0, k1, k2, k3, k4, k5⟩, ⟨r0, r1, r2, r3, r4⟩, ⟨q0, q1, q2, q3, q4⟩, c2⟩ := hF2.facts
  have HF4 := Lib.hid hF2
  clear hF2
  have HN := Lib.hid hN
  clear hN
  have t8 : ((bs c.to).toList == (bs c.path).toList) = false := by rw [bs_toList, bs_toList]; simpa using hne
  have P0 := Lib.hid (P4.out W4 HF4.out)
  clear P4
  go_wp2_with fail
  refine (P0.out).mono ?_
  rintro e w5 ⟨rfl, hB5⟩
  have hF5 := HF4.out.below hB5
  have hN5 := heap_below HN.out hB5
  clear hB5 P0 n0 k0 k1 k2 k3 k4 k5 r0 r1 r2 r3 r4 q0 q1 q2 q3 q4 c2
  obtain ⟨⟨k0, k1, k2, k3, k4, k5⟩, ⟨r0, r1, r2, r3, r4⟩, ⟨q0, q1, q2, q3, q4⟩, c2⟩ := hF5.facts
  have HF5 := Lib.hid hF5
  clear hF5
  have n0 : w5.cell? ⟨N, 0, none⟩ = some (.bool true) := cell_of_row _ _ 0 _ _ _ hN5
  clear hN5
  cases ud with
  | true =>
    have hl : V = (ths es, wrongV 21) := by rw [HV.out, if_pos ⟨by rw [← hd0.out]; exact hd, hne, rfl⟩]
    have HL := Lib.hid hl
    clear hl hd hne P5 P6 P7 P8
    have P9 := Lib.hid (wrong_any 21 w5)
    go_wp2_with fail
    refine (P9.out).mono ?_
    rintro e w9 ⟨rfl, hB9⟩
    have hF9 := HF5.out.below hB9
    clear k0 k1 k2 k3 k4 k5 r0 r1 r2 r3 r4 q0 q1 q2 q3 q4 c2 hB9 n0
    obtain ⟨⟨k0, k1, k2, k3, k4, k5⟩, ⟨r0, r1, r2, r3, r4⟩, ⟨q0, q1, q2, q3, q4⟩, c2⟩ := hF9.facts
    have HF9 := Lib.hid hF9
    clear hF9
    go_wp2_with fail
    refine bodyPost_ret (ret_ans rfl (by rfl) (set5B _ _ _ _ _ HF9.out.rb)) rfl ?_
    rw [HL.out]
    exact HF9.out.no 21

  | false =>
    rw [if_neg (by simp)] at HV
    go_upto_region 10 with (fail)
    have PC := Lib.hid (fun p W => count_any p W)
    obtain ⟨cn1, hq1⟩ : ∃ cn1, cn1 = c.to.count 47 := ⟨_, rfl⟩
    obtain ⟨cn2, hq2⟩ : ∃ cn2, cn2 = c.path.count 47 := ⟨_, rfl⟩
    have PC1 := Lib.hid (fun W => count_any c.to W)
    have PC2 := Lib.hid (fun W => count_any c.path W)
    rw [← hq1] at PC1 HV
    rw [← hq2] at PC2 HV
    by_cases hlt : cn2 < cn1
    · have t9 : decide (cn2 < cn1) = true := by simpa using hlt
      have hl : V = (ths es, wrongV 6) := by rw [HV.out, if_pos ⟨by rw [← hd0.out]; exact hd, hlt⟩]
      have HL := Lib.hid hl
      clear hl hd hne hlt P5 P6 P7 P8 hq1 hq2
      go_region_held3 (fun U => U.cell? ⟨w.heap.size, 1, none⟩ = some (.string (bs c.path)) ∧ U.cell? ⟨w.heap.size, 2, none⟩ = some (.string (bs c.to)) ∧ U.cell? ⟨N, 0, none⟩ = some (.bool true))
        (first | exact ⟨k1, k2, n0⟩)
        (first
          | (go_at_call 74; with_reducible refine (PC1.out _).mono ?_; rintro e w9 ⟨rfl, rfl⟩)
          | (go_at_call 74; with_reducible refine (PC2.out _).mono ?_; rintro e w9 ⟨rfl, rfl⟩))
      all_goals
        rename_i FS
        clear FS PC PC1 PC2
        have hFd := HF5.out.below (Below.refl _ _).drew
        generalize w5.drew = W6 at hFd ⊢
        clear n0 k0 k1 k2 k3 k4 k5 r0 r1 r2 r3 r4 q0 q1 q2 q3 q4 c2
        obtain ⟨⟨k0, k1, k2, k3, k4, k5⟩, ⟨r0, r1, r2, r3, r4⟩, ⟨q0, q1, q2, q3, q4⟩, c2⟩ := hFd.facts
        have HF6 := Lib.hid hFd
        clear hFd
        have P9 := Lib.hid (wrong_any 6 W6)
        go_wp2_with fail
        refine (P9.out).mono ?_
        rintro e w9 ⟨rfl, hB9⟩
        have hF9 := HF6.out.below hB9
        clear k0 k1 k2 k3 k4 k5 r0 r1 r2 r3 r4 q0 q1 q2 q3 q4 c2 hB9 
        obtain ⟨⟨k0, k1, k2, k3, k4, k5⟩, ⟨r0, r1, r2, r3, r4⟩, ⟨q0, q1, q2, q3, q4⟩, c2⟩ := hF9.facts
        have HF9 := Lib.hid hF9
        clear hF9
        go_wp2_with fail
        refine bodyPost_ret (ret_ans rfl (by rfl) (set5B _ _ _ _ _ HF9.out.rb)) rfl ?_
        rw [HL.out]
        exact HF9.out.no 6

    · have t9 : decide (cn2 < cn1) = false := by simpa using hlt
      rw [if_neg (fun e => hlt e.2)] at HV
      clear hd hne hlt hq1 hq2
      go_cut [77] (fun s wc => s = .bool false ∧ wc = w5.drew)
      case first =>
        go_region_held3 (fun U => U.cell? ⟨w.heap.size, 1, none⟩ = some (.string (bs c.path)) ∧ U.cell? ⟨w.heap.size, 2, none⟩ = some (.string (bs c.to)) ∧ U.cell? ⟨N, 0, none⟩ = some (.bool true))
          (first | exact ⟨k1, k2, n0⟩)
          (first
            | (go_at_call 74; with_reducible refine (PC1.out _).mono ?_; rintro e w9 ⟨rfl, rfl⟩)
            | (go_at_call 74; with_reducible refine (PC2.out _).mono ?_; rintro e w9 ⟨rfl, rfl⟩))
        all_goals
          rename_i FS
          clear FS
          go_wp2_with fail
          go_meet
          exact ⟨rfl, rfl⟩
      case rest =>
        obtain ⟨rfl, rfl⟩ := hcut
        clear PC PC1 PC2
        have hFd := (HF5.out.below (Below.refl _ _).drew)
        generalize w5.drew = W6 at hFd ⊢
        clear n0 k0 k1 k2 k3 k4 k5 r0 r1 r2 r3 r4 q0 q1 q2 q3 q4 c2
        obtain ⟨⟨k0, k1, k2, k3, k4, k5⟩, ⟨r0, r1, r2, r3, r4⟩, ⟨q0, q1, q2, q3, q4⟩, c2⟩ := hFd.facts
        have HF6 := Lib.hid hFd
        clear hFd
        have P0 := Lib.hid (P5.out W6 HF6.out)
        clear P5
        go_wp2_with fail
        refine (P0.out).mono ?_
        rintro e W7 ⟨rfl, hB7⟩
        have hF7 := HF6.out.below hB7
        clear hB7 P0 k0 k1 k2 k3 k4 k5 r0 r1 r2 r3 r4 q0 q1 q2 q3 q4 c2
        obtain ⟨⟨k0, k1, k2, k3, k4, k5⟩, ⟨r0, r1, r2, r3, r4⟩, ⟨q0, q1, q2, q3, q4⟩, c2⟩ := hF7.facts
        have HF7 := Lib.hid hF7
        clear hF7
        by_cases h0 : uc = 0
        · have t0 : (uc != 0) = false := by rw [h0]; rfl
          rw [if_pos h0] at HV
          have hFa := fun o => HF7.out.below ((Below.refl _ W7).alloc (Nat.le_refl _) o)
          have look1 := P6.out W7.drew (HF7.out.below (Below.refl _ _).drew)
          have look2 := fun o => P6.out (W7.alloc o).drew ((hFa o).below (Below.refl _ _).drew)
          have a2 : ∀ o, (W7.alloc o).cell? ⟨a, 2, none⟩ = some (.map (some M)) := fun o => (hFa o).facts.2.2.2
          have a1 : ∀ o, (W7.alloc o).cell? ⟨w.heap.size, 2, none⟩ = some (.string (bs c.to)) := fun o => (hFa o).facts.1.2.2.1
          have HFa := Lib.hid hFa
          clear h0 P6 hFa
          go_upto_region 15 with (fail)
          go_region_held3 (fun U => U.cell? ⟨a, 2, none⟩ = some (.map (some M)) ∧ U.cell? ⟨w.heap.size, 2, none⟩ = some (.string (bs c.to)))
            (first | exact ⟨c2, k2⟩ | exact ⟨a2 _, a1 _⟩)
            (fail)
          all_goals
            rename_i FS
            clear FS
            have hF8 := HFa.out (.cells #[.bool y.1.dir, .slice y.2.1 y.1.b.length y.2.2] 60)
            clear look1 look2 a2 a1 HFa k0 k1 k2 k3 k4 k5 r0 r1 r2 r3 r4 q0 q1 q2 q3 q4 c2
            generalize W7.alloc (.cells #[.bool y.1.dir, .slice y.2.1 y.1.b.length y.2.2] 60) = W8 at hF8 ⊢
            have hF8 := hF8.below (Below.refl _ _).drew
            generalize W8.drew = W9 at hF8 ⊢
            obtain ⟨⟨k0, k1, k2, k3, k4, k5⟩, ⟨r0, r1, r2, r3, r4⟩, ⟨q0, q1, q2, q3, q4⟩, c2⟩ := hF8.facts
            have HF8 := Lib.hid hF8
            clear hF8

            cases mt with
            | true =>
              have hl : V = (ths es, wrongV 8) := HV.out
              have HL := Lib.hid hl
              clear hl P7 P8
              have P9 := Lib.hid (wrong_any 8 W9)
              go_wp2_with fail
              refine (P9.out).mono ?_
              rintro e w9 ⟨rfl, hB9⟩
              have hF9 := HF8.out.below hB9
              clear k0 k1 k2 k3 k4 k5 r0 r1 r2 r3 r4 q0 q1 q2 q3 q4 c2 hB9 
              obtain ⟨⟨k0, k1, k2, k3, k4, k5⟩, ⟨r0, r1, r2, r3, r4⟩, ⟨q0, q1, q2, q3, q4⟩, c2⟩ := hF9.facts
              have HF9 := Lib.hid hF9
              clear hF9
              go_wp2_with fail
              refine bodyPost_ret (ret_ans rfl (by rfl) (set5B _ _ _ _ _ HF9.out.rb)) rfl ?_
              rw [HL.out]
              exact HF9.out.no 8

            | false =>
              rw [if_neg (by simp)] at HV
              by_cases hu : up = fr
              · have t5 : ((bs up).toList == (bs fr).toList) = true := by rw [hu]; simp
                replace HV : Hid (V = (moveV c.path c.to (ths es), {})) := by show _ = _; rw [HV.out, if_neg (fun e => e.1 hu)]
                clear hu
                have P0 := Lib.hid (P8.out W9 HF8.out)
                clear P7 P8
                have hn5 : n ≤ 100000 := HNn.out
                go_wp2_with fail
                refine (P0.out).mono ?_
                rintro e w3 ⟨B, cB, rfl, hT3, hB3⟩
                have HF3 := Lib.hid (HF8.out.below hB3)
                have HT3 := Lib.hid hT3
                clear hB3 hT3 P0 k0 k1 k2 k3 k4 k5 r0 r1 r2 r3 r4 q0 q1 q2 q3 q4 c2
                go_wp2_with fail
                go_loopw [114] (fun iv wr => ∃ (k : Nat) (esk : List (Txt × El)), k ≤ n ∧ iv = .int .i64 k ∧ Hid (MF w a I J M esk c A cA wr) ∧ Hid (RenI es c k esk) ∧ Hid (Texts wr B (keysE es))) (fun iv _ => n - (intOf iv).toNat)
                case atStart => exact ⟨0, es, Nat.zero_le _, rfl, HF3, RenI.start es c, HT3⟩
                case round =>
                  clear HF3 HT3
                  obtain ⟨k, esk, hk, rfl, HM, HI, HT⟩ := hrel
                  obtain ⟨⟨k0, k1, k2, k3, k4, k5⟩, ⟨r0, r1, r2, r3, r4⟩, ⟨q0, q1, q2, q3, q4⟩, c2⟩ := HM.out.facts
                  by_cases hlt : k < n
                  · have hlk : k < (keysE es).length := by rw [HKl.out]; exact hlt
                    obtain ⟨b, off, rfl, hbl, hcb⟩ := Texts.at_ HT.out hlk
                    obtain ⟨q, hq⟩ : ∃ q, q = (keysE es)[k] := ⟨_, rfl⟩
                    rw [← hq] at hcb
                    have hql : q.length < 4294967281 := HKb.out q (by rw [hq]; exact List.getElem_mem _)
                    obtain ⟨u, hu⟩ : ∃ u, u = underV q c.path := ⟨_, rfl⟩
                    have PU := Lib.hid (PUn.out q hql wr () esk HM.out)
                    rw [← hu] at PU
                    have HQ := Lib.hid hq
                    have HU := Lib.hid hu
                    have HLk := Lib.hid hlk
                    clear hq hu k0 k2 k3 k4 k5 r0 r1 r2 r3 r4 q0 q1 q2 q3 q4 c2
                    go_wp2_with fail
                    refine (PU.out).mono ?_
                    rintro e w4 ⟨rfl, hB4⟩
                    have HM4 := Lib.hid (HM.out.below hB4)
                    have HT4 := Lib.hid (Sees.below HT.out hB4)
                    clear hB4 PU HM HT hcb k1
                    cases u with
                    | false =>
                      go_wp2_with fail
                      exact ⟨⟨k + 1, esk, by omega, by go_num, HM4, HI.out.skip HLk.out (by rw [← HQ.out]; exact HU.out.symm), HT4⟩, by simp [intOf]; omega⟩
                    | true =>
                      have look := look_run HM4.out.tr.tm hql
                      have hel := HM4.out.tr.tm.looked q
                      have c2 := HM4.out.facts.2.2.2
                      have PT := Lib.hid (PTn.out q HU.out.symm)
                      have HI2 := Lib.hid (HI.out.move HLk.out (by rw [← HQ.out]; exact HU.out.symm))
                      rw [← HQ.out] at HI2
                      have hlen := HI.out.len
                      rw [HNe.out] at hlen
                      obtain ⟨tl, htl⟩ : ∃ tl, tl = q.drop c.path.length := ⟨_, rfl⟩
                      have htl2 : tl.length ≤ q.length := by rw [htl, List.length_drop]; omega
                      rw [← htl] at PT HI2
                      obtain ⟨y, hy⟩ : ∃ y, y = lookE q esk := ⟨_, rfl⟩
                      rw [← hy] at look hel HI2
                      clear htl hy HU HI HLk HQ
                      have hM5 := HM4.out.below ((Below.refl _ w4).alloc (Nat.le_refl _) (.cells #[.bool y.1.dir, .slice y.2.1 y.1.b.length y.2.2] 60))
                      have hT5 : Texts (w4.alloc (.cells #[.bool y.1.dir, .slice y.2.1 y.1.b.length y.2.2] 60)) (some ⟨b, off, none⟩) (keysE es) := Sees.below HT4.out ((Below.refl _ w4).alloc (Nat.le_refl _) _)
                      have hE5 := el_below hel ((Below.refl _ w4).alloc (Nat.le_refl _) (.cells #[.bool y.1.dir, .slice y.2.1 y.1.b.length y.2.2] 60))
                      have hN5 := heap_alloc_new w4 (.cells #[.bool y.1.dir, .slice y.2.1 y.1.b.length y.2.2] 60)
                      go_upto_region 25 with (fail)
                      clear look c2 hel HM4 HT4
                      generalize w4.alloc (.cells #[.bool y.1.dir, .slice y.2.1 y.1.b.length y.2.2] 60) = W5 at hM5 hT5 hE5 hN5 ⊢
                      generalize w4.heap.size = N5 at hN5 ⊢
                      have c2 := hM5.facts.2.2.2
                      have HM5 := Lib.hid hM5
                      have HT5 := Lib.hid hT5
                      have HE5 := Lib.hid hE5
                      have HN5 := Lib.hid hN5
                      clear hM5 hT5 hE5 hN5
                      go_wp2_with (first
                        | (at_delete; refine wpList_del_tr _ rfl _ _ 61 9 rfl 60 Tryz.underlying9 Tryz.underlying61 M esk rfl HM5.out.tr.tm q (by unfold maxLen; omega) rfl ?_; intro w6 hT6 ht6)
                        | go_in)
                      try go_frame
                      have hM6 := HM5.out.turned hT6 ht6
                      have hTx6 := texts_turned HT5.out ht6
                      have hE6 := el_turned HE5.out ht6
                      have hN6 := heap_touch HN5.out (turned_tch ht6) (box_ne' HN5.out ht6)
                      have hb1 : (delT q esk).length ≤ 200000 := Nat.le_trans (List.length_filter_le _ _) (by have h2 : n ≤ 100000 := HNn.out; omega)
                      have hb3 : c.to.length < 4294967281 := HTo.out
                      have hb2 : (c.to ++ tl).length ≤ 8589934592 := by rw [List.length_append]; omega
                      have hsum : ¬ 9223372036854775807 < (bs c.to).size + (bs tl).size := by rw [bs_size, bs_size]; omega
                      obtain ⟨w7, hrun, hT7, ht7⟩ := (hM6.tr.tm.below (Below.refl _ _).drew).store Tryz.underlying9 Tryz.underlying61 (Nat.lt_of_le_of_lt hb1 (by unfold maxLen; omega)) (p := c.to ++ tl) (Nat.le_trans hb2 (by unfold maxLen; omega)) (x := y) (el_below hE6 (Below.refl _ _).drew)
                      have hrun : (Instr.mapUpdate 61 (.map (some M)) (.string (bs c.to ++ bs tl)) (.agg #[.bool y.1.dir, .slice y.2.1 y.1.b.length y.2.2])).run Tryz.prog w6.drew = .ok () w7 := by rw [bs_app]; exact hrun
                      have hM7 := (hM6.below (Below.refl _ _).drew).turned hT7 ht7
                      have hTx7 := texts_turned (Sees.below hTx6 (Below.refl _ _).drew) ht7
                      have hN7 := heap_touch (heap_below hN6 (Below.refl _ _).drew) (turned_tch ht7) (box_ne hN6 ht7)
                      have hS6 : w6.cell? ⟨a, 2, none⟩ = some (.map (some M)) ∧ w6.cell? ⟨w.heap.size, 2, none⟩ = some (.string (bs c.to)) ∧ w6.cell? ⟨w.heap.size, 1, none⟩ = some (.string (bs c.path)) ∧ w6.cell? ⟨N5, 0, none⟩ = some (.bool y.1.dir) ∧ w6.cell? ⟨N5, 1, none⟩ = some (.slice y.2.1 y.1.b.length y.2.2) :=
                        ⟨hM6.facts.2.2.2, hM6.facts.1.2.2.1, hM6.facts.1.2.1, cell_of_row _ _ 0 _ _ _ hN6, cell_of_row _ _ 1 _ _ _ hN6⟩
                      have hS7 : w7.cell? ⟨a, 2, none⟩ = some (.map (some M)) ∧ w7.cell? ⟨w.heap.size, 2, none⟩ = some (.string (bs c.to)) ∧ w7.cell? ⟨w.heap.size, 1, none⟩ = some (.string (bs c.path)) ∧ w7.cell? ⟨N5, 0, none⟩ = some (.bool y.1.dir) ∧ w7.cell? ⟨N5, 1, none⟩ = some (.slice y.2.1 y.1.b.length y.2.2) :=
                        ⟨hM7.facts.2.2.2, hM7.facts.1.2.2.1, hM7.facts.1.2.1, cell_of_row _ _ 0 _ _ _ hN7, cell_of_row _ _ 1 _ _ _ hN7⟩
                      have HM7 := Lib.hid hM7
                      have HTx7 := Lib.hid hTx7
                      have HS6 := Lib.hid hS6
                      have HS7 := Lib.hid hS7
                      clear c2 hM6 hTx6 hE6 hN6 hT6 ht6 hT7 ht7 hM7 hTx7 hN7 hS6 hS7 HM5 HT5 HE5 HN5
                      go_wp2_with fail
                      go_region_held3 (fun U => U.cell? ⟨a, 2, none⟩ = some (.map (some M)) ∧ U.cell? ⟨w.heap.size, 2, none⟩ = some (.string (bs c.to)) ∧ U.cell? ⟨w.heap.size, 1, none⟩ = some (.string (bs c.path)) ∧ U.cell? ⟨N5, 0, none⟩ = some (.bool y.1.dir) ∧ U.cell? ⟨N5, 1, none⟩ = some (.slice y.2.1 y.1.b.length y.2.2))
                        (first | exact HS7.out | exact HS6.out)
                        (first | (go_at_call 75; refine (PT.out _).mono ?_; rintro e w9 ⟨rfl, rfl⟩))
                      all_goals
                        rename_i FS
                        clear FS hrun
                        go_wp2_with fail
                        exact ⟨⟨k + 1, _, by omega, by go_num, HM7, HI2, HTx7⟩, by simp [intOf]; omega⟩
                  · obtain rfl : k = n := by omega
                    have HL : Hid (V = (moveV c.path c.to (ths es), {})) := HV
                    have hl2 : ths esk = moveV c.path c.to (ths es) := by
                      rw [HI.out.ths_]
                      unfold moveV
                      rw [keys_ths, List.take_of_length_le (by rw [HKl.out]; exact Nat.le_refl _)]
                    have HL2 := Lib.hid hl2
                    clear hl2
                    go_wp2_with fail
                    refine bodyPost_ret (ret_ans rfl (by rfl) (set5B _ _ _ _ _ HM.out.rb)) rfl ?_
                    rw [HL.out]
                    exact HM.out.fin {} (.inl rfl) (.inl rfl) HL2.out

              · have t5 : ((bs up).toList == (bs fr).toList) = false := by rw [bs_toList, bs_toList]; simpa using hu
                have P4 := Lib.hid (P7.out W9 HF8.out)
                go_wp2_with fail
                refine (P4.out).mono ?_
                rintro e w10 ⟨rfl, hB10⟩
                have hF10 := HF8.out.below hB10
                clear hB10 P4 k0 k1 k2 k3 k4 k5 r0 r1 r2 r3 r4 q0 q1 q2 q3 q4 c2
                obtain ⟨⟨k0, k1, k2, k3, k4, k5⟩, ⟨r0, r1, r2, r3, r4⟩, ⟨q0, q1, q2, q3, q4⟩, c2⟩ := hF10.facts
                have HF10 := Lib.hid hF10
                clear hF10

                cases fl with
                | true =>
                  have hl : V = (ths es, wrongV 17) := by rw [HV.out, if_pos ⟨hu, rfl⟩]
                  have HL := Lib.hid hl
                  clear hl hu P7 P8
                  have P9 := Lib.hid (wrong_any 17 w10)
                  go_wp2_with fail
                  refine (P9.out).mono ?_
                  rintro e w9 ⟨rfl, hB9⟩
                  have hF9 := HF10.out.below hB9
                  clear k0 k1 k2 k3 k4 k5 r0 r1 r2 r3 r4 q0 q1 q2 q3 q4 c2 hB9 
                  obtain ⟨⟨k0, k1, k2, k3, k4, k5⟩, ⟨r0, r1, r2, r3, r4⟩, ⟨q0, q1, q2, q3, q4⟩, c2⟩ := hF9.facts
                  have HF9 := Lib.hid hF9
                  clear hF9
                  go_wp2_with fail
                  refine bodyPost_ret (ret_ans rfl (by rfl) (set5B _ _ _ _ _ HF9.out.rb)) rfl ?_
                  rw [HL.out]
                  exact HF9.out.no 17

                | false =>
                  replace HV : Hid (V = (moveV c.path c.to (ths es), {})) := by show _ = _; rw [HV.out, if_neg (fun e => by have := e.2; simp at this)]
                  clear hu
                  have P0 := Lib.hid (P8.out w10 HF10.out)
                  clear P7 P8
                  have hn5 : n ≤ 100000 := HNn.out
                  go_wp2_with fail
                  refine (P0.out).mono ?_
                  rintro e w3 ⟨B, cB, rfl, hT3, hB3⟩
                  have HF3 := Lib.hid (HF10.out.below hB3)
                  have HT3 := Lib.hid hT3
                  clear hB3 hT3 P0 k0 k1 k2 k3 k4 k5 r0 r1 r2 r3 r4 q0 q1 q2 q3 q4 c2
                  go_wp2_with fail
                  go_loopw [114] (fun iv wr => ∃ (k : Nat) (esk : List (Txt × El)), k ≤ n ∧ iv = .int .i64 k ∧ Hid (MF w a I J M esk c A cA wr) ∧ Hid (RenI es c k esk) ∧ Hid (Texts wr B (keysE es))) (fun iv _ => n - (intOf iv).toNat)
                  case atStart => exact ⟨0, es, Nat.zero_le _, rfl, HF3, RenI.start es c, HT3⟩
                  case round =>
                    clear HF3 HT3
                    obtain ⟨k, esk, hk, rfl, HM, HI, HT⟩ := hrel
                    obtain ⟨⟨k0, k1, k2, k3, k4, k5⟩, ⟨r0, r1, r2, r3, r4⟩, ⟨q0, q1, q2, q3, q4⟩, c2⟩ := HM.out.facts
                    by_cases hlt : k < n
                    · have hlk : k < (keysE es).length := by rw [HKl.out]; exact hlt
                      obtain ⟨b, off, rfl, hbl, hcb⟩ := Texts.at_ HT.out hlk
                      obtain ⟨q, hq⟩ : ∃ q, q = (keysE es)[k] := ⟨_, rfl⟩
                      rw [← hq] at hcb
                      have hql : q.length < 4294967281 := HKb.out q (by rw [hq]; exact List.getElem_mem _)
                      obtain ⟨u, hu⟩ : ∃ u, u = underV q c.path := ⟨_, rfl⟩
                      have PU := Lib.hid (PUn.out q hql wr () esk HM.out)
                      rw [← hu] at PU
                      have HQ := Lib.hid hq
                      have HU := Lib.hid hu
                      have HLk := Lib.hid hlk
                      clear hq hu k0 k2 k3 k4 k5 r0 r1 r2 r3 r4 q0 q1 q2 q3 q4 c2
                      go_wp2_with fail
                      refine (PU.out).mono ?_
                      rintro e w4 ⟨rfl, hB4⟩
                      have HM4 := Lib.hid (HM.out.below hB4)
                      have HT4 := Lib.hid (Sees.below HT.out hB4)
                      clear hB4 PU HM HT hcb k1
                      cases u with
                      | false =>
                        go_wp2_with fail
                        exact ⟨⟨k + 1, esk, by omega, by go_num, HM4, HI.out.skip HLk.out (by rw [← HQ.out]; exact HU.out.symm), HT4⟩, by simp [intOf]; omega⟩
                      | true =>
                        have look := look_run HM4.out.tr.tm hql
                        have hel := HM4.out.tr.tm.looked q
                        have c2 := HM4.out.facts.2.2.2
                        have PT := Lib.hid (PTn.out q HU.out.symm)
                        have HI2 := Lib.hid (HI.out.move HLk.out (by rw [← HQ.out]; exact HU.out.symm))
                        rw [← HQ.out] at HI2
                        have hlen := HI.out.len
                        rw [HNe.out] at hlen
                        obtain ⟨tl, htl⟩ : ∃ tl, tl = q.drop c.path.length := ⟨_, rfl⟩
                        have htl2 : tl.length ≤ q.length := by rw [htl, List.length_drop]; omega
                        rw [← htl] at PT HI2
                        obtain ⟨y, hy⟩ : ∃ y, y = lookE q esk := ⟨_, rfl⟩
                        rw [← hy] at look hel HI2
                        clear htl hy HU HI HLk HQ
                        have hM5 := HM4.out.below ((Below.refl _ w4).alloc (Nat.le_refl _) (.cells #[.bool y.1.dir, .slice y.2.1 y.1.b.length y.2.2] 60))
                        have hT5 : Texts (w4.alloc (.cells #[.bool y.1.dir, .slice y.2.1 y.1.b.length y.2.2] 60)) (some ⟨b, off, none⟩) (keysE es) := Sees.below HT4.out ((Below.refl _ w4).alloc (Nat.le_refl _) _)
                        have hE5 := el_below hel ((Below.refl _ w4).alloc (Nat.le_refl _) (.cells #[.bool y.1.dir, .slice y.2.1 y.1.b.length y.2.2] 60))
                        have hN5 := heap_alloc_new w4 (.cells #[.bool y.1.dir, .slice y.2.1 y.1.b.length y.2.2] 60)
                        go_upto_region 25 with (fail)
                        clear look c2 hel HM4 HT4
                        generalize w4.alloc (.cells #[.bool y.1.dir, .slice y.2.1 y.1.b.length y.2.2] 60) = W5 at hM5 hT5 hE5 hN5 ⊢
                        generalize w4.heap.size = N5 at hN5 ⊢
                        have c2 := hM5.facts.2.2.2
                        have HM5 := Lib.hid hM5
                        have HT5 := Lib.hid hT5
                        have HE5 := Lib.hid hE5
                        have HN5 := Lib.hid hN5
                        clear hM5 hT5 hE5 hN5
                        go_wp2_with (first
                          | (at_delete; refine wpList_del_tr _ rfl _ _ 61 9 rfl 60 Tryz.underlying9 Tryz.underlying61 M esk rfl HM5.out.tr.tm q (by unfold maxLen; omega) rfl ?_; intro w6 hT6 ht6)
                          | go_in)
                        try go_frame
                        have hM6 := HM5.out.turned hT6 ht6
                        have hTx6 := texts_turned HT5.out ht6
                        have hE6 := el_turned HE5.out ht6
                        have hN6 := heap_touch HN5.out (turned_tch ht6) (box_ne' HN5.out ht6)
                        have hb1 : (delT q esk).length ≤ 200000 := Nat.le_trans (List.length_filter_le _ _) (by have h2 : n ≤ 100000 := HNn.out; omega)
                        have hb3 : c.to.length < 4294967281 := HTo.out
                        have hb2 : (c.to ++ tl).length ≤ 8589934592 := by rw [List.length_append]; omega
                        have hsum : ¬ 9223372036854775807 < (bs c.to).size + (bs tl).size := by rw [bs_size, bs_size]; omega
                        obtain ⟨w7, hrun, hT7, ht7⟩ := (hM6.tr.tm.below (Below.refl _ _).drew).store Tryz.underlying9 Tryz.underlying61 (Nat.lt_of_le_of_lt hb1 (by unfold maxLen; omega)) (p := c.to ++ tl) (Nat.le_trans hb2 (by unfold maxLen; omega)) (x := y) (el_below hE6 (Below.refl _ _).drew)
                        have hrun : (Instr.mapUpdate 61 (.map (some M)) (.string (bs c.to ++ bs tl)) (.agg #[.bool y.1.dir, .slice y.2.1 y.1.b.length y.2.2])).run Tryz.prog w6.drew = .ok () w7 := by rw [bs_app]; exact hrun
                        have hM7 := (hM6.below (Below.refl _ _).drew).turned hT7 ht7
                        have hTx7 := texts_turned (Sees.below hTx6 (Below.refl _ _).drew) ht7
                        have hN7 := heap_touch (heap_below hN6 (Below.refl _ _).drew) (turned_tch ht7) (box_ne hN6 ht7)
                        have hS6 : w6.cell? ⟨a, 2, none⟩ = some (.map (some M)) ∧ w6.cell? ⟨w.heap.size, 2, none⟩ = some (.string (bs c.to)) ∧ w6.cell? ⟨w.heap.size, 1, none⟩ = some (.string (bs c.path)) ∧ w6.cell? ⟨N5, 0, none⟩ = some (.bool y.1.dir) ∧ w6.cell? ⟨N5, 1, none⟩ = some (.slice y.2.1 y.1.b.length y.2.2) :=
                          ⟨hM6.facts.2.2.2, hM6.facts.1.2.2.1, hM6.facts.1.2.1, cell_of_row _ _ 0 _ _ _ hN6, cell_of_row _ _ 1 _ _ _ hN6⟩
                        have hS7 : w7.cell? ⟨a, 2, none⟩ = some (.map (some M)) ∧ w7.cell? ⟨w.heap.size, 2, none⟩ = some (.string (bs c.to)) ∧ w7.cell? ⟨w.heap.size, 1, none⟩ = some (.string (bs c.path)) ∧ w7.cell? ⟨N5, 0, none⟩ = some (.bool y.1.dir) ∧ w7.cell? ⟨N5, 1, none⟩ = some (.slice y.2.1 y.1.b.length y.2.2) :=
                          ⟨hM7.facts.2.2.2, hM7.facts.1.2.2.1, hM7.facts.1.2.1, cell_of_row _ _ 0 _ _ _ hN7, cell_of_row _ _ 1 _ _ _ hN7⟩
                        have HM7 := Lib.hid hM7
                        have HTx7 := Lib.hid hTx7
                        have HS6 := Lib.hid hS6
                        have HS7 := Lib.hid hS7
                        clear c2 hM6 hTx6 hE6 hN6 hT6 ht6 hT7 ht7 hM7 hTx7 hN7 hS6 hS7 HM5 HT5 HE5 HN5
                        go_wp2_with fail
                        go_region_held3 (fun U => U.cell? ⟨a, 2, none⟩ = some (.map (some M)) ∧ U.cell? ⟨w.heap.size, 2, none⟩ = some (.string (bs c.to)) ∧ U.cell? ⟨w.heap.size, 1, none⟩ = some (.string (bs c.path)) ∧ U.cell? ⟨N5, 0, none⟩ = some (.bool y.1.dir) ∧ U.cell? ⟨N5, 1, none⟩ = some (.slice y.2.1 y.1.b.length y.2.2))
                          (first | exact HS7.out | exact HS6.out)
                          (first | (go_at_call 75; refine (PT.out _).mono ?_; rintro e w9 ⟨rfl, rfl⟩))
                        all_goals
                          rename_i FS
                          clear FS hrun
                          go_wp2_with fail
                          exact ⟨⟨k + 1, _, by omega, by go_num, HM7, HI2, HTx7⟩, by simp [intOf]; omega⟩
                    · obtain rfl : k = n := by omega
                      have HL : Hid (V = (moveV c.path c.to (ths es), {})) := HV
                      have hl2 : ths esk = moveV c.path c.to (ths es) := by
                        rw [HI.out.ths_]
                        unfold moveV
                        rw [keys_ths, List.take_of_length_le (by rw [HKl.out]; exact Nat.le_refl _)]
                      have HL2 := Lib.hid hl2
                      clear hl2
                      go_wp2_with fail
                      refine bodyPost_ret (ret_ans rfl (by rfl) (set5B _ _ _ _ _ HM.out.rb)) rfl ?_
                      rw [HL.out]
                      exact HM.out.fin {} (.inl rfl) (.inl rfl) HL2.out
        · have t0 : (uc != 0) = true := by simpa using h0
          have hl : V = (ths es, wrongV uc) := by rw [HV.out, if_neg h0]
          have HL := Lib.hid hl
          clear h0 hl P6 P7 P8
          have P9 := Lib.hid (wrong_any uc W7)
          go_wp2_with fail
          refine (P9.out).mono ?_
          rintro e w9 ⟨rfl, hB9⟩
          have hF9 := HF7.out.below hB9
          clear k0 k1 k2 k3 k4 k5 r0 r1 r2 r3 r4 q0 q1 q2 q3 q4 c2 hB9 
          obtain ⟨⟨k0, k1, k2, k3, k4, k5⟩, ⟨r0, r1, r2, r3, r4⟩, ⟨q0, q1, q2, q3, q4⟩, c2⟩ := hF9.facts
          have HF9 := Lib.hid hF9
          clear hF9
          go_wp2_with fail
          refine bodyPost_ret (ret_ans rfl (by rfl) (set5B _ _ _ _ _ HF9.out.rb)) rfl ?_
          rw [HL.out]
          exact HF9.out.no uc
end Go.Proofs.YtabecceojbeomaaGreatDoor
