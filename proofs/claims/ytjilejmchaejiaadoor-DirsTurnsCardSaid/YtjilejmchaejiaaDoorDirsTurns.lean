/- The walk of the law DirsTurns: it answers true, whatever comes in. Condition: the library's variable MaxLen holds an int. -/
import Derived.Test.YtjilejmchaejiaaDoorEntRAdd
import Derived.Test.YtjilejmchaejiaaDoorEntLike
import Derived.Test.YtjilejmchaejiaaDoorDirsPaths
namespace Go.Cat.Dir
open Go.RowKit Go.Cat
theorem add_back {l : List Ent} {e : Ent} (h : (addE l e).2 = 0) : removeE (addE l e).1 e.1 = (l, 0) := by
  by_cases h1 : checkE l = 0
  · cases h2 : nameB e.1 with
    | false => rw [add_name h1 h2] at h; cases h
    | true =>
      cases h3 : nodeB e.2 with
      | false => rw [add_form h1 h2 h3] at h; cases h
      | true =>
        by_cases h4 : ixE l e.1 < l.length
        · rw [add_there h1 h2 h3 h4] at h; cases h
        · by_cases h5 : 32 ≤ l.length
          · rw [add_big h1 h2 h3 h4 h5] at h; cases h
          · rw [add_ok h1 h2 h3 h4 h5]
            exact (ins_fine h1 h2 h3 h4 h5).2
  · rw [add_err h1] at h
    exact absurd h h1
theorem add_len (l : List Ent) (e : Ent) : (addE l e).1.length ≤ l.length + 1 := by
  unfold addE
  repeat' split
  all_goals first | (simp; done) | (rw [ins_length]; exact Nat.le_refl _)
theorem rem_len (l : List Ent) (x : Txt) : (removeE l x).1.length ≤ l.length := by
  unfold removeE
  repeat' split
  all_goals first | (simp; done) | (simp only [List.length_eraseIdx]; split <;> omega)
end Go.Cat.Dir
namespace Go.Proofs.YtjilejmchaejiaaDoor
open Go.RowKit Go.Cat Go.Cat.Dir

set_option maxRecDepth 100000 in
set_option maxHeartbeats 8000000 in
theorem turns_walk (A : Option Addr) (c : Nat) (l : List Ent) (x : Txt) (y : Int) (nm : Txt) (m : Int) (w : World) (hm : MaxL m w) (hs : Sees w A (erows l)) (hn : l.length ≤ 9223372036854775807) (hlc : l.length ≤ c) (hcm : c ≤ 9223372036854775807) :
    Calls Tryd.prog 6 #[.slice A l.length c, .agg #[.string (bs x), .int .i64 y], .string (bs nm)] w fun e w' => e = .returned (.bool true) ∧ Below w.heap.size w w' := by
  obtain ⟨W0, hW0⟩ : ∃ W0, W0 = w.alloc (.cells #[.string (bs x), .int .i64 y] 54) := ⟨_, rfl⟩
  obtain ⟨g, hg⟩ : ∃ g, g = w.heap.size := ⟨_, rfl⟩
  have h0 : BoxE g x y 54 w W0 := by rw [hg, hW0]; exact BoxE.new _ _ _ _
  have p1 := far_any A l c W0 (hs.below h0.bel) hn
  have p1b := far_any (some ⟨W0.heap.size, 0, none⟩) [(x, y)] 1 (W0.alloc (.cells #[.string (bs x), .int .i64 y] 54)) (sees_new W0 (entC (x, y)) _) (by simp)
  have hx := bs_size nm
  have p2 := fun (h : l.length ≤ 40) W (h2 : Below w.heap.size w W) => ours_any A l c W (hs.below h2) (by omega)
  have p3 := fun (h : l.length ≤ 40) B d W (h2 : Sees W B (erows l)) => dadd_any B l d x y W h2 (by omega)
  have p4 := fun (h : l.length ≤ 40) W (h2 : Below w.heap.size w W) => radd_any A l c x y W (hs.below h2) (by omega) hlc hcm
  have p5 := fun (h : l.length ≤ 40) B d W (h2 : Sees W B (erows l)) => dremove_any B l d nm W h2 (by omega)
  have p6 := fun (h : l.length ≤ 40) W (h2 : Below w.heap.size w W) => rremove_any A l c nm W (hs.below h2) (by omega)
  have p7 := fun (h : l.length ≤ 40) B d W (h2 : Sees W B (erows l)) => dfind_any B l d nm W h2 (by omega)
  have p8 := fun (h : l.length ≤ 40) W (h2 : Below w.heap.size w W) => rfind_any A l c nm W (hs.below h2) (by omega)
  have p9 := fun (h : l.length ≤ 40) B C d e W (h2 : Sees W B (erows (addE l (x, y)).1)) (h3 : Sees W C (erows (addE l (x, y)).1)) => elike_yes B C (addE l (x, y)).1 d e W h2 h3 (by have := add_len l (x, y); omega)
  have p10 := fun (h : l.length ≤ 40) B C d e W (h2 : Sees W B (erows (removeE l nm).1)) (h3 : Sees W C (erows (removeE l nm).1)) => elike_yes B C (removeE l nm).1 d e W h2 h3 (by have := rem_len l nm; omega)
  have p11 := fun (h : l.length ≤ 40) B d W (h2 : Sees W B (erows (addE l (x, y)).1)) => dremove_any B (addE l (x, y)).1 d x W h2 (by have := add_len l (x, y); omega)
  have p12 := fun (h : l.length ≤ 40) B d W (h2 : Sees W B (erows l)) => dnames_any B l d W h2 (by omega)
  have p13 := fun (h : l.length ≤ 40) B C d e W (h2 : Texts W B (l.map (·.1))) (h3 : Texts W C (l.map (·.1))) => sametexts_any B C (l.map (·.1)) (l.map (·.1)) d e W h2 h3 (by rw [List.length_map]; omega)
  have p14 := fun (h : l.length ≤ 40) B d W (h2 : Sees W B (erows l)) (h3 : Below w.heap.size w W) => elike_yes B A l d c W h2 (hs.below h3) (by omega)
  have p15 : (addE l (x, y)).2 = 0 → removeE (addE l (x, y)).1 x = (l, 0) := add_back (e := (x, y))
  unfold ToldL at p2
  unfold ToldV at p3 p4 p5 p6 p11
  unfold ToldF at p7 p8
  unfold ToldT at p12
  rw [List.length_map] at p12
  simp only [List.length_map, decide_true] at p13
  obtain ⟨V1, hV1⟩ : ∃ V1, V1 = (addE l (x, y)).1 := ⟨_, rfl⟩
  obtain ⟨z1, hz1⟩ : ∃ z1, z1 = (addE l (x, y)).2 := ⟨_, rfl⟩
  rw [← hV1] at p3 p4 p9 p11 p15
  rw [← hz1] at p3 p4 p15
  obtain ⟨V2, hV2⟩ : ∃ V2, V2 = (removeE l nm).1 := ⟨_, rfl⟩
  obtain ⟨z2, hz2⟩ : ∃ z2, z2 = (removeE l nm).2 := ⟨_, rfl⟩
  rw [← hV2] at p5 p6 p10
  rw [← hz2] at p5 p6
  obtain ⟨n1, hn1⟩ : ∃ n1, n1 = V1.length := ⟨_, rfl⟩
  rw [← hn1] at p3 p4 p9 p11
  obtain ⟨n2, hn2⟩ : ∃ n2, n2 = V2.length := ⟨_, rfl⟩
  rw [← hn2] at p5 p6 p10
  obtain ⟨z3, hz3⟩ : ∃ z3, z3 = findE l nm := ⟨_, rfl⟩
  obtain ⟨b3, hb3⟩ : ∃ b3, b3 = hasE l nm := ⟨_, rfl⟩
  rw [← hz3, ← hb3] at p7 p8
  have PA := Lib.hid (fun W (h : MaxL m W) => dawake_any m W h)
  obtain ⟨n, hnn⟩ : ∃ n, n = l.length := ⟨_, rfl⟩
  have HN := Lib.hid hnn
  have HS := Lib.hid hs
  have HM : Hid (MaxL m w) := hm
  rw [← hnn] at p1 p2 p3 p4 p5 p6 p7 p8 p9 p10 p11 p12 p13 p14 hn hlc ⊢
  have P1 := Lib.hid p1
  have P1b := Lib.hid p1b
  have P2 := Lib.hid p2
  have P3 := Lib.hid p3
  have P4 := Lib.hid p4
  have P5 := Lib.hid p5
  have P6 := Lib.hid p6
  have P7 := Lib.hid p7
  have P8 := Lib.hid p8
  have P9 := Lib.hid p9
  have P10 := Lib.hid p10
  have P11 := Lib.hid p11
  have P12 := Lib.hid p12
  have P13 := Lib.hid p13
  have P14 := Lib.hid p14
  have P15 := Lib.hid p15
  have H0 := Lib.hid h0
  have HW0 := Lib.hid hW0
  have hx2 : 30 < nm.length ∨ ¬ 30 < nm.length := Classical.em _
  have e1 : (z1 != z1) = false := by simp
  have e2 : (z2 != z2) = false := by simp
  have e3 : (z3 != z3) = false := by simp
  have e4 : (b3 != b3) = false := by simp
  clear p1 p1b p2 p3 p4 p5 p6 p7 p8 p9 p10 p11 p12 p13 p14 p15 hV1 hz1 hV2 hz2 hn1 hn2 hz3 hb3 hnn hs h0 hW0 hm
  go_enter Tryd.func6, Tryd.ntmps6
  go_upto_region 1 with (fail)
  rw [← HW0.out, ← hg]
  clear hg
  go_wp2_with fail
  refine (P1.out).mono ?_
  rintro e w1 ⟨⟨f, rfl, hf⟩, rfl⟩
  clear P1
  cases f with
  | true =>
    have PA' := Lib.hid (PA.out W0 (HM.out.below H0.out.bel))
    clear hf
    go_wp2_with fail
    refine (PA'.out).mono ?_
    rintro e w7 ⟨rfl, hB7⟩
    have H7 := Lib.hid (H0.out.below hB7)
    clear hB7
    go_wp2_with fail
    go_ret
    exact ⟨rfl, H7.out.bel⟩
  | false =>
    have hl : n ≤ 40 := (hf rfl).1
    replace P2 := Lib.hid (P2.out hl)
    replace P3 := Lib.hid (P3.out hl)
    replace P4 := Lib.hid (P4.out hl)
    replace P5 := Lib.hid (P5.out hl)
    replace P6 := Lib.hid (P6.out hl)
    replace P7 := Lib.hid (P7.out hl)
    replace P8 := Lib.hid (P8.out hl)
    replace P9 := Lib.hid (P9.out hl)
    replace P10 := Lib.hid (P10.out hl)
    replace P11 := Lib.hid (P11.out hl)
    replace P12 := Lib.hid (P12.out hl)
    replace P13 := Lib.hid (P13.out hl)
    replace P14 := Lib.hid (P14.out hl)
    clear hf
    obtain ⟨c0, c1⟩ := H0.out.cells
    go_wp2_with fail
    refine (P1b.out).mono ?_
    rintro e w1 ⟨⟨f, rfl, hf⟩, rfl⟩
    have H1 := Lib.hid (H0.out.below ((Below.refl W0.heap.size W0).alloc (Nat.le_refl _) (.cells #[.string (bs x), .int .i64 y] 54)))
    obtain ⟨w1, hw1⟩ : ∃ w1, w1 = W0.alloc (.cells #[.string (bs x), .int .i64 y] 54) := ⟨_, rfl⟩
    rw [← hw1] at H1 ⊢
    clear hf hw1 P1b c0 c1
    cases f with
    | true =>
      have PA' := Lib.hid (PA.out w1 (HM.out.below H1.out.bel))
      go_wp2_with fail
      refine (PA'.out).mono ?_
      rintro e w7 ⟨rfl, hB7⟩
      have H7 := Lib.hid (H1.out.below hB7)
      clear hB7
      go_wp2_with fail
      go_ret
      exact ⟨rfl, H7.out.bel⟩
    | false =>
      rcases hx2 with hx30 | hx30
      · have dx : (30 : Int) < ((bs nm).size : Int) := by omega
        have dx2 : 30 < (bs nm).size := by omega
        have PA' := Lib.hid (PA.out w1 (HM.out.below H1.out.bel))
        clear hx hx30
        go_wp2_with fail
        refine (PA'.out).mono ?_
        rintro e w7 ⟨rfl, hB7⟩
        have H7 := Lib.hid (H1.out.below hB7)
        clear hB7
        go_wp2_with fail
        go_ret
        exact ⟨rfl, H7.out.bel⟩
      · have dx : ¬ (30 : Int) < ((bs nm).size : Int) := by omega
        have dx2 : ¬ 30 < (bs nm).size := by omega
        obtain ⟨c0, c1⟩ := H1.out.cells
        clear hx hx30
        go_wp2_with fail
        go_region_law (first
          | (go_simp; go_at_call 19; refine (P2.out w1.drew H1.out.bel.drew).mono ?_; rintro e w2 ⟨A2, c2, rfl, hs2, hB2⟩; have H2 := Lib.hid (H1.out.below (below_undrew hB2)); obtain ⟨b0, b1⟩ := H2.out.cells; have HS2 := Lib.hid hs2; clear hs2 hB2)
          | (go_simp; go_at_call 30; refine (P3.out A2 c2 w2 HS2.out).mono ?_; rintro e w3 ⟨A3, c3, rfl, hs3, hB3⟩; have H3 := Lib.hid (H2.out.below hB3); have HS3 := Lib.hid hs3; clear hs3 hB3)
          | fail)
        all_goals
          clear c0 c1
          obtain ⟨c0, c1⟩ := H3.out.cells
          have P4' := Lib.hid (P4.out w3 H3.out.bel)
          go_wp2_with fail
          refine (P4'.out).mono ?_
          rintro e w4 ⟨A4, c4, rfl, hs4, hB4⟩
          have H4 := Lib.hid (H3.out.below hB4)
          have HS4 := Lib.hid hs4
          have HS3' := Lib.hid (HS3.out.below hB4)
          have P2' := Lib.hid (P2.out w4 H4.out.bel)
          clear c0 c1 b0 b1 hs4 hB4 P4' HS3 H3 H2 HS2
          go_wp2_with fail
          refine (P2'.out).mono ?_
          rintro e w5 ⟨A5, c5, rfl, hs5, hB5⟩
          have H5 := Lib.hid (H4.out.below hB5)
          have HS4' := Lib.hid (HS4.out.below hB5)
          have HS3 := Lib.hid (HS3'.out.below hB5)
          have P5' := Lib.hid (P5.out A5 c5 w5 hs5)
          clear hs5 hB5 P2' HS4 HS3' H4
          go_wp2_with fail
          refine (P5'.out).mono ?_
          rintro e w6 ⟨A6, c6, rfl, hs6, hB6⟩
          have H6 := Lib.hid (H5.out.below hB6)
          have HS4 := Lib.hid (HS4'.out.below hB6)
          have HS3' := Lib.hid (HS3.out.below hB6)
          have HS6 := Lib.hid hs6
          have P6' := Lib.hid (P6.out w6 H6.out.bel)
          clear hs6 hB6 P5' HS4' HS3 H5
          go_wp2_with fail
          refine (P6'.out).mono ?_
          rintro e w7 ⟨A7, c7, rfl, hs7, hB7⟩
          have H7 := Lib.hid (H6.out.below hB7)
          have HS4' := Lib.hid (HS4.out.below hB7)
          have HS3 := Lib.hid (HS3'.out.below hB7)
          have HS6' := Lib.hid (HS6.out.below hB7)
          have HS7 := Lib.hid hs7
          have P2' := Lib.hid (P2.out w7 H7.out.bel)
          clear hs7 hB7 P6' HS4 HS3' HS6 H6
          go_wp2_with fail
          refine (P2'.out).mono ?_
          rintro e w8 ⟨A8, c8, rfl, hs8, hB8⟩
          have H8 := Lib.hid (H7.out.below hB8)
          have HS4 := Lib.hid (HS4'.out.below hB8)
          have HS3' := Lib.hid (HS3.out.below hB8)
          have HS6 := Lib.hid (HS6'.out.below hB8)
          have HS7' := Lib.hid (HS7.out.below hB8)
          have P7' := Lib.hid (P7.out A8 c8 w8 hs8)
          clear hs8 hB8 P2' HS4' HS3 HS6' HS7 H7
          go_wp2_with fail
          refine (P7'.out).mono ?_
          rintro e w9 ⟨rfl, hB9⟩
          have H9 := Lib.hid (H8.out.below hB9)
          have HS4' := Lib.hid (HS4.out.below hB9)
          have HS3 := Lib.hid (HS3'.out.below hB9)
          have HS6' := Lib.hid (HS6.out.below hB9)
          have HS7 := Lib.hid (HS7'.out.below hB9)
          have P8' := Lib.hid (P8.out w9 H9.out.bel)
          clear hB9 P7' HS4 HS3' HS6 HS7' H8
          go_wp2_with fail
          refine (P8'.out).mono ?_
          rintro e w10 ⟨rfl, hB10⟩
          have H10 := Lib.hid (H9.out.below hB10)
          have HS4 := Lib.hid (HS4'.out.below hB10)
          have HS3' := Lib.hid (HS3.out.below hB10)
          have HS6 := Lib.hid (HS6'.out.below hB10)
          have HS7' := Lib.hid (HS7.out.below hB10)
          have P9' := Lib.hid (P9.out A3 A4 c3 c4 w10 HS3'.out HS4.out)
          clear hB10 P8' HS4' HS3 HS6' HS7 H9
          go_wp2_with fail
          refine (P9'.out).mono ?_
          rintro e w11 ⟨rfl, hB11⟩
          have H11 := Lib.hid (H10.out.below hB11)
          have HS3 := Lib.hid (HS3'.out.below hB11)
          have P10' := Lib.hid (P10.out A6 A7 c6 c7 w11 (HS6.out.below hB11) (HS7'.out.below hB11))
          clear hB11 P9' HS3' HS6 HS7' HS4 H10
          go_wp2_with fail
          refine (P10'.out).mono ?_
          rintro e w12 ⟨rfl, hB12⟩
          have H12 := Lib.hid (H11.out.below hB12)
          have HS3' := Lib.hid (HS3.out.below hB12)
          clear hB12 P10' HS3 H11
          go_wp2_with fail
          go_loopw [19, 20] (fun ov iv wr => ∃ (k : Nat) (A2 : Option Addr) (c2 : Nat), k ≤ n ∧ iv = .int .i64 k ∧ ov = .slice A2 k c2 ∧ Hid (wr.ownsRow w12.heap.size 9 1 (.slice A2 k c2) k ((l.take k).map fun e => sv e.1)) ∧ Hid (Below w12.heap.size w12 wr)) (fun _ iv _ => n - (intOf iv).toNat)
          case atStart => exact ⟨0, none, 0, Nat.zero_le _, rfl, rfl, World.ownsRow_nil _ _ _ _, Below.refl _ _⟩
          case round =>
            obtain ⟨k, A9, c9, hk, rfl, rfl, HO, HB⟩ := hrel
            have Hr := Lib.hid (H12.out.below HB.out)
            by_cases hlt : k < n
            · have t1 : decide ((k : Int) < (n : Int)) = true := by simp; omega
              have hkl : k < l.length := by have := HN.out; omega
              obtain ⟨b0, off, hA, hbl, q0, q1⟩ := erows_at (HS.out.below Hr.out.bel) hkl
              have htk : (l.take (k + 1)).map (fun e => sv e.1) = (l.take k).map (fun e => sv e.1) ++ [sv l[k].1] := by rw [List.take_succ_eq_append_getElem hkl, List.map_append]; rfl
              obtain ⟨u, hu⟩ : ∃ u, u = l[k].1 := ⟨_, rfl⟩
              rw [← hu] at q0 htk
              subst hA
              have hkI : (k : Int) < (n : Int) := by omega
              have hk0 : (0 : Int) ≤ (k : Int) := by omega
              have HTk := Lib.hid htk
              have hsz : w12.heap.size ≤ (wr.alloc (.cells #[.string (bs u)] 9)).heap.size := by have := HB.out.size; simp; omega
              have HSz := Lib.hid hsz
              clear hu htk hkl hsz hbl q1
              go_wp2_with (at_builtin; refine wpList_app elem_str rfl (.tmp 115) (.tmp 121) rfl w12.heap.size (.slice A9 k c9) k ((l.take k).map fun e => sv e.1) rfl (World.ownsRow.alloc HO.out _) (some ⟨_, 0, none⟩) 1 1 [.string (bs u)] rfl (sees_new _ _ _) rfl (by intro u hu; simp at hu; subst hu; rfl) (by omega) HSz.out ?_; intro v2 w2 hown hgr _; obtain ⟨A10, c10, rfl, _, _⟩ := own_full hown)
              have ho2 : w2.ownsRow w12.heap.size 9 1 (.slice A10 (k + 1) c10) (k + 1) ((l.take (k + 1)).map fun e => sv e.1) := by rw [HTk.out]; exact hown
              have hb2 : Below w12.heap.size w12 w2 := (HB.out.alloc HB.out.size _).own (World.ownsRow.alloc HO.out _) hgr HSz.out (Nat.le_refl _)
              have HO2 := Lib.hid ho2
              have HB2 := Lib.hid hb2
              clear hown hgr ho2 hb2
              go_wp2_with fail
              go_roundw
              case rel => exact ⟨k + 1, A10, c10, by omega, by go_num, rfl, HO2.out, HB2.out⟩
              case measure => simp [intOf]; omega
            · obtain rfl : k = n := by omega
              have t1 : decide ((k : Int) < (k : Int)) = false := by simp
              have hall : l.take k = l := by rw [HN.out]; exact List.take_length
              rw [hall] at HO
              have HTx : Hid (Texts wr A9 (l.map (·.1))) := by
                have := Sees.of_own HO.out
                show Sees _ _ _
                rw [List.map_map]
                exact this
              clear hall HO
              obtain ⟨c0, c1⟩ := Hr.out.cells
              by_cases hz1 : z1 = 0
              · have dz : (z1 != 0) = false := by simpa using hz1
                have hb15 := P15.out hz1
                have P11' : Hid (Calls Tryd.prog 32 #[.slice A3 n1 c3, .string (bs x)] wr fun e w' => ∃ A c, e = .returned (.tuple #[.slice A k c, .int .i64 0]) ∧ Sees w' A (erows l) ∧ Below wr.heap.size wr w') := by
                  have h := P11.out A3 c3 wr (HS3'.out.below HB.out)
                  rw [hb15, show ((l, (0 : Int)) : List Ent × Int).1.length = k from HN.out.symm] at h
                  exact h
                clear hz1 hb15 P11 P15
                go_wp2_with fail
                refine (P11'.out).mono ?_
                rintro e w13 ⟨A11, c11, rfl, hs11, hB13⟩
                have H13 := Lib.hid (Hr.out.below hB13)
                have HS11 := Lib.hid hs11
                have HTx' := Lib.hid (HTx.out.below hB13)
                have P2' := Lib.hid (P2.out w13 H13.out.bel)
                clear hs11 hB13 P11' HTx c0 c1
                go_wp2_with fail
                refine (P2'.out).mono ?_
                rintro e w14 ⟨A12, c12, rfl, hs12, hB14⟩
                have H14 := Lib.hid (H13.out.below hB14)
                have HS11' := Lib.hid (HS11.out.below hB14)
                have HTx := Lib.hid (HTx'.out.below hB14)
                have P12' := Lib.hid (P12.out A12 c12 w14 hs12)
                clear hs12 hB14 P2' HS11 HTx' H13
                go_wp2_with fail
                refine (P12'.out).mono ?_
                rintro e w15 ⟨A13, c13, rfl, hs13, hB15⟩
                have H15 := Lib.hid (H14.out.below hB15)
                have HS11 := Lib.hid (HS11'.out.below hB15)
                have P13' := Lib.hid (P13.out A13 A9 c13 c9 w15 hs13 (HTx.out.below hB15))
                clear hs13 hB15 P12' HS11' HTx H14
                go_wp2_with fail
                refine (P13'.out).mono ?_
                rintro e w16 ⟨rfl, hB16⟩
                have H16 := Lib.hid (H15.out.below hB16)
                have P14' := Lib.hid (P14.out A11 c11 w16 (HS11.out.below hB16) H16.out.bel)
                clear hB16 P13' HS11 H15
                go_wp2_with fail
                refine (P14'.out).mono ?_
                rintro e w17 ⟨rfl, hB17⟩
                have H17 := Lib.hid (H16.out.below hB17)
                have PA' := Lib.hid (PA.out w17 (HM.out.below H17.out.bel))
                clear hB17 P14'
                go_wp2_with fail
                refine (PA'.out).mono ?_
                rintro e w18 ⟨rfl, hB18⟩
                have H18 := Lib.hid (H17.out.below hB18)
                clear hB18
                go_wp2_with fail
                go_ret
                exact ⟨rfl, H18.out.bel⟩
              · have dz : (z1 != 0) = true := by simpa using hz1
                have P11' := Lib.hid (P11.out A3 c3 wr (HS3'.out.below HB.out))
                obtain ⟨R3, hR3⟩ : ∃ R3, R3 = removeE V1 x := ⟨_, rfl⟩
                rw [← hR3] at P11'
                clear hz1 P11 P15 hR3
                go_wp2_with fail
                refine (P11'.out).mono ?_
                rintro e w13 ⟨A11, c11, rfl, _, hB13⟩
                have H13 := Lib.hid (Hr.out.below hB13)
                have HTx' := Lib.hid (HTx.out.below hB13)
                have P2' := Lib.hid (P2.out w13 H13.out.bel)
                clear hB13 P11' HTx c0 c1
                go_wp2_with fail
                refine (P2'.out).mono ?_
                rintro e w14 ⟨A12, c12, rfl, hs12, hB14⟩
                have H14 := Lib.hid (H13.out.below hB14)
                have HTx := Lib.hid (HTx'.out.below hB14)
                have P12' := Lib.hid (P12.out A12 c12 w14 hs12)
                clear hs12 hB14 P2' HTx' H13
                go_wp2_with fail
                refine (P12'.out).mono ?_
                rintro e w15 ⟨A13, c13, rfl, hs13, hB15⟩
                have H15 := Lib.hid (H14.out.below hB15)
                have P13' := Lib.hid (P13.out A13 A9 c13 c9 w15 hs13 (HTx.out.below hB15))
                clear hs13 hB15 P12' HTx H14
                go_wp2_with fail
                refine (P13'.out).mono ?_
                rintro e w16 ⟨rfl, hB16⟩
                have H17 := Lib.hid (H15.out.below hB16)
                have PA' := Lib.hid (PA.out w16 (HM.out.below H17.out.bel))
                clear hB16 P13'
                go_wp2_with fail
                refine (PA'.out).mono ?_
                rintro e w18 ⟨rfl, hB18⟩
                have H18 := Lib.hid (H17.out.below hB18)
                clear hB18
                go_wp2_with fail
                go_ret
                exact ⟨rfl, H18.out.bel⟩
end Go.Proofs.YtjilejmchaejiaaDoor
