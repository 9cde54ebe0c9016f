/- The contracts of the reference's Above and SameTexts, of dirs.Under and of the reference's. Condition: paths below 2^32 bytes; the library's variable MaxLen holds an int. -/
import Derived.Test.YtabecceojbeomaaGreatDoorDirAbove
import Derived.Test.YtabecceojbeomaaGreatDoorSame
namespace Go.Proofs.YtabecceojbeomaaGreatDoor
open Go.RowKit Go.Cat Go.Cat.Dir

set_option maxRecDepth 100000 in
set_option maxHeartbeats 2000000 in
theorem rabove_any (p : Txt) (w : World) (hp : p.length < 4294967281) :
    Calls Tryz.prog 63 #[.string (bs p)] w (ToldAb p w) := by
  have P1 := Lib.hid (rsplit_any p w hp)
  clear hp
  cases hs : splitV p with
  | none =>
    obtain ⟨h1, h2⟩ := spl_none hs
    have HF := Lib.hid (above_none hs)
    unfold ToldSp at P1
    rw [h1, h2] at P1
    clear hs h1 h2
    go_enter Tryz.func63, Tryz.ntmps63
    go_wp2_with fail
    refine (P1.out).mono ?_
    rintro e w1 ⟨A1, c1, rfl, _, _, _, hB1⟩
    have HB1 := Lib.hid hB1
    clear hB1
    go_wp2_with fail
    refine bodyPost_ret (v := .tuple #[.string ⟨#[]⟩, .string ⟨#[]⟩, .int .i64 18]) (by simp [results, Tryz.results63, go_sem]) rfl ?_
    exact ToldAb.no HF.out HB1.out
  | some ls =>
    obtain ⟨h1, h2⟩ := spl_some hs
    unfold ToldSp at P1
    rw [h1, h2] at P1
    obtain ⟨_, h8, hnm, _⟩ := split_some hs
    by_cases h0 : ls = []
    · subst h0
      have HF := Lib.hid (above_root hs)
      clear hs h1 h2 h8 hnm
      go_enter Tryz.func63, Tryz.ntmps63
      go_wp2_with fail
      refine (P1.out).mono ?_
      rintro e w1 ⟨A1, c1, rfl, _, _, _, hB1⟩
      have HB1 := Lib.hid hB1
      clear hB1
      go_wp2_with fail
      refine bodyPost_ret (v := .tuple #[.string ⟨#[]⟩, .string ⟨#[]⟩, .int .i64 18]) (by simp [results, Tryz.results63, go_sem]) rfl ?_
      exact ToldAb.no HF.out HB1.out
    · have hpos := List.length_pos_iff.2 h0
      have HF := Lib.hid (above_some hs h0)
      have hj : ((ls.take (ls.length - 1)).flatMap (fun l => 47 :: l)).length ≤ 1000000 := by
        have := names_len (ls := ls.take (ls.length - 1)) (fun l hl => hnm l (List.mem_of_mem_take hl))
        rw [List.length_take] at this
        omega
      have hlt : (ls.take (ls.length - 1)).length = ls.length - 1 := by rw [List.length_take]; omega
      have PJ0 := fun A c W (h : Texts W A ls) => rjoin_any A (ls.take (ls.length - 1)) c W (Texts.take_ h _) hj (by omega)
      rw [hlt] at PJ0
      obtain ⟨n, hn⟩ : ∃ n, n = ls.length := ⟨_, rfl⟩
      obtain ⟨k, hk⟩ : ∃ k, k = ls.length - 1 := ⟨_, rfl⟩
      have hkl : k < ls.length := by omega
      have hat := fun A W (h : Texts W A ls) => Texts.at_ h hkl
      obtain ⟨l, hl⟩ : ∃ l, l = ls[k] := ⟨_, rfl⟩
      rw [← hl] at hat
      have HF2 : Hid (abv p = (joinV (ls.take k), l) ∧ abe p = 0) := by
        show _ ∧ _
        have := HF.out
        simp only [← hk] at this
        rw [hl]
        exact this
      rw [← hk] at PJ0
      rw [← hn] at P1
      have hnk : n = k + 1 := by omega
      have hkI : IntKind.i64.wrap ((n : Int) - 1) = (k : Int) := by rw [hnk]; exact (IntWalk.i64_in _ (by omega)).trans (by omega)
      subst hnk
      have PJ := Lib.hid PJ0
      have HAt := Lib.hid hat
      have t0 : (((k + 1 : Nat) : Int) == 0) = false := by rw [beq_eq_false_iff_ne]; omega
      have hk8 : k ≤ 7 := by omega
      clear hs h1 h2 h8 hnm h0 hpos HF hj hlt PJ0 hk hkl hat hl hkI hn
      go_enter Tryz.func63, Tryz.ntmps63
      go_wp2_with fail
      refine (P1.out).mono ?_
      rintro e w1 ⟨A1, c1, rfl, ht1, hc1, hm1, hB1⟩
      obtain ⟨b, off, rfl, hbl, hc⟩ := HAt.out A1 w1 ht1
      have hkc : k ≤ c1 := by omega
      have hkcI : (k : Int) ≤ (c1 : Int) := by omega
      have hk0 : (0 : Int) ≤ (k : Int) := by omega
      have hkk : (k : Int) < (k : Int) + 1 := by omega
      have HT1 := Lib.hid ht1
      have HB1 := Lib.hid hB1
      have hM1 := hm1
      unfold maxLen at hM1
      clear ht1 hB1 hm1
      have hwr : IntKind.i64.wrap ((k : Int) + 1 - 1) = (k : Int) := (IntWalk.i64_in _ (by omega)).trans (by omega)
      have hwr2 : IntKind.i64.wrap (k : Int) = (k : Int) := IntWalk.i64_in _ (by omega)
      have f1 := hc
      go_wp2_with fail
      go_region_law (first
        | (go_simp; go_at_call 67; refine (PJ.out _ _ _ (HT1.out.below (Below.refl _ _).drew)).mono ?_; rintro e w5 ⟨rfl, rfl⟩)
        | fail)
      all_goals
        go_wp2_with fail
        refine bodyPost_ret (v := .tuple #[.string (bs (joinV (ls.take k))), .string (bs l), .int .i64 0]) (by simp [results, Tryz.results63, go_sem]) rfl ?_
        unfold ToldAb
        rw [HF2.out.1, HF2.out.2]
        exact ⟨rfl, HB1.out.drew⟩

set_option maxRecDepth 100000 in
set_option maxHeartbeats 1000000 in
theorem sametexts_any (A B : Option Addr) (xs ys : List Txt) (c d : Nat) (w : World) (ha : Texts w A xs) (hb : Texts w B ys) (hx : xs.length ≤ 1000000) :
    Calls Tryz.prog 30 #[.slice A xs.length c, .slice B ys.length d] w fun e w' => e = .returned (.bool (decide (xs = ys))) ∧ Below w.heap.size w w' := by
  obtain ⟨V, hV⟩ : ∃ V, V = decide (xs = ys) := ⟨_, rfl⟩
  rw [← hV]
  by_cases hl : xs.length = ys.length
  · obtain ⟨n, hn⟩ : ∃ n, n = xs.length := ⟨_, rfl⟩
    have hn' : n = ys.length := by rw [hn, hl]
    rw [← hn] at hx
    rw [← hl, ← hn]
    have t0 : ((n : Int) != (n : Int)) = false := by simp
    have HN := Lib.hid hn
    have HM := Lib.hid hn'
    have HV := Lib.hid hV
    have HA := Lib.hid ha
    have HBs := Lib.hid hb
    clear hl hn hn' hV ha hb
    go_enter Tryz.func30, Tryz.ntmps30
    go_wp2
    go_loopw [5] (fun i wr => ∃ k : Nat, k ≤ n ∧ i = .int .i64 k ∧ Hid (xs.take k = ys.take k) ∧ ∃ d, wr = w.drewN d) (fun i _ => n - (intOf i).toNat)
    case atStart => exact ⟨0, Nat.zero_le _, rfl, by show _ = _; simp, 0, rfl⟩
    case round =>
      obtain ⟨k, hk, rfl, HE, dd, rfl⟩ := hrel
      by_cases hlt : k < n
      · have t1 : decide ((k : Int) < (n : Int)) = true := by simp; omega
        have hkx : k < xs.length := by rw [← HN.out]; exact hlt
        have hky : k < ys.length := by rw [← HM.out]; exact hlt
        obtain ⟨b, off, hA, _, c0⟩ := Texts.at_ HA.out hkx
        obtain ⟨b', off', hB, _, d0⟩ := Texts.at_ HBs.out hky
        obtain ⟨p, hp⟩ : ∃ p, p = xs[k] := ⟨_, rfl⟩
        obtain ⟨q, hq⟩ : ∃ q, q = ys[k] := ⟨_, rfl⟩
        rw [← hp] at c0
        rw [← hq] at d0
        have hkI : (k : Int) < (n : Int) := by omega
        have hk0 : (0 : Int) ≤ (k : Int) := by omega
        have hyes : p = q → xs.take (k + 1) = ys.take (k + 1) := fun h => by rw [List.take_succ_eq_append_getElem hkx, List.take_succ_eq_append_getElem hky, HE.out, ← hp, ← hq, h]
        have hno : p ≠ q → V = false := fun h => by
          rw [HV.out, decide_eq_false_iff_not]
          intro e
          subst e
          exact h (by rw [hp, hq])
        subst hA hB
        clear hp hq hkx hky
        by_cases h1 : p = q
        · have HY : Hid (xs.take (k + 1) = ys.take (k + 1)) := hyes h1
          subst h1
          have u1 : ((bs p).toList != (bs p).toList) = false := by simp
          clear hyes hno
          go_wp2_with fail
          go_quiet (fail)
          go_wp2
          go_roundw
          case rel => exact ⟨k + 1, by omega, by go_num, HY, _, rfl⟩
          case measure => simp [intOf]; omega
        · have u0 : ¬ (bs p).toList = (bs q).toList := by rw [bs_toList, bs_toList]; exact h1
          have u1 : ((bs p).toList != (bs q).toList) = true := by simpa using u0
          have u2 : ((bs p).toList == (bs q).toList) = false := by simpa using u0
          have hv := hno h1
          subst hv
          clear h1 hyes hno
          go_wp2_with fail
          go_quiet (fail)
          go_wp2
          go_ret
          exact ⟨rfl, below_drewN (below_drewN (Below.refl _ _) _) _⟩
      · obtain rfl : k = n := by omega
        have t1 : decide ((k : Int) < (k : Int)) = false := by simp
        have hv : V = true := by
          rw [HV.out, decide_eq_true_iff]
          have := HE.out
          rwa [List.take_of_length_le (by rw [HN.out]; exact Nat.le_refl _), List.take_of_length_le (by rw [HM.out]; exact Nat.le_refl _)] at this
        subst hv
        go_wp2
        go_ret
        exact ⟨rfl, below_drewN (Below.refl _ _) _⟩
  · have t0 : ((xs.length : Int) != (ys.length : Int)) = true := by rw [bne_iff_ne]; omega
    have hv : V = false := by
      rw [hV, decide_eq_false_iff_not]
      intro e
      exact hl (by rw [e])
    subst hv
    clear hl hV hx
    go_enter Tryz.func30, Tryz.ntmps30
    go_wp2
    go_ret
    exact ⟨rfl, Below.refl _ _⟩
end Go.Proofs.YtabecceojbeomaaGreatDoor
