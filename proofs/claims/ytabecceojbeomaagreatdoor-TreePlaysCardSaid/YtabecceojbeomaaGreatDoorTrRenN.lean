/- The contract of a Tree's rename (paths that may not be; nothing there). Condition: the bounds on a tree's things; the paths' lengths below 2^31. -/
import Derived.Test.YtabecceojbeomaaGreatDoorTrRen
namespace Go.Proofs.YtabecceojbeomaaGreatDoor
open Go.RowKit Go.Cat Go.Cat.Dir Go.Cat.Tree Go.Maps

set_option maxRecDepth 100000 in
set_option maxHeartbeats 16000000 in
theorem rename_not (a : Nat) (I J : Int) (M : Nat) (es : List (Txt × El)) (c : CallV) (A : Option Addr) (cA : Nat) (w : World) (h : TrAt w a I J M es) (hA : Bytes w A c.data) (_hk : KeyB es) (hp : c.path.length < 4294967281) (hto : c.to.length < 4294967281)
    (hno : ¬ (abe c.path = 0 ∧ abe c.to = 0 ∧ (findV (ths es) c.path).1 = 0)) :
    Calls Tryz.prog 51 #[.pointer (some ⟨a, 0, none⟩), .agg (callC c A cA)] w (ToldA (renameV (ths es) c) w a I J M) := by
  have hF := MF.start h hA cA
  have p1 := fun W (hW : MF w a I J M es c A cA W) => let ⟨m, hm⟩ := hW.tr.gl; dabove_any c.path m W hp hm
  have p2 := fun W (hW : MF w a I J M es c A cA W) => let ⟨m, hm⟩ := hW.tr.gl; dabove_any c.to m W hto hm
  have p3 := fun W (hW : MF w a I J M es c A cA W) => find_any a I J M es c.path W hW.tr hp
  obtain ⟨V, hV⟩ : ∃ V, V = renameV (ths es) c := ⟨_, rfl⟩
  rw [← hV]
  unfold ToldAb at p1 p2
  unfold renameV at hV
  obtain ⟨r, hr⟩ : ∃ r, r = findV (ths es) c.path := ⟨_, rfl⟩
  rw [← hr] at hV p3
  obtain ⟨fr, hfr⟩ : ∃ fr, fr = (abv c.path).1 := ⟨_, rfl⟩
  rw [← hfr] at hV
  rw [← hr] at hno
  obtain ⟨rc, rx⟩ := r
  simp only at hV p3 hno
  obtain ⟨ac, hac⟩ : ∃ ac, ac = abe c.path := ⟨_, rfl⟩
  obtain ⟨tc, htc⟩ : ∃ tc, tc = abe c.to := ⟨_, rfl⟩
  rw [← hac] at hV hno
  rw [← htc] at hV hno
  simp only [← hac] at p1
  simp only [← htc] at p2
  have P1 := Lib.hid p1
  have P2 := Lib.hid p2
  have P3 := Lib.hid p3
  have HV := Lib.hid hV
  have HF := Lib.hid hF
  clear h hA hp hto _hk p1 p2 p3 hr hV hF hac htc hfr
  have P0 := Lib.hid (P1.out _ HF.out)
  go_enter Tryz.func51, Tryz.ntmps51
  go_wp2_with fail
  refine (P0.out).mono ?_
  rintro e W ⟨rfl, hB2⟩
  have hF2 := HF.out.below hB2
  clear hB2 P0 P1 HF
  obtain ⟨⟨k0, k1, k2, k3, k4, k5⟩, ⟨r0, r1, r2, r3, r4⟩, ⟨q0, q1, q2, q3, q4⟩, c2⟩ := hF2.facts
  have HF2 := Lib.hid hF2
  clear hF2
  have P0 := Lib.hid (P2.out W HF2.out)
  go_wp2_with fail
  refine (P0.out).mono ?_
  rintro e W3 ⟨rfl, hB9⟩
  have hF9 := HF2.out.below hB9
  clear hB9 P0 k0 k1 k2 k3 k4 k5 r0 r1 r2 r3 r4 q0 q1 q2 q3 q4 c2
  obtain ⟨⟨k0, k1, k2, k3, k4, k5⟩, ⟨r0, r1, r2, r3, r4⟩, ⟨q0, q1, q2, q3, q4⟩, c2⟩ := hF9.facts
  have HF3 := Lib.hid hF9
  clear hF9
  by_cases h1 : ac = 0
  · have t1 : (ac != 0) = false := by rw [h1]; rfl
    by_cases h2 : tc = 0
    · have t2 : (tc != 0) = false := by rw [h2]; rfl
      have h3 : rc ≠ 0 := fun e => hno ⟨h1, h2, e⟩
      have t3 : (rc != 0) = true := by simpa using h3
      have hl : V = (ths es, wrongV rc) := by rw [HV.out, if_pos ⟨h1, h2⟩, if_neg h3]
      have HL := Lib.hid hl
      have P0 := Lib.hid (P3.out W3 HF3.out)
      clear hl h1 h2 h3 hno P2 P3
      go_wp2_with fail
      refine (P0.out).mono ?_
      rintro e w2 ⟨x, rfl, hx, _, hB2⟩
      have hF2 := (HF3.out.below hB2).below ((Below.refl _ w2).alloc (Nat.le_refl _) (.cells #[.bool x.1.dir, .slice x.2.1 x.1.b.length x.2.2] 60))
      unfold elV
      clear hx hB2 P0 k0 k1 k2 k3 k4 k5 r0 r1 r2 r3 r4 q0 q1 q2 q3 q4 c2
      go_upto_region 6 with (fail)
      generalize w2.alloc (.cells #[.bool x.1.dir, .slice x.2.1 x.1.b.length x.2.2] 60) = W4 at hF2 ⊢
      generalize w2.heap.size = N
      obtain ⟨⟨k0, k1, k2, k3, k4, k5⟩, ⟨r0, r1, r2, r3, r4⟩, ⟨q0, q1, q2, q3, q4⟩, c2⟩ := hF2.facts
      have HF4 := Lib.hid hF2
      clear hF2
      have P9 := Lib.hid (wrong_any rc W4)
      go_wp2_with fail
      refine (P9.out).mono ?_
      rintro e w9 ⟨rfl, hB9⟩
      have hF9 := HF4.out.below hB9
      clear k0 k1 k2 k3 k4 k5 r0 r1 r2 r3 r4 q0 q1 q2 q3 q4 c2 hB9 
      obtain ⟨⟨k0, k1, k2, k3, k4, k5⟩, ⟨r0, r1, r2, r3, r4⟩, ⟨q0, q1, q2, q3, q4⟩, c2⟩ := hF9.facts
      have HF9 := Lib.hid hF9
      clear hF9
      go_wp2_with fail
      refine bodyPost_ret (ret_ans rfl (by rfl) (set5B _ _ _ _ _ HF9.out.rb)) rfl ?_
      rw [HL.out]
      exact HF9.out.no rc
    · have t2 : (tc != 0) = true := by simpa using h2
      have hl : V = (ths es, wrongV 18) := by rw [HV.out, if_neg (fun e => h2 e.2)]
      have HL := Lib.hid hl
      clear hl hno P2 P3
      have P9 := Lib.hid (wrong_any 18 W3)
      go_wp2_with fail
      refine (P9.out).mono ?_
      rintro e w9 ⟨rfl, hB9⟩
      have hF9 := HF3.out.below hB9
      clear k0 k1 k2 k3 k4 k5 r0 r1 r2 r3 r4 q0 q1 q2 q3 q4 c2 hB9 
      obtain ⟨⟨k0, k1, k2, k3, k4, k5⟩, ⟨r0, r1, r2, r3, r4⟩, ⟨q0, q1, q2, q3, q4⟩, c2⟩ := hF9.facts
      have HF9 := Lib.hid hF9
      clear hF9
      go_wp2_with fail
      refine bodyPost_ret (ret_ans rfl (by rfl) (set5B _ _ _ _ _ HF9.out.rb)) rfl ?_
      rw [HL.out]
      exact HF9.out.no 18
  · have t1 : (ac != 0) = true := by simpa using h1
    have hl : V = (ths es, wrongV 18) := by rw [HV.out, if_neg (fun e => h1 e.1)]
    have HL := Lib.hid hl
    clear hl hno P2 P3
    have P9 := Lib.hid (wrong_any 18 W3)
    go_wp2_with fail
    refine (P9.out).mono ?_
    rintro e w9 ⟨rfl, hB9⟩
    have hF9 := HF3.out.below hB9
    clear k0 k1 k2 k3 k4 k5 r0 r1 r2 r3 r4 q0 q1 q2 q3 q4 c2 hB9 
    obtain ⟨⟨k0, k1, k2, k3, k4, k5⟩, ⟨r0, r1, r2, r3, r4⟩, ⟨q0, q1, q2, q3, q4⟩, c2⟩ := hF9.facts
    have HF9 := Lib.hid hF9
    clear hF9
    go_wp2_with fail
    refine bodyPost_ret (ret_ans rfl (by rfl) (set5B _ _ _ _ _ HF9.out.rb)) rfl ?_
    rw [HL.out]
    exact HF9.out.no 18
end Go.Proofs.YtabecceojbeomaaGreatDoor
