/- The walk of the law VersOwn, a refused way. -/
import Derived.Test.YtobndboogafjpaaVersOwnS
namespace Go.Proofs.Ytobndboogafjpaa
open Go.RowKit Go.Cat Go.Cat.Vers

set_option maxRecDepth 100000 in
set_option maxHeartbeats 4000000 in
theorem own_walk_a1 (x y : Ver) (A B : Option Addr) (c d : Nat) (w : World) (hx : Bytes w A x.data) (hy : Bytes w B y.data) (hm : x.data.length ≤ maxLen) (hn : y.data.length ≤ maxLen) (h : 2048 < x.data.length) :
    Calls Try.prog 5 #[vv x A c, vv y B d] w fun e w' => e = .returned (.bool true) ∧ Below w.heap.size w w' := by
  obtain ⟨k0, k1, k2, k3, hsz, hB0⟩ := two_boxes (w := w) (a := #[.int .u64 x.ver, .int .u64 x.seq, .slice A x.data.length c]) (b := #[.int .u64 y.ver, .int .u64 y.seq, .slice B y.data.length d]) (t := 40) (u := 40) (Below.refl _ _)
  have hS : OwnS w.heap.size x y A B c d w ((w.alloc (.cells #[.int .u64 x.ver, .int .u64 x.seq, .slice A x.data.length c] 40)).alloc (.cells #[.int .u64 y.ver, .int .u64 y.seq, .slice B y.data.length d] 40)) :=
    ⟨(k0 0).trans rfl, (k0 1).trans rfl, (k0 2).trans rfl, (k2 0).trans rfl, (k2 1).trans rfl, (k2 2).trans rfl, hB0⟩
  have HS := Lib.hid hS
  have hm' : x.data.length ≤ 9223372036854775807 := hm
  have hn' : y.data.length ≤ 9223372036854775807 := hn
  clear k0 k1 k2 k3 hsz hB0 hS hm hn
  have HM := Lib.hid hm'
  have HN := Lib.hid hn'
  have d1 : decide ((2048 : Int) < (x.data.length : Int)) = true := by simp; omega
  clear h hm' hn'
  obtain ⟨r, hr⟩ : ∃ r, r = sameV x y := ⟨_, rfl⟩
  have HR := Lib.hid hr
  clear hr
  go_enter Try.func5, Try.ntmps5
  go_wp2_with fail
  obtain ⟨w1, hw1⟩ : ∃ w1, w1 = ((w.alloc (.cells #[.int .u64 x.ver, .int .u64 x.seq, .slice A x.data.length c] 40)).alloc (.cells #[.int .u64 y.ver, .int .u64 y.seq, .slice B y.data.length d] 40)) := ⟨_, rfl⟩
  rw [← hw1] at HS ⊢
  clear hw1
  have hxb : ∀ w', Below w.heap.size w w' → Bytes w' A x.data := fun w' h => hx.below h
  have hyb : ∀ w', Below w.heap.size w w' → Bytes w' B y.data := fun w' h => hy.below h
  obtain ⟨H, hH⟩ : ∃ H, H = w.heap.size := ⟨_, rfl⟩
  rw [← hH] at HS hxb hyb ⊢
  have HH := Lib.hid hH
  have HXb := Lib.hid hxb
  have HYb := Lib.hid hyb
  clear hH hxb hyb
  go_region_held3 (fun w' => w'.cell? ⟨H, 0, none⟩ = some (.int .u64 x.ver) ∧ w'.cell? ⟨H, 1, none⟩ = some (.int .u64 x.seq) ∧ w'.cell? ⟨H, 2, none⟩ = some (.slice A x.data.length c) ∧
      w'.cell? ⟨H + 1, 0, none⟩ = some (.int .u64 y.ver) ∧ w'.cell? ⟨H + 1, 1, none⟩ = some (.int .u64 y.seq) ∧ w'.cell? ⟨H + 1, 2, none⟩ = some (.slice B y.data.length d) ∧ Below H w w')
    (first | exact OwnS.next HS.out ((Below.refl _ _).drew) | exact OwnS.next (by assumption) hOx | exact OwnS.next (by assumption) hOy | exact OwnS.next (by assumption) hVs | exact OwnS.next (by assumption) hRs | exact OwnS.next (by assumption) hAw | fail)
    (first
      | (go_at_call 16; refine (ours_any A c x _).mono ?_; rintro e wOx ⟨rfl, hOx⟩)
      | (go_at_call 16; refine (ours_any B d y _).mono ?_; rintro e wOy ⟨rfl, hOy⟩)
      | (go_at_call 11; refine (vsame_any A B c d x y _ (HXb.out _ (OwnS.bel (by assumption))) (HYb.out _ (OwnS.bel (by assumption)))).mono ?_; rw [← HR.out]; rintro e wVs ⟨rfl, hVs⟩)
      | (go_at_call 27; refine (rsame_any A B c d x y _ (HXb.out _ (OwnS.bel (by assumption))) (HYb.out _ (OwnS.bel (by assumption))) HM.out HN.out).mono ?_; rw [← HR.out]; rintro e wRs ⟨rfl, hRs⟩)
      | (go_at_call 7; refine (awake_any _).mono ?_; rintro e wAw ⟨rfl, hAw⟩)
      | fail)
  all_goals
    rename_i FS
    have hfin := OwnS.bel FS
    clear FS
    rw [HH.out] at hfin
    go_wp2_with fail
    go_ret
    exact ⟨rfl, hfin⟩
end Go.Proofs.Ytobndboogafjpaa
