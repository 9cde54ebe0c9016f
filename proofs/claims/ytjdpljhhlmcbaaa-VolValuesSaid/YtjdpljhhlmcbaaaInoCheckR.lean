/- The contract of the reference's Check of inodes. Condition: at most 1000000 extents, each start and length an int. -/
import Derived.Test.YtjdpljhhlmcbaaaInoRef
namespace Go.Cat.Ino
open Go.RowKit Go.Cat
theorem nodup_take_succ {l : List Int} {k : Nat} (hk : k < l.length) : (l.take (k + 1)).Nodup ↔ (l.take k).Nodup ∧ l[k] ∉ l.take k := by
  rw [List.take_succ_eq_append_getElem hk, List.nodup_append]
  constructor
  · rintro ⟨h1, _, h3⟩
    exact ⟨h1, fun hm => h3 _ hm _ (by simp) rfl⟩
  · rintro ⟨h1, h2⟩
    refine ⟨h1, by simp, fun a ha b hb => ?_⟩
    simp at hb
    subst hb
    rintro rfl
    exact h2 ha
theorem nodup_take {l : List Int} (h : l.Nodup) (k : Nat) : (l.take k).Nodup := h.sublist (List.take_sublist k l)
end Go.Cat.Ino
namespace Go.Proofs.Ytjdpljhhlmcbaaa
open Go.RowKit Go.Shelf Go.Cat Go.Cat.Ino

theorem rblockslen_any (mode size : Int) (A : Option Addr) (xs : List Ext) (c : Nat) (W : World) (hs : Sees W A (erows xs)) (hL : xs.length ≤ 1000000) :
    Calls Try.prog 83 #[iv mode size A xs.length c] W fun e w' => ∃ A' c', e = .returned (.slice A' (blks xs).length c') ∧ Ints w' A' (blks xs) ∧ (blks xs).length ≤ c' ∧ c' ≤ maxLen ∧ Below W.heap.size W w' :=
  (rblocks_any mode size A xs c W hs hL).mono fun _ _ ⟨A', c', h1, h2, h3⟩ => by
    obtain ⟨A2, c2, he, h4, h5⟩ := own_full h2
    injection he with e1 _ e2
    subst e1 e2
    exact ⟨A', c', h1, Sees.of_own h2, h4, h5, h3⟩

set_option maxRecDepth 100000 in
set_option maxHeartbeats 4000000 in
theorem richeck_zero (A : Option Addr) (c : Nat) (w : World) :
    Calls Try.prog 76 #[iv 0 0 A 0 c] w fun e w' => e = .returned (.int .i64 0) ∧ Below w.heap.size w w' := by
  have HI0 := Lib.hid (IbS.new (mode := 0) (size := 0) (c := c) (t := 64) (xs := []) (A := A) (w := w) (.inl rfl))
  have P2 := Lib.hid (fun W => rblockslen_any 0 0 A [] c W (.inl rfl) (Nat.zero_le _))
  have p3 := fun W => rneed_any 0 W (by omega) (by omega)
  rw [show need 0 = 0 from rfl] at p3
  have P3 := Lib.hid p3
  clear p3
  obtain ⟨c0, c1, c2, _, _⟩ := HI0.out
  go_enter Try.func76, Try.ntmps76
  go_wp2_with fail
  go_loop [3] (fun iv' => iv' = .int .i64 0) (fun _ => 0)
  case atStart => rfl
  case round =>
    obtain rfl := hrel
    go_wp2_with fail
    refine (P2.out _).mono ?_
    rintro e w2 ⟨A2, c2', rfl, _, _, _, h2⟩
    have HI2 := Lib.hid (HI0.out.below h2)
    obtain ⟨k0, k1, k2, _, _⟩ := HI2.out
    clear h2
    go_wp2_with fail
    go_loop [6] (fun iv' => iv' = .int .i64 0) (fun _ => 0)
    case atStart => rfl
    case round =>
      obtain rfl := hrel
      go_wp2_with fail
      refine (P3.out _).mono ?_
      rintro e w3 ⟨rfl, rfl⟩
      go_wp2_with fail
      go_ret
      exact ⟨rfl, HI2.out.bel⟩

set_option maxRecDepth 100000 in
set_option maxHeartbeats 8000000 in
theorem richeck_rest (mode size : Int) (A : Option Addr) (xs : List Ext) (c : Nat) (w : World) (hs : Sees w A (erows xs)) (hin : ∀ e ∈ xs, ExK e) (hn : xs.length ≤ 1000000) (hm0 : 1 ≤ mode) (hm1 : mode ≤ 2) (hz0 : 0 ≤ size) (hz1 : size ≤ 512) :
    Calls Try.prog 76 #[iv mode size A xs.length c] w fun e w' => e = .returned (.int .i64 (checkI mode size xs)) ∧ Below w.heap.size w w' := by
  obtain ⟨V, hV⟩ : ∃ V, V = checkI mode size xs := ⟨_, rfl⟩
  have HI0 := Lib.hid (IbS.new (mode := mode) (size := size) (c := c) (t := 64) hs)
  have P2 := Lib.hid (fun W (h : Sees W A (erows xs)) => rblockslen_any mode size A xs c W h hn)
  have P3 := Lib.hid (fun W => rneed_any size W (by omega) (by omega))
  have hbl := blks_length xs
  obtain ⟨n, hnn⟩ : ∃ n, n = xs.length := ⟨_, rfl⟩
  obtain ⟨q, hq⟩ : ∃ q, q = need size := ⟨_, rfl⟩
  obtain ⟨m, hm⟩ : ∃ m, m = (blks xs).length := ⟨_, rfl⟩
  rw [← hV, ← hnn]
  rw [← hq] at P3
  rw [← hm, ← hnn] at hbl
  rw [← hm] at P2
  rw [← hnn] at hn HI0 P2
  have HN := Lib.hid hnn
  have HV := Lib.hid hV
  have HQ := Lib.hid hq
  have HM := Lib.hid hm
  have HIn := Lib.hid hin
  have hc1 : ¬ (mode < 0 ∨ 2 < mode) := by omega
  have hc2 : ¬ 512 < size := by omega
  have hc3 : ¬ (size < 0 ∨ (mode = 0 ∧ (0 < size ∨ 0 < xs.length))) := by omega
  have HNo : Hid (¬ (xs.length ≤ 8 ∧ fineP xs ∧ ((blks xs).length : Int) = need size) → V = 4) := by
    intro h4; rw [hV]; exact check_no hc1 hc2 h4
  have HYes : Hid (xs.length ≤ 8 ∧ fineP xs ∧ ((blks xs).length : Int) = need size → V = 0) := by
    intro h4; rw [hV]; exact check_ok hc1 hc2 hc3 h4
  have HLong : Hid (8 < xs.length → ¬ (okTo xs xs.length ∧ ((blks xs).length : Int) = need size)) := fun h => long_not hz1 h
  have t0 : (mode == 0) = false := by simp; omega
  obtain ⟨H, hH⟩ : ∃ H, H = w.heap.size := ⟨_, rfl⟩
  have HH := Lib.hid hH
  clear hnn hV hs hin hq hc1 hc2 hc3 hH hm
  go_enter Try.func76, Try.ntmps76
  go_upto_region 7 with (fail)
  go_wp2_with fail
  rw [← HH.out] at HI0 ⊢
  go_loopw [3] (fun iv' wr => ∃ k : Nat, k ≤ n ∧ iv' = .int .i64 k ∧ Hid (okTo xs k) ∧ Hid (IbS H mode size A xs c w wr)) (fun iv' _ => n - (intOf iv').toNat)
  case atStart => exact ⟨0, Nat.zero_le _, rfl, okTo.zero _, HI0⟩
  case round =>
    clear HI0
    obtain ⟨k, hk, rfl, HOk, HI⟩ := hrel
    obtain ⟨c0, c1, c2, _, _⟩ := HI.out
    rw [← HN.out] at c2
    have hHlt : H < wr.heap.size := World.block_lt_of_cell? _ _ c0
    by_cases hlt : k < n
    · have hkI : decide ((k : Int) < (n : Int)) = true := by simp; omega
      have hkx : k < xs.length := by rw [← HN.out]; exact hlt
      obtain ⟨b, off, rfl, hbl2, e0, e1⟩ := erows_at HI.out.row hkx
      obtain ⟨p, hp⟩ : ∃ p, p = xs[k] := ⟨_, rfl⟩
      rw [← hp] at e0 e1
      have hxk : xs[k]? = some p := by rw [hp]; exact List.getElem?_eq_getElem hkx
      have hpk : ExK p := HIn.out p (by rw [hp]; exact List.getElem_mem _)
      have a0 := hpk.a0
      have a1 := hpk.a1
      have b0 := hpk.b0
      have b1 := hpk.b1
      have hkI2 : (k : Int) < (n : Int) := by omega
      have hk0 : (0 : Int) ≤ (k : Int) := by omega
      obtain ⟨W1, hW1⟩ : ∃ W1, W1 = wr.alloc (.cells #[.int .i64 p.1, .int .i64 p.2] 68) := ⟨_, rfl⟩
      obtain ⟨J, hJ⟩ : ∃ J, J = wr.heap.size := ⟨_, rfl⟩
      have hb1 : Below wr.heap.size wr W1 := by rw [hW1]; exact (Below.refl _ _).alloc (Nat.le_refl _) _
      have hx1 : W1.heap[J]? = some (.cells #[.int .i64 p.1, .int .i64 p.2] 68 (0, 0)) := by rw [hW1, hJ]; exact heap_alloc_new _ _
      have x1 : W1.cell? ⟨J, 0, none⟩ = some (.int .i64 p.1) := cell_of_row W1 J 0 _ _ _ hx1
      have x2 : W1.cell? ⟨J, 1, none⟩ = some (.int .i64 p.2) := cell_of_row W1 J 1 _ _ _ hx1
      have hI1 := HI.out.below hb1
      have k2 := hI1.c2
      rw [← HN.out] at k2
      have hprev : 0 < k → ∃ q : Ext, xs[k - 1]? = some q ∧ W1.cell? ⟨b, off + (k - 1) * 2, none⟩ = some (.int .i64 q.1) ∧ W1.cell? ⟨b, off + (k - 1) * 2 + 1, none⟩ = some (.int .i64 q.2) := fun h0 => by
        have hk1 : k - 1 < xs.length := by omega
        obtain ⟨b', off', hA, _, g0, g1⟩ := erows_at hI1.row hk1
        injection hA with hA
        injection hA with hA1 hA2
        subst hA1 hA2
        exact ⟨xs[k - 1], List.getElem?_eq_getElem hk1, g0, g1⟩
      have HI1 := Lib.hid hI1
      have HXk := Lib.hid hxk
      have HPrev := Lib.hid hprev
      have HW1 := Lib.hid hW1
      have HJ := Lib.hid hJ
      clear hp hxk hpk hprev hW1 hJ hb1 hx1 hkx hI1
      go_upto_region 11 with (fail)
      rw [← HW1.out, ← HJ.out]
      clear e0 e1 c0 c1 c2
      have HBad : Hid (¬ InE p → V = 4) := fun h => HNo.out (fun hf => not_in HXk.out h hf.2.1)
      by_cases r1 : p.2 < 1
      · have d1 : decide (p.2 < 1) = true := by simpa using r1
        have hv := HBad.out (fun h => by have := h.right.1; omega)
        subst hv
        clear r1
        go_wp2_with fail
        go_ret
        exact ⟨rfl, HI1.out.bel⟩
      have d1 : decide (p.2 < 1) = false := by simpa using r1
      by_cases r2 : 8 < p.2
      · have d2 : decide (8 < p.2) = true := by simpa using r2
        have hv := HBad.out (fun h => by have := h.right.2; omega)
        subst hv
        clear r1 r2
        go_wp2_with fail
        go_ret
        exact ⟨rfl, HI1.out.bel⟩
      have d2 : decide (8 < p.2) = false := by simpa using r2
      by_cases s0 : p.1 < 0
      · have d3 : decide (p.1 < 0) = true := by simpa using s0
        have hv := HBad.out (fun h => by have := h.s0; omega)
        subst hv
        clear r1 r2 s0
        go_wp2_with fail
        go_ret
        exact ⟨rfl, HI1.out.bel⟩
      have d3 : decide (p.1 < 0) = false := by simpa using s0
      by_cases s1 : 4095 < p.1
      · have d4 : decide (4095 < p.1) = true := by simpa using s1
        have hv := HBad.out (fun h => by have := h.s1; omega)
        subst hv
        clear r1 r2 s0 s1
        go_wp2_with fail
        go_ret
        exact ⟨rfl, HI1.out.bel⟩
      have d4 : decide (4095 < p.1) = false := by simpa using s1
      by_cases s2 : 4096 < p.1 + p.2
      · have d5 : decide (4096 < p.1 + p.2) = true := by simpa using s2
        have hv := HBad.out (fun h => by have := h.s2; omega)
        subst hv
        go_wp2_with fail
        go_ret
        exact ⟨rfl, HI1.out.bel⟩
      have d5 : decide (4096 < p.1 + p.2) = false := by simpa using s2
      have HE : Hid (InE p) := ⟨⟨by omega, by omega⟩, by omega, by omega, by omega⟩
      by_cases h0 : 0 < k
      · obtain ⟨u, hu, g0, g1⟩ := HPrev.out h0
        have HU := Lib.hid hu
        have q1 : decide (0 < k) = true := by simpa using h0
        have q1' : decide ((0 : Int) < (k : Int)) = true := by simpa using h0
        have hkm : (1 : Int) ≤ (k : Int) := by omega
        have huE : InE u := (HOk.out (k - 1) (by omega) u hu).1
        have hu1 : 0 ≤ u.1 := huE.s0
        have hu2 : u.1 < 4096 := huE.s1
        have hu3 : 1 ≤ u.2 := huE.right.1
        have hu4 : u.2 ≤ 8 := huE.right.2
        clear hu huE
        by_cases ha : u.1 + u.2 = p.1
        · have d6 : (u.1 + u.2 == p.1) = true := by simpa using ha
          have hv := HNo.out (fun hf => not_next HXk.out h0 HU.out ha.symm hf.2.1)
          subst hv
          clear ha
          go_wp2_with fail
          go_quiet (fail)
          go_wp2
          go_ret
          exact ⟨rfl, below_drewN HI1.out.bel _⟩
        · have d6 : (u.1 + u.2 == p.1) = false := by simpa using ha
          have HOk2 : Hid (okTo xs (k + 1)) := HOk.out.succ (ok_mk HXk.out HE.out (fun _ p' hp' => by
            have := HU.out.symm.trans hp'
            injection this with this
            rw [← this]; exact fun e => ha e.symm))
          clear ha
          go_wp2_with fail
          go_quiet (fail)
          go_wp2
          go_roundw
          case rel => exact ⟨k + 1, by omega, by go_num, HOk2, HI1.out.below (below_drewN (Below.refl _ _) _)⟩
          case measure => simp [intOf]; omega
      · have q1 : decide (0 < k) = false := by simpa using h0
        have q1' : decide ((0 : Int) < (k : Int)) = false := by simp; omega
        have HOk2 : Hid (okTo xs (k + 1)) := HOk.out.succ (ok_mk HXk.out HE.out (fun h => absurd h h0))
        clear h0
        go_wp2_with fail
        go_quiet (fail)
        go_wp2
        go_roundw
        case rel => exact ⟨k + 1, by omega, by go_num, HOk2, HI1.out.below (below_drewN (Below.refl _ _) _)⟩
        case measure => simp [intOf]; omega
    · obtain rfl : k = n := by omega
      have hkI : decide ((k : Int) < (k : Int)) = false := by simp
      have P2' := Lib.hid (P2.out wr HI.out.row)
      go_wp2_with fail
      refine (P2'.out).mono ?_
      rintro e w2 ⟨A2, c2', rfl, hz2, hl2, hm2, h2⟩
      have HI2 := Lib.hid (HI.out.below h2)
      have HZ2 := Lib.hid hz2
      unfold maxLen at hm2
      clear h2 hz2 P2' c0 c1 c2
      go_wp2_with fail
      obtain ⟨wo, rfl⟩ : ∃ wo : World, wo = wr := ⟨_, rfl⟩
      go_loopw [6] (fun iv' wr => ∃ j : Nat, j ≤ m ∧ iv' = .int .i64 j ∧ Hid ((blks xs).take j).Nodup ∧ Hid (IbS H mode size A xs c w wr) ∧ Hid (Ints wr A2 (blks xs))) (fun iv' _ => m - (intOf iv').toNat)
      case atStart => exact ⟨0, Nat.zero_le _, rfl, by show List.Nodup _; simp, HI2, HZ2⟩
      case round =>
        clear HI2 HZ2 hHlt
        obtain ⟨j, hj, rfl, HNd, HI3, HZ⟩ := hrel
        by_cases hjl : j < m
        · have t1 : decide ((j : Int) < (m : Int)) = true := by simp; omega
          have hjz : j < (blks xs).length := by rw [← HM.out]; exact hjl
          have htake : ((blks xs).take j).length = j := by rw [List.length_take]; omega
          have hh := fun q' y => has_any A2 c2' ((blks xs).take j) y (wr.drewN q') (HZ.out.take j) (by rw [htake]; omega)
          rw [htake] at hh
          obtain ⟨b2, off2, rfl, _, hc⟩ := HZ.out.at_ (by omega)
          have e0 := hc j hjz
          obtain ⟨y, hy⟩ : ∃ y, y = (blks xs).getD j 0 := ⟨_, rfl⟩
          have hyk : y = (blks xs)[j] := by rw [hy]; simp [List.getD_eq_getElem?_getD, hjz]
          rw [← hy] at e0
          have hnx := nodup_take_succ hjz
          rw [← hyk] at hnx
          have HNx := Lib.hid hnx
          have hkI2 : (j : Int) < (m : Int) := by omega
          have hk0 : (0 : Int) ≤ (j : Int) := by omega
          have hjc : (j : Int) ≤ (c2' : Int) := by omega
          have hjc2 : j ≤ c2' := by omega
          by_cases hmem : y ∈ (blks xs).take j
          · have hh2 := fun q' => hh q' y
            rw [decide_eq_true hmem] at hh2
            have HHas := Lib.hid (fun q' => (hh2 q').mono (R' := fun e w' => e = .returned (.bool true) ∧ w' = wr.drewN q') fun _ _ ⟨h1, h2⟩ => ⟨h1, h2.symm⟩)
            have hv : V = 4 := HNo.out (fun hf => (HNx.out.1 (nodup_take hf.2.1.2 (j + 1))).2 hmem)
            subst hv
            clear hc hy hyk hnx hh hh2 hmem hjz htake
            go_wp2_with fail
            go_quiet ((go_at_call 84; exact Calls.quiet_of_same (HHas.out _)))
            go_wp2
            go_ret
            exact ⟨rfl, below_drewN HI3.out.bel _⟩
          · have hh2 := fun q' => hh q' y
            rw [decide_eq_false hmem] at hh2
            have HHas := Lib.hid (fun q' => (hh2 q').mono (R' := fun e w' => e = .returned (.bool false) ∧ w' = wr.drewN q') fun _ _ ⟨h1, h2⟩ => ⟨h1, h2.symm⟩)
            have HNd2 : Hid ((blks xs).take (j + 1)).Nodup := HNx.out.2 ⟨HNd.out, hmem⟩
            clear hc hy hyk hnx hh hh2 hmem hjz htake
            go_wp2_with fail
            go_quiet ((go_at_call 84; exact Calls.quiet_of_same (HHas.out _)))
            go_wp2
            go_roundw
            case rel => exact ⟨j + 1, by omega, by go_num, HNd2, HI3.out.below (below_drewN (Below.refl _ _) _), Sees.below HZ.out (below_drewN (Below.refl _ _) _)⟩
            case measure => simp [intOf]; omega
        · obtain rfl : j = m := by omega
          have t1 : decide ((j : Int) < (j : Int)) = false := by simp
          have hnd : (blks xs).Nodup := by have := HNd.out; rwa [HM.out, List.take_length] at this
          obtain ⟨c0, c1, c2, _, _⟩ := HI3.out
          have hall : okTo xs xs.length := by rw [← HN.out]; exact HOk.out
          by_cases hnq : (j : Int) = q
          · have hv : V = 0 := HYes.out ⟨by
              rcases Nat.lt_or_ge 8 xs.length with h | h
              · exact absurd ⟨hall, by rw [← HM.out, ← HQ.out]; exact hnq⟩ (HLong.out h)
              · exact h, ⟨hall, hnd⟩, by rw [← HM.out, ← HQ.out]; exact hnq⟩
            have d : ((j : Int) != q) = false := by simpa using hnq
            subst hv
            clear hnq hnd hall
            go_wp2_with fail
            refine (P3.out _).mono ?_
            rintro e w3 ⟨rfl, rfl⟩
            go_wp2
            go_ret
            exact ⟨rfl, HI3.out.bel⟩
          · have hv : V = 4 := HNo.out (fun hf => hnq (by rw [HM.out, HQ.out]; exact hf.2.2))
            have d : ((j : Int) != q) = true := by simpa using hnq
            subst hv
            clear hnq hnd hall
            go_wp2_with fail
            refine (P3.out _).mono ?_
            rintro e w3 ⟨rfl, rfl⟩
            go_wp2
            go_ret
            exact ⟨rfl, HI3.out.bel⟩
end Go.Proofs.Ytjdpljhhlmcbaaa
