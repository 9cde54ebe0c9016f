/- The contract of inode.fine. Condition: at most 100 extents, each start and length an int. -/
import Derived.Test.YtjdpljhhlmcbaaaInoFine
import Derived.Test.YtjdpljhhlmcbaaaInoCheckV
import Derived.Deep.DeepCutAuto
namespace Go.Cat.Ino
open Go.RowKit Go.Cat
/-- An extent as it may come in. -/
structure ExK (e : Ext) : Prop where
  a0 : -9223372036854775808 ≤ e.1
  a1 : e.1 ≤ 9223372036854775807
  b0 : -9223372036854775808 ≤ e.2
  b1 : e.2 ≤ 9223372036854775807
end Go.Cat.Ino
namespace Go.Proofs.Ytjdpljhhlmcbaaa
open Go.RowKit Go.Shelf Go.Cat Go.Cat.Ino

theorem compactints_any (A : Option Addr) (zs : List Int) (c base : Nat) (w : World) (ho : w.ownsRow base 3 1 (.slice A zs.length c) zs.length (zs.map i64)) (hn : zs.length ≤ 100000000) (hbase : base ≤ w.heap.size) :
    Calls Try.prog 89 #[.slice A zs.length c] w fun e w' => ∃ A' c', e = .returned (.slice A' (Lib.compact zs).length c') ∧ Below base w w' := by
  rcases ho.2 with ⟨hv, h0⟩ | ⟨g, cap, cur, hv, hb, hh, r1, r2, r3, r4⟩
  · have hz : zs = [] := List.eq_nil_of_length_eq_zero h0
    subst hz
    refine (Try.slices_Compact_int_empty A c w).mono ?_
    rintro e w' ⟨rfl, rfl⟩
    exact ⟨A, c, rfl, Below.refl _ _⟩
  · injection hv with hA _ hc
    subst hA hc
    have hH : Sort.Holds (Value.int .i64) w g 0 zs.toArray := holds_of_block_i hh (by rw [Nat.mul_one] at r4; exact r4)
    refine (Try.slices_Compact_int g 0 c zs w hH (by omega) r1).mono ?_
    rintro e w' ⟨rfl, q, rfl⟩
    refine ⟨some ⟨g, 0, none⟩, c, rfl, ⟨rfl, rfl, rfl, by simp [Sort.putRow, Sort.mapBlock, Sort.ahead], fun k hk => ?_⟩⟩
    have hne : g ≠ k := by omega
    simp [Sort.putRow, Sort.mapBlock, Sort.ahead, Array.getElem?_modify, hne]

/-- What the loop of fine keeps. -/
structure FinR (A : Option Addr) (xs : List Ext) (w wr : World) : Prop where
  row : Sees wr A (erows xs)
  bel : Below w.heap.size w wr
theorem FinR.below {A : Option Addr} {xs : List Ext} {w wr w' : World} (h : FinR A xs w wr) (hb : Below wr.heap.size wr w') : FinR A xs w w' := ⟨h.row.below hb, h.bel.trans (hb.mono h.bel.size)⟩

set_option maxRecDepth 100000 in
set_option maxHeartbeats 4000000 in
theorem fine_any (A : Option Addr) (xs : List Ext) (c : Nat) (w : World) (hs : Sees w A (erows xs)) (hin : ∀ e ∈ xs, ExK e) (hn : xs.length ≤ 100) :
    Calls Try.prog 77 #[.slice A xs.length c] w fun e w' => e = .returned (.bool (fineB xs)) ∧ Below w.heap.size w w' := by
  obtain ⟨n, hnn⟩ : ∃ n, n = xs.length := ⟨_, rfl⟩
  obtain ⟨V, hV⟩ : ∃ V, V = fineB xs := ⟨_, rfl⟩
  rw [← hnn, ← hV]
  rw [← hnn] at hn
  have HN := Lib.hid hnn
  have HV := Lib.hid hV
  have HIn := Lib.hid hin
  have HF0 : Hid (FinR A xs w w) := ⟨hs, Below.refl _ _⟩
  clear hnn hV hin hs
  go_enter Try.func77, Try.ntmps77
  go_wp2_with fail
  go_loopw [8] (fun iv wr => ∃ k : Nat, k ≤ n ∧ iv = .int .i64 k ∧ Hid (okTo xs k) ∧ Hid (FinR A xs w wr)) (fun iv _ => n - (intOf iv).toNat)
  case atStart => exact ⟨0, Nat.zero_le _, rfl, okTo.zero _, HF0⟩
  case round =>
    clear HF0
    obtain ⟨k, hk, rfl, HOk, HF⟩ := hrel
    by_cases hlt : k < n
    · have hkI : decide ((k : Int) < (n : Int)) = true := by simp; omega
      have hkx : k < xs.length := by rw [← HN.out]; exact hlt
      obtain ⟨b, off, rfl, hbl, e0, e1⟩ := erows_at HF.out.row hkx
      obtain ⟨p, hp⟩ : ∃ p, p = xs[k] := ⟨_, rfl⟩
      rw [← hp] at e0 e1
      have hxk : xs[k]? = some p := by rw [hp]; exact List.getElem?_eq_getElem hkx
      have hpk : ExK p := HIn.out p (by rw [hp]; exact List.getElem_mem _)
      have hprev : 0 < k → ∃ q : Ext, ExK q ∧ xs[k - 1]? = some q ∧ wr.cell? ⟨b, off + (k - 1) * 2, none⟩ = some (.int .i64 q.1) ∧ wr.cell? ⟨b, off + (k - 1) * 2 + 1, none⟩ = some (.int .i64 q.2) := fun h0 => by
        have hk1 : k - 1 < xs.length := by omega
        obtain ⟨b', off', hA, _, g0, g1⟩ := erows_at HF.out.row hk1
        injection hA with hA
        injection hA with hA1 hA2
        subst hA1 hA2
        exact ⟨xs[k - 1], HIn.out _ (List.getElem_mem _), List.getElem?_eq_getElem hk1, g0, g1⟩
      have a0 := hpk.a0
      have a1 := hpk.a1
      have b0 := hpk.b0
      have b1 := hpk.b1
      have hkI2 : (k : Int) < (n : Int) := by omega
      have hk0 : (0 : Int) ≤ (k : Int) := by omega
      obtain ⟨W1, hW1⟩ : ∃ W1, W1 = wr.alloc (.cells #[.int .i64 p.1, .int .i64 p.2] 69) := ⟨_, rfl⟩
      obtain ⟨H, hH⟩ : ∃ H, H = wr.heap.size := ⟨_, rfl⟩
      have hb1 : Below wr.heap.size wr W1 := by rw [hW1]; exact (Below.refl _ _).alloc (Nat.le_refl _) _
      have hx1 : W1.heap[H]? = some (.cells #[.int .i64 p.1, .int .i64 p.2] 69 (0, 0)) := by rw [hW1, hH]; exact heap_alloc_new _ _
      have after : ∀ w2, Below W1.heap.size W1 w2 → w2.cell? ⟨H, 0, none⟩ = some (.int .i64 p.1) ∧ w2.cell? ⟨H, 1, none⟩ = some (.int .i64 p.2) ∧ Hid (FinR (some ⟨b, off, none⟩) xs w w2) ∧ (∀ x, w2.cell? ⟨b, x, none⟩ = wr.cell? ⟨b, x, none⟩) := fun w2 h2 => by
        have h3 := (h2.block H (Array.getElem?_eq_some_iff.1 hx1).1).trans hx1
        exact ⟨cell_of_row w2 H 0 _ _ _ h3, cell_of_row w2 H 1 _ _ _ h3, (HF.out.below hb1).below h2, fun x => (h2.cell (p := ⟨b, x, none⟩) (Nat.lt_of_lt_of_le hbl hb1.size)).trans (hb1.cell (p := ⟨b, x, none⟩) hbl)⟩
      have x1 : W1.cell? ⟨H, 0, none⟩ = some (.int .i64 p.1) := cell_of_row W1 H 0 _ _ _ hx1
      have x2 : W1.cell? ⟨H, 1, none⟩ = some (.int .i64 p.2) := cell_of_row W1 H 1 _ _ _ hx1
      have HAfter := Lib.hid after
      have HXk := Lib.hid hxk
      have HPrev := Lib.hid hprev
      have HW1 := Lib.hid hW1
      have HH := Lib.hid hH
      clear hp hxk hpk hprev hW1 hH hb1 hx1 after hkx
      go_upto_region 4 with (fail)
      rw [← HW1.out, ← HH.out]
      clear e0 e1
      by_cases hr : rightE p
      · have P1 := Lib.hid (right_yes p.1 p.2 W1 hr)
        have hr1 : 1 ≤ p.2 := hr.1
        have hr2 : p.2 ≤ 8 := hr.2
        have HR := Lib.hid hr
        clear hr
        by_cases s0 : p.1 < 0
        · have hV : V = false := by rw [HV.out]; exact fine_not (not_in HXk.out (fun h => by have := h.s0; omega))
          have d1 : decide (p.1 < 0) = true := by simpa using s0
          have HV2 := Lib.hid hV
          clear hV s0
          go_wp2_with (go_at_call 86; refine (P1.out).mono ?_; rintro e w2 ⟨rfl, h2⟩; obtain ⟨y0, y1, HF2, hold⟩ := HAfter.out w2 h2; clear hold h2 x1 x2)
          rw [HV2.out]
          go_ret
          exact ⟨rfl, HF2.out.bel⟩
        · have d1 : decide (p.1 < 0) = false := by simpa using s0
          by_cases s1 : 4096 ≤ p.1
          · have hV : V = false := by rw [HV.out]; exact fine_not (not_in HXk.out (fun h => by have := h.s1; omega))
            have d2 : decide (4096 ≤ p.1) = true := by simpa using s1
            have HV2 := Lib.hid hV
            clear hV
            go_wp2_with (go_at_call 86; refine (P1.out).mono ?_; rintro e w2 ⟨rfl, h2⟩; obtain ⟨y0, y1, HF2, hold⟩ := HAfter.out w2 h2; clear hold h2 x1 x2)
            rw [HV2.out]
            go_ret
            exact ⟨rfl, HF2.out.bel⟩
          · have d2 : decide (4096 ≤ p.1) = false := by simpa using s1
            by_cases s2 : 4096 < p.1 + p.2
            · have hV : V = false := by rw [HV.out]; exact fine_not (not_in HXk.out (fun h => by have := h.s2; omega))
              have d3 : decide (4096 < p.1 + p.2) = true := by simpa using s2
              have HV2 := Lib.hid hV
              clear hV
              go_wp2_with (go_at_call 86; refine (P1.out).mono ?_; rintro e w2 ⟨rfl, h2⟩; obtain ⟨y0, y1, HF2, hold⟩ := HAfter.out w2 h2; clear hold h2 x1 x2)
              rw [HV2.out]
              go_ret
              exact ⟨rfl, HF2.out.bel⟩
            · have d3 : decide (4096 < p.1 + p.2) = false := by simpa using s2
              have HE : Hid (InE p) := ⟨HR.out, by omega, by omega, by omega⟩
              by_cases h0 : 0 < k
              · obtain ⟨q, hqk, hq, g0, g1⟩ := HPrev.out h0
                have HQ := Lib.hid hq
                have q1 : decide (0 < k) = true := by simpa using h0
                have q1' : decide ((0 : Int) < (k : Int)) = true := by simpa using h0
                have hkm : (1 : Int) ≤ (k : Int) := by omega
                have hqE : InE q := (HOk.out (k - 1) (by omega) q hq).1
                have hq1 : 0 ≤ q.1 := hqE.s0
                have hq2 : q.1 < 4096 := hqE.s1
                have hq3 : 1 ≤ q.2 := hqE.right.1
                have hq4 : q.2 ≤ 8 := hqE.right.2
                clear hq hqk hqE
                by_cases ha : p.1 = q.1 + q.2
                · have hV : V = false := by rw [HV.out]; exact fine_not (not_next HXk.out h0 HQ.out ha)
                  have d4 : (p.1 == q.1 + q.2) = true := by simpa using ha
                  have HV2 := Lib.hid hV
                  clear hV ha
                  go_wp2_with (go_at_call 86; refine (P1.out).mono ?_; rintro e w2 ⟨rfl, h2⟩; obtain ⟨y0, y1, HF2, hold⟩ := HAfter.out w2 h2; have z0 := (hold _).trans g0; have z1 := (hold _).trans g1; clear hold h2 x1 x2)
                  go_quiet (fail)
                  go_wp2
                  rw [HV2.out]
                  go_ret
                  exact ⟨rfl, below_drewN HF2.out.bel _⟩
                · have d4 : (p.1 == q.1 + q.2) = false := by simpa using ha
                  have HOk2 : Hid (okTo xs (k + 1)) := HOk.out.succ (ok_mk HXk.out HE.out (fun _ p' hp' => by
                    have := HQ.out.symm.trans hp'
                    injection this with this
                    rw [← this]; exact ha))
                  clear ha
                  go_wp2_with (go_at_call 86; refine (P1.out).mono ?_; rintro e w2 ⟨rfl, h2⟩; obtain ⟨y0, y1, HF2, hold⟩ := HAfter.out w2 h2; have z0 := (hold _).trans g0; have z1 := (hold _).trans g1; clear hold h2 x1 x2)
                  go_quiet (fail)
                  go_wp2
                  go_roundw
                  case rel => exact ⟨k + 1, by omega, by go_num, HOk2, HF2.out.below (below_drewN (Below.refl _ _) _)⟩
                  case measure => simp [intOf]; omega
              · have q1 : decide (0 < k) = false := by simpa using h0
                have q1' : decide ((0 : Int) < (k : Int)) = false := by simp; omega
                have HOk2 : Hid (okTo xs (k + 1)) := HOk.out.succ (ok_mk HXk.out HE.out (fun h => absurd h h0))
                clear h0
                go_wp2_with (go_at_call 86; refine (P1.out).mono ?_; rintro e w2 ⟨rfl, h2⟩; obtain ⟨y0, y1, HF2, hold⟩ := HAfter.out w2 h2; clear hold h2 x1 x2)
                go_quiet (fail)
                go_wp2
                go_roundw
                case rel => exact ⟨k + 1, by omega, by go_num, HOk2, HF2.out.below (below_drewN (Below.refl _ _) _)⟩
                case measure => simp [intOf]; omega
      · have P1 := Lib.hid (right_not p.1 p.2 W1 hr)
        have hV : V = false := by rw [HV.out]; exact fine_not (not_in HXk.out (fun h => hr h.right))
        have HV2 := Lib.hid hV
        clear hr hV
        go_wp2_with (go_at_call 86; refine (P1.out).mono ?_; rintro e w2 ⟨rfl, h2⟩; obtain ⟨y0, y1, HF2, hold⟩ := HAfter.out w2 h2; clear hold h2 x1 x2)
        rw [HV2.out]
        go_ret
        exact ⟨rfl, HF2.out.bel⟩
    · obtain rfl : k = n := by omega
      have hkI : decide ((k : Int) < (k : Int)) = false := by simp
      have hL : xs.length ≤ 1000000 := by rw [← HN.out]; omega
      have p1 := callsIn_wide.1 (each_in 9 A k c wr)
      have hB2 : Below wr.heap.size wr (wr.alloc (.cells #[.slice A k c] 57)) := (Below.refl _ _).alloc (Nat.le_refl _) _
      have p2 := sorted_any wr.heap.size A xs c hL (wr.alloc (.cells #[.slice A k c] 57)) (by simp) (by rw [← HN.out]; exact heap_alloc_new _ _) (HF.out.row.below hB2)
      have hlen : (Lib.compact ((blks xs).mergeSort ltI)).length = ((blks xs).mergeSort ltI).length ↔ (blks xs).Nodup := (compact_len (sort_le _)).trans (nodup_sort _)
      have hzl : ((blks xs).mergeSort ltI).length ≤ 800 := by rw [List.length_mergeSort]; have := blks_length xs; have := HN.out; omega
      obtain ⟨zs, hzs⟩ : ∃ zs, zs = (blks xs).mergeSort ltI := ⟨_, rfl⟩
      rw [← hzs] at p2 hlen hzl
      have P1 := Lib.hid p1
      have P2 := Lib.hid p2
      have HB := Lib.hid (HF.out.bel.trans (hB2.mono HF.out.bel.size))
      have HLen := Lib.hid hlen
      clear p1 p2 hB2 hlen hzs hL
      go_wp2_with fail
      refine (P1.out).mono ?_
      rintro e w2 ⟨rfl, rfl⟩
      go_wp2_with fail
      refine (P2.out).mono ?_
      rintro e w3 ⟨A3, c3, rfl, ho3, hB3⟩
      have HB3 := Lib.hid (HB.out.trans (hB3.mono HB.out.size))
      have P3 := Lib.hid (compactints_any A3 zs c3 w.heap.size w3 (own_mono ho3 HB.out.size) (by omega) HB3.out.size)
      have hcl := Lib.compact_length_le zs
      obtain ⟨m, hm⟩ : ∃ m, m = (Lib.compact zs).length := ⟨_, rfl⟩
      obtain ⟨z, hz⟩ : ∃ z, z = zs.length := ⟨_, rfl⟩
      rw [← hm] at hcl P3
      rw [← hz] at hcl hzl
      have HZ := Lib.hid hz
      have fin : (m = z → V = true) ∧ (m ≠ z → V = false) := by
        rw [HV.out]
        exact ⟨fun hmz => fine_yes ⟨by rw [← HN.out]; exact HOk.out, HLen.out.1 (by rw [← hm, ← hz]; exact hmz)⟩, fun hmz => fine_not (fun h => hmz (by rw [hm, hz]; exact HLen.out.2 h.2))⟩
      have HFin := Lib.hid fin
      rw [← hz] at P3 ⊢
      clear ho3 hB3 fin hm hz
      by_cases hmz : m = z
      · have hv := HFin.out.1 hmz
        have d : ((m : Int) == (z : Int)) = true := by simp [hmz]
        subst hv
        clear hmz
        go_wp2_with fail
        refine (P3.out).mono ?_
        rintro e w4 ⟨A4, c4, rfl, hB4⟩
        have HB4 := Lib.hid (HB3.out.trans hB4)
        clear hB4
        go_wp2_with fail
        go_ret
        exact ⟨rfl, HB4.out⟩
      · have hv := HFin.out.2 hmz
        have d : ((m : Int) == (z : Int)) = false := by simp; omega
        subst hv
        clear hmz
        go_wp2_with fail
        refine (P3.out).mono ?_
        rintro e w4 ⟨A4, c4, rfl, hB4⟩
        have HB4 := Lib.hid (HB3.out.trans hB4)
        clear hB4
        go_wp2_with fail
        go_ret
        exact ⟨rfl, HB4.out⟩
end Go.Proofs.Ytjdpljhhlmcbaaa
