/- The contracts of slices.Grow of nothing and of slices.Concat at bytes. Condition: at most 10^9 bytes together. -/
import Derived.Test.YtjdpljhhlmcbaaaCloneS
import Derived.Test.YtjdpljhhlmcbaaaTch
import Derived.Lib.AppendZeros
namespace Go.Cat
open Go.RowKit
/-- A part: its address, its bytes, its capacity. -/
abbrev Part8 := Option Addr × List UInt8 × Nat
def partCell (p : Part8) : Value := .slice p.1 p.2.1.length p.2.2
def catTo (ps : List Part8) (k : Nat) : List UInt8 := (ps.take k).flatMap (·.2.1)
theorem catTo_succ {ps : List Part8} {k : Nat} (h : k < ps.length) : catTo ps (k + 1) = catTo ps k ++ ps[k].2.1 := by
  unfold catTo
  rw [List.take_succ_eq_append_getElem h, List.flatMap_append]
  simp
theorem catTo_all (ps : List Part8) : catTo ps ps.length = ps.flatMap (·.2.1) := by unfold catTo; rw [List.take_length]
theorem catTo_le (ps : List Part8) (k : Nat) : (catTo ps k).length ≤ (ps.flatMap (·.2.1)).length := by
  unfold catTo
  have h : ps.flatMap (·.2.1) = (ps.take k).flatMap (·.2.1) ++ (ps.drop k).flatMap (·.2.1) := by rw [← List.flatMap_append, List.take_append_drop]
  rw [h, List.length_append]
  omega
end Go.Cat
namespace Go.Proofs.Ytjdpljhhlmcbaaa
open Go.RowKit Go.Cat

theorem infoC8 : (Try.prog.info? 5).map (fun i => (i.zero, i.size, i.bytes)) = some (some (.int .u8 0), 1, 1) := by kernel_rfl

set_option maxRecDepth 100000 in
theorem grow_nil (n : Nat) (w : World) (hn : n ≤ 1000000000) :
    Calls Try.prog 80 #[.slice none 0 0, .int .i64 (n : Int)] w fun e w' => ∃ v, e = .returned v ∧ w'.ownsRow w.heap.size 5 1 v 0 [] ∧ Below w.heap.size w w' := by
  obtain ⟨i0, hi, hz0, hz1, hz2⟩ := info_parts infoC8
  by_cases h0 : n = 0
  · subst h0
    clear hi hz0 hz1 hz2
    go_enter Try.func80, Try.ntmps80
    go_wp2_with fail
    go_ret
    exact ⟨_, rfl, World.ownsRow_nil _ _ _ _, Below.refl _ _⟩
  · have hp : 0 < n := by omega
    have d1 : decide ((n : Int) < 0) = false := by simp
    have d2 : decide ((0 : Int) < (n : Int)) = true := by simp; omega
    have d2' : decide (0 < n) = true := by simpa using hp
    have hrun := fun ty => Lib.run_append_nil_zeros (P := Try.prog) w 35 3 ty 5 i0 (.int .u8 0) .i64 .i64 Try.underlying35 Try.underlying3 hi hz0 n hp (by rw [hz1]; decide) (by omega) (by rw [hz2]; omega)
    have hge := grownCap_ge w n 0 5
    have hle := grownCap_le_maxLen w n 0 5 (by unfold maxLen; omega)
    obtain ⟨G, hG⟩ : ∃ G, G = grownCap w n 0 5 := ⟨_, rfl⟩
    rw [← hG] at hrun hge hle
    obtain ⟨cur, hcur⟩ : ∃ cur, cur = Builtin.zeroCells (Value.int .u8 0).cells n ++ Builtin.zeroCells (Value.int .u8 0).cells (G - n) := ⟨_, rfl⟩
    rw [← hcur] at hrun
    have hsz : cur.size = G * 1 := by rw [hcur, Array.size_append, size_zeroCells, size_zeroCells]; simp [Value.cells]; omega
    have hrow : (w.drew.alloc (.cells cur 5)).ownsRow w.heap.size 5 1 (.slice (some ⟨w.heap.size, 0, none⟩) 0 G) 0 [] :=
      ⟨rfl, .inr ⟨w.heap.size, G, cur, rfl, Nat.le_refl _, heap_alloc_new _ _, Nat.zero_le _, hle, hsz, by simp⟩⟩
    have HR := Lib.hid hrow
    have HRun := Lib.hid hrun
    have hG63 : G ≤ 9223372036854775807 := by unfold maxLen at hle; exact hle
    clear hG hcur hsz hrow hrun hle hi hz0 hz1 hz2 h0
    go_enter Try.func80, Try.ntmps80
    go_wp2_with (at_builtin; refine Lib.wpList_append_run _ rfl _ _ _ _ rfl _ _ rfl rfl _ _ (HRun.out _) ?_)
    go_ret
    exact ⟨_, rfl, HR.out, (Below.refl _ _).drew.alloc (Nat.le_refl _) _⟩

set_option maxRecDepth 100000 in
set_option maxHeartbeats 1000000 in
theorem concat_any (A : Option Addr) (ps : List Part8) (c : Nat) (w : World) (hs : Sees w A (ps.map partCell)) (hb : ∀ p ∈ ps, Bytes w p.1 p.2.1) (hm : (ps.flatMap (·.2.1)).length ≤ 1000000000) (hn : ps.length ≤ 9223372036854775807) :
    Calls Try.prog 72 #[.slice A ps.length c] w fun e w' => ∃ A' c', e = .returned (.slice A' (ps.flatMap (·.2.1)).length c') ∧ w'.ownsRow w.heap.size 5 1 (.slice A' (ps.flatMap (·.2.1)).length c') (ps.flatMap (·.2.1)).length ((ps.flatMap (·.2.1)).map by8) ∧ Below w.heap.size w w' := by
  obtain ⟨n, hnn⟩ : ∃ n, n = ps.length := ⟨_, rfl⟩
  have hall := catTo_all ps
  rw [← hnn] at hn hall ⊢
  have hle := catTo_le ps
  rw [← hall] at hm hle ⊢
  have HN := Lib.hid hnn
  have HS := Lib.hid hs
  have HB := Lib.hid hb
  have HLe := Lib.hid hle
  clear hnn hs hb hle hall
  have cellAt : ∀ (k : Nat) (hk : k < n), ∃ (b off : Nat) (p : Part8), A = some ⟨b, off, none⟩ ∧ b < w.heap.size ∧ w.cell? ⟨b, off + k, none⟩ = some (.slice p.1 p.2.1.length p.2.2) ∧ Bytes w p.1 p.2.1 ∧ catTo ps (k + 1) = catTo ps k ++ p.2.1 := by
    intro k hk
    have hkp : k < ps.length := by rw [← HN.out]; exact hk
    obtain ⟨b, off, hA, hbl, hc⟩ := HS.out.at_ (by rw [List.length_map]; omega)
    exact ⟨b, off, ps[k], hA, hbl, by rw [hc k (by rw [List.length_map]; exact hkp), List.getElem_map]; rfl, HB.out _ (List.getElem_mem _), catTo_succ hkp⟩
  have HCell := Lib.hid cellAt
  clear cellAt
  go_enter Try.func72, Try.ntmps72
  go_wp2_with fail
  go_loop [3, 11] (fun sv iv => ∃ k : Nat, k ≤ n ∧ iv = .int .i64 k ∧ sv = .int .i64 ((catTo ps k).length : Int)) (fun _ iv => n - (intOf iv).toNat)
  case atStart => exact ⟨0, Nat.zero_le _, rfl, rfl⟩
  case round =>
    obtain ⟨k, hk, rfl, rfl⟩ := hrel
    by_cases hlt : k < n
    · have t1 : decide ((k : Int) < (n : Int)) = true := by simp; omega
      obtain ⟨b, off, p, rfl, hbl, hcell, _, hcat⟩ := HCell.out k hlt
      have h2 := HLe.out (k + 1)
      rw [hcat, List.length_append] at h2
      obtain ⟨q, hq⟩ : ∃ q, q = (catTo ps k).length := ⟨_, rfl⟩
      rw [← hq] at h2 ⊢
      have hnext : ((catTo ps (k + 1)).length : Int) = (q : Int) + (p.2.1.length : Int) := by rw [hcat, List.length_append, ← hq]; simp
      have HNx := Lib.hid hnext
      have t2 : decide ((q : Int) + (p.2.1.length : Int) < 0) = false := by simp; omega
      have hkI : (k : Int) < (n : Int) := by omega
      have hk0 : (0 : Int) ≤ (k : Int) := by omega
      have hsum : (q : Int) + (p.2.1.length : Int) ≤ 1000000000 := by omega
      clear hcat hnext hq
      go_wp2_with fail
      go_round
      case rel => exact ⟨k + 1, by omega, by go_num, by rw [HNx.out]⟩
      case measure => simp [intOf]; omega
    · obtain rfl : k = n := by omega
      have t1 : decide ((k : Int) < (k : Int)) = false := by simp
      obtain ⟨L, hL⟩ : ∃ L, L = (catTo ps k).length := ⟨_, rfl⟩
      rw [← hL] at hm ⊢
      have HL := Lib.hid hL
      have P1 := Lib.hid (grow_nil L w hm)
      clear hL
      go_wp2_with fail
      refine (P1.out).mono ?_
      rintro e w1 ⟨v1, rfl, ho1, hB1⟩
      obtain ⟨A1, c1, rfl, _⟩ := own_form ho1
      have HO1 := Lib.hid ho1
      have HB1 := Lib.hid hB1
      clear ho1 hB1 t1
      go_wp2_with fail
      go_loopw [6, 27] (fun sv iv wr => ∃ (j m : Nat) (A2 : Option Addr) (c2 : Nat), j ≤ k ∧ iv = .int .i64 j ∧ sv = .slice A2 m c2 ∧ Hid (m = (catTo ps j).length) ∧ Hid (wr.ownsRow w.heap.size 5 1 (.slice A2 m c2) m ((catTo ps j).map by8)) ∧ Hid (Below w.heap.size w wr)) (fun _ iv _ => k - (intOf iv).toNat)
      case atStart => exact ⟨0, 0, A1, c1, Nat.zero_le _, rfl, rfl, rfl, HO1.out, HB1.out⟩
      case round =>
        clear HO1 HB1
        obtain ⟨j, m, A2, c2, hj, rfl, rfl, HM, HO, HB1⟩ := hrel
        by_cases hlt : j < k
        · have t1 : decide ((j : Int) < (k : Int)) = true := by simp; omega
          obtain ⟨b, off, p, rfl, hbl, hcell, hby, hcat⟩ := HCell.out j hlt
          have h2 := HLe.out (j + 1)
          rw [hcat, List.length_append, ← HL.out, ← HM.out] at h2
          have hcell2 := (HB1.out.cell (p := ⟨b, off + j, none⟩) hbl).trans hcell
          have hby2 := hby.below HB1.out
          have HBy := Lib.hid hby2
          have HCat := Lib.hid hcat
          have hkI : (j : Int) < (k : Int) := by omega
          have hk0 : (0 : Int) ≤ (j : Int) := by omega
          have hsz := HB1.out.size
          clear hcat hcell hby hby2
          go_wp2_with (at_builtin; refine wpList_app elem_u8 rfl _ _ rfl w.heap.size (.slice A2 m c2) m ((catTo ps j).map by8) rfl HO.out p.1 p.2.1.length p.2.2 (p.2.1.map by8) rfl HBy.out (by simp) (one_by8 _) (by omega) hsz ?_)
          intro v2 w2 hown hgr _
          obtain ⟨A3, c3, rfl, _, _⟩ := own_full hown
          have hm2 : m + p.2.1.length = (catTo ps (j + 1)).length := by rw [HCat.out, List.length_append, HM.out]
          have ho2 : w2.ownsRow w.heap.size 5 1 (.slice A3 (m + p.2.1.length) c3) (m + p.2.1.length) ((catTo ps (j + 1)).map by8) := by rw [HCat.out, List.map_append]; exact hown
          have hB2 : Below w.heap.size w w2 := HB1.out.own HO.out hgr hsz (Nat.le_refl _)
          have HM2 := Lib.hid hm2
          have HO2 := Lib.hid ho2
          have HB2 := Lib.hid hB2
          clear hown hgr hm2 ho2 hB2
          go_wp2_with fail
          go_roundw
          case rel => exact ⟨j + 1, _, A3, c3, by omega, by go_num, rfl, HM2.out, HO2.out, HB2.out⟩
          case measure => simp [intOf]; omega
        · obtain rfl : j = k := by omega
          have t1 : decide ((j : Int) < (j : Int)) = false := by simp
          have hm := HM.out
          rw [← HL.out] at hm
          subst hm
          go_wp2_with fail
          go_ret
          exact ⟨A2, c2, ret_slice HL.out, by rw [← HL.out]; exact HO.out, HB1.out⟩
end Go.Proofs.Ytjdpljhhlmcbaaa
