/- The contracts of the parts TrConcat, TrPut, in one text. Conditions: those told at each part. -/
import Derived.Test.YtabecceojbeomaaGreatDoorClone
import Derived.Test.YtabecceojbeomaaGreatDoorTch
import Derived.Lib.AppendZeros
import Derived.Test.YtabecceojbeomaaGreatDoorTrCalls
import Derived.Deep.Cut
import Derived.Deep.RegionHeld3
section
/- The contracts of slices.Grow of nothing and of slices.Concat at bytes. Condition: at most 10^9 bytes together. -/
namespace Go.Cat
open Go.RowKit
/-- A part: its address, its bytes, its capacity. -/
abbrev Part8 := Option Addr × List UInt8 × Nat
def partCell (p : Part8) : Value := .slice p.1 p.2.1.length p.2.2
def catTo (ps : List Part8) (k : Nat) : List UInt8 := (ps.take k).flatMap (·.2.1)
theorem catTo_succ {ps : List Part8} {k : Nat} (h : k < ps.length) : catTo ps (k + 1) = catTo ps k ++ ps[k].2.1 := by
  unfold catTo
  rw [List.take_succ_eq_append_getElem h, List.flatMap_append]
  simp
theorem catTo_all (ps : List Part8) : catTo ps ps.length = ps.flatMap (·.2.1) := by unfold catTo; rw [List.take_length]
theorem catTo_le (ps : List Part8) (k : Nat) : (catTo ps k).length ≤ (ps.flatMap (·.2.1)).length := by
  unfold catTo
  have h : ps.flatMap (·.2.1) = (ps.take k).flatMap (·.2.1) ++ (ps.drop k).flatMap (·.2.1) := by rw [← List.flatMap_append, List.take_append_drop]
  rw [h, List.length_append]
  omega
end Go.Cat
namespace Go.Proofs.YtabecceojbeomaaGreatDoor
open Go.RowKit Go.Cat

theorem infoC8 : (Tryz.prog.info? 5).map (fun i => (i.zero, i.size, i.bytes)) = some (some (.int .u8 0), 1, 1) := by kernel_rfl

set_option maxRecDepth 100000 in
theorem grow_nil (n : Nat) (w : World) (hn : n ≤ 1000000000) :
    Calls Tryz.prog 88 #[.slice none 0 0, .int .i64 (n : Int)] w fun e w' => ∃ v, e = .returned v ∧ w'.ownsRow w.heap.size 5 1 v 0 [] ∧ Below w.heap.size w w' := by
  obtain ⟨i0, hi, hz0, hz1, hz2⟩ := info_parts infoC8
  by_cases h0 : n = 0
  · subst h0
    clear hi hz0 hz1 hz2
    go_enter Tryz.func88, Tryz.ntmps88
    go_wp2_with fail
    go_ret
    exact ⟨_, rfl, World.ownsRow_nil _ _ _ _, Below.refl _ _⟩
  · have hp : 0 < n := by omega
    have d1 : decide ((n : Int) < 0) = false := by simp
    have d2 : decide ((0 : Int) < (n : Int)) = true := by simp; omega
    have d2' : decide (0 < n) = true := by simpa using hp
    have hrun := fun ty => Lib.run_append_nil_zeros (P := Tryz.prog) w 23 3 ty 5 i0 (.int .u8 0) .i64 .i64 Tryz.underlying23 Tryz.underlying3 hi hz0 n hp (by rw [hz1]; decide) (by omega) (by rw [hz2]; omega)
    have hge := grownCap_ge w n 0 5
    have hle := grownCap_le_maxLen w n 0 5 (by unfold maxLen; omega)
    obtain ⟨G, hG⟩ : ∃ G, G = grownCap w n 0 5 := ⟨_, rfl⟩
    rw [← hG] at hrun hge hle
    obtain ⟨cur, hcur⟩ : ∃ cur, cur = Builtin.zeroCells (Value.int .u8 0).cells n ++ Builtin.zeroCells (Value.int .u8 0).cells (G - n) := ⟨_, rfl⟩
    rw [← hcur] at hrun
    have hsz : cur.size = G * 1 := by rw [hcur, Array.size_append, size_zeroCells, size_zeroCells]; simp [Value.cells]; omega
    have hrow : (w.drew.alloc (.cells cur 5)).ownsRow w.heap.size 5 1 (.slice (some ⟨w.heap.size, 0, none⟩) 0 G) 0 [] :=
      ⟨rfl, .inr ⟨w.heap.size, G, cur, rfl, Nat.le_refl _, heap_alloc_new _ _, Nat.zero_le _, hle, hsz, by simp⟩⟩
    have HR := Lib.hid hrow
    have HRun := Lib.hid hrun
    have hG63 : G ≤ 9223372036854775807 := by unfold maxLen at hle; exact hle
    clear hG hcur hsz hrow hrun hle hi hz0 hz1 hz2 h0
    go_enter Tryz.func88, Tryz.ntmps88
    go_wp2_with (at_builtin; refine Lib.wpList_append_run _ rfl _ _ _ _ rfl _ _ rfl rfl _ _ (HRun.out _) ?_)
    go_ret
    exact ⟨_, rfl, HR.out, (Below.refl _ _).drew.alloc (Nat.le_refl _) _⟩

set_option maxRecDepth 100000 in
set_option maxHeartbeats 1000000 in
theorem concat_any (A : Option Addr) (ps : List Part8) (c : Nat) (w : World) (hs : Sees w A (ps.map partCell)) (hb : ∀ p ∈ ps, Bytes w p.1 p.2.1) (hm : (ps.flatMap (·.2.1)).length ≤ 1000000000) (hn : ps.length ≤ 9223372036854775807) :
    Calls Tryz.prog 77 #[.slice A ps.length c] w fun e w' => ∃ A' c', e = .returned (.slice A' (ps.flatMap (·.2.1)).length c') ∧ w'.ownsRow w.heap.size 5 1 (.slice A' (ps.flatMap (·.2.1)).length c') (ps.flatMap (·.2.1)).length ((ps.flatMap (·.2.1)).map by8) ∧ Below w.heap.size w w' := by
  obtain ⟨n, hnn⟩ : ∃ n, n = ps.length := ⟨_, rfl⟩
  have hall := catTo_all ps
  rw [← hnn] at hn hall ⊢
  have hle := catTo_le ps
  rw [← hall] at hm hle ⊢
  have HN := Lib.hid hnn
  have HS := Lib.hid hs
  have HB := Lib.hid hb
  have HLe := Lib.hid hle
  clear hnn hs hb hle hall
  have cellAt : ∀ (k : Nat) (hk : k < n), ∃ (b off : Nat) (p : Part8), A = some ⟨b, off, none⟩ ∧ b < w.heap.size ∧ w.cell? ⟨b, off + k, none⟩ = some (.slice p.1 p.2.1.length p.2.2) ∧ Bytes w p.1 p.2.1 ∧ catTo ps (k + 1) = catTo ps k ++ p.2.1 := by
    intro k hk
    have hkp : k < ps.length := by rw [← HN.out]; exact hk
    obtain ⟨b, off, hA, hbl, hc⟩ := HS.out.at_ (by rw [List.length_map]; omega)
    exact ⟨b, off, ps[k], hA, hbl, by rw [hc k (by rw [List.length_map]; exact hkp), List.getElem_map]; rfl, HB.out _ (List.getElem_mem _), catTo_succ hkp⟩
  have HCell := Lib.hid cellAt
  clear cellAt
  go_enter Tryz.func77, Tryz.ntmps77
  go_wp2_with fail
  go_loop [3, 11] (fun sv iv => ∃ k : Nat, k ≤ n ∧ iv = .int .i64 k ∧ sv = .int .i64 ((catTo ps k).length : Int)) (fun _ iv => n - (intOf iv).toNat)
  case atStart => exact ⟨0, Nat.zero_le _, rfl, rfl⟩
  case round =>
    obtain ⟨k, hk, rfl, rfl⟩ := hrel
    by_cases hlt : k < n
    · have t1 : decide ((k : Int) < (n : Int)) = true := by simp; omega
      obtain ⟨b, off, p, rfl, hbl, hcell, _, hcat⟩ := HCell.out k hlt
      have h2 := HLe.out (k + 1)
      rw [hcat, List.length_append] at h2
      obtain ⟨q, hq⟩ : ∃ q, q = (catTo ps k).length := ⟨_, rfl⟩
      rw [← hq] at h2 ⊢
      have hnext : ((catTo ps (k + 1)).length : Int) = (q : Int) + (p.2.1.length : Int) := by rw [hcat, List.length_append, ← hq]; simp
      have HNx := Lib.hid hnext
      have t2 : decide ((q : Int) + (p.2.1.length : Int) < 0) = false := by simp; omega
      have hkI : (k : Int) < (n : Int) := by omega
      have hk0 : (0 : Int) ≤ (k : Int) := by omega
      have hsum : (q : Int) + (p.2.1.length : Int) ≤ 1000000000 := by omega
      clear hcat hnext hq
      go_wp2_with fail
      go_round
      case rel => exact ⟨k + 1, by omega, by go_num, by rw [HNx.out]⟩
      case measure => simp [intOf]; omega
    · obtain rfl : k = n := by omega
      have t1 : decide ((k : Int) < (k : Int)) = false := by simp
      obtain ⟨L, hL⟩ : ∃ L, L = (catTo ps k).length := ⟨_, rfl⟩
      rw [← hL] at hm ⊢
      have HL := Lib.hid hL
      have P1 := Lib.hid (grow_nil L w hm)
      clear hL
      go_wp2_with fail
      refine (P1.out).mono ?_
      rintro e w1 ⟨v1, rfl, ho1, hB1⟩
      obtain ⟨A1, c1, rfl, _⟩ := own_form ho1
      have HO1 := Lib.hid ho1
      have HB1 := Lib.hid hB1
      clear ho1 hB1 t1
      go_wp2_with fail
      go_loopw [6, 27] (fun sv iv wr => ∃ (j m : Nat) (A2 : Option Addr) (c2 : Nat), j ≤ k ∧ iv = .int .i64 j ∧ sv = .slice A2 m c2 ∧ Hid (m = (catTo ps j).length) ∧ Hid (wr.ownsRow w.heap.size 5 1 (.slice A2 m c2) m ((catTo ps j).map by8)) ∧ Hid (Below w.heap.size w wr)) (fun _ iv _ => k - (intOf iv).toNat)
      case atStart => exact ⟨0, 0, A1, c1, Nat.zero_le _, rfl, rfl, rfl, HO1.out, HB1.out⟩
      case round =>
        clear HO1 HB1
        obtain ⟨j, m, A2, c2, hj, rfl, rfl, HM, HO, HB1⟩ := hrel
        by_cases hlt : j < k
        · have t1 : decide ((j : Int) < (k : Int)) = true := by simp; omega
          obtain ⟨b, off, p, rfl, hbl, hcell, hby, hcat⟩ := HCell.out j hlt
          have h2 := HLe.out (j + 1)
          rw [hcat, List.length_append, ← HL.out, ← HM.out] at h2
          have hcell2 := (HB1.out.cell (p := ⟨b, off + j, none⟩) hbl).trans hcell
          have hby2 := hby.below HB1.out
          have HBy := Lib.hid hby2
          have HCat := Lib.hid hcat
          have hkI : (j : Int) < (k : Int) := by omega
          have hk0 : (0 : Int) ≤ (j : Int) := by omega
          have hsz := HB1.out.size
          clear hcat hcell hby hby2
          go_wp2_with (at_builtin; refine wpList_app elem_u8 rfl _ _ rfl w.heap.size (.slice A2 m c2) m ((catTo ps j).map by8) rfl HO.out p.1 p.2.1.length p.2.2 (p.2.1.map by8) rfl HBy.out (by simp) (one_by8 _) (by omega) hsz ?_)
          intro v2 w2 hown hgr _
          obtain ⟨A3, c3, rfl, _, _⟩ := own_full hown
          have hm2 : m + p.2.1.length = (catTo ps (j + 1)).length := by rw [HCat.out, List.length_append, HM.out]
          have ho2 : w2.ownsRow w.heap.size 5 1 (.slice A3 (m + p.2.1.length) c3) (m + p.2.1.length) ((catTo ps (j + 1)).map by8) := by rw [HCat.out, List.map_append]; exact hown
          have hB2 : Below w.heap.size w w2 := HB1.out.own HO.out hgr hsz (Nat.le_refl _)
          have HM2 := Lib.hid hm2
          have HO2 := Lib.hid ho2
          have HB2 := Lib.hid hB2
          clear hown hgr hm2 ho2 hB2
          go_wp2_with fail
          go_roundw
          case rel => exact ⟨j + 1, _, A3, c3, by omega, by go_num, rfl, HM2.out, HO2.out, HB2.out⟩
          case measure => simp [intOf]; omega
        · obtain rfl : j = k := by omega
          have t1 : decide ((j : Int) < (j : Int)) = false := by simp
          have hm := HM.out
          rw [← HL.out] at hm
          subst hm
          go_wp2_with fail
          go_ret
          exact ⟨A2, c2, ret_slice HL.out, by rw [← HL.out]; exact HO.out, HB1.out⟩

/-- slices.Concat of three parts that a call has just laid. -/
theorem cat3_any (A1 : Option Addr) (b1 : List UInt8) (c1 : Nat) (A2 : Option Addr) (b2 : List UInt8) (c2 : Nat) (A3 : Option Addr) (b3 : List UInt8) (c3 : Nat) (w : World) (h1 : Bytes w A1 b1) (h2 : Bytes w A2 b2) (h3 : Bytes w A3 b3) (nb : List UInt8) (hc : [b1, b2, b3].flatten = nb) (hm : nb.length ≤ 1000000000) :
    Calls Tryz.prog 77 #[.slice (some ⟨w.heap.size, 0, none⟩) 3 3] (w.alloc (.cells #[.slice A1 b1.length c1, .slice A2 b2.length c2, .slice A3 b3.length c3] 23)).drew fun e w' => ∃ B cB, e = .returned (.slice B nb.length cB) ∧
      w'.ownsRow (w.alloc (.cells #[.slice A1 b1.length c1, .slice A2 b2.length c2, .slice A3 b3.length c3] 23)).drew.heap.size 5 1 (.slice B nb.length cB) nb.length (nb.map by8) ∧ Below (w.alloc (.cells #[.slice A1 b1.length c1, .slice A2 b2.length c2, .slice A3 b3.length c3] 23)).drew.heap.size (w.alloc (.cells #[.slice A1 b1.length c1, .slice A2 b2.length c2, .slice A3 b3.length c3] 23)).drew w' := by
  have hb : Below w.heap.size w (w.alloc (.cells #[.slice A1 b1.length c1, .slice A2 b2.length c2, .slice A3 b3.length c3] 23)).drew := ((Below.refl _ _).alloc (Nat.le_refl _) _).drew
  have hf : ([(A1, b1, c1), (A2, b2, c2), (A3, b3, c3)] : List Part8).flatMap (·.2.1) = nb := by rw [← hc]; simp
  have := concat_any (some ⟨w.heap.size, 0, none⟩) [(A1, b1, c1), (A2, b2, c2), (A3, b3, c3)] 3 (w.alloc (.cells #[.slice A1 b1.length c1, .slice A2 b2.length c2, .slice A3 b3.length c3] 23)).drew
    (sees_new w [.slice A1 b1.length c1, .slice A2 b2.length c2, .slice A3 b3.length c3] 23) (fun p hp => by
      simp only [List.mem_cons, List.not_mem_nil, or_false] at hp
      rcases hp with rfl | rfl | rfl
      · exact h1.below hb
      · exact h2.below hb
      · exact h3.below hb) (by rw [hf]; exact hm) (by show 3 ≤ _; decide)
  rw [hf] at this
  exact this
end Go.Proofs.YtabecceojbeomaaGreatDoor
end

section
/- The contract of a Tree's put. Condition: a tree's things stand in directories; the path's length below 2^31. -/
namespace Go.Proofs.YtabecceojbeomaaGreatDoor
open Go.RowKit Go.Cat Go.Cat.Dir Go.Cat.Tree Go.Maps

set_option maxRecDepth 100000 in
set_option maxHeartbeats 8000000 in
theorem put_any (a : Nat) (I J : Int) (M : Nat) (es : List (Txt × El)) (c : CallV) (A : Option Addr) (cA : Nat) (w : World) (h : TrAt w a I J M es) (hA : Bytes w A c.data) (hi : Inv (ths es)) (hn : es.length ≤ 100000) (hp : c.path.length < 4294967281) :
    Calls Tryz.prog 52 #[.pointer (some ⟨a, 0, none⟩), .agg (callC c A cA)] w (ToldA (putV (ths es) c) w a I J M) := by
  have hF := MF.start h hA cA
  have p1 := file_any a I J M es c.path _ hF.tr hp
  have hfi : ∀ {x : Th}, (fileV (ths es) c.path).1 = 0 → x = (fileV (ths es) c.path).2 → x.b.length ≤ 512 := fun {x} h1 h2 => by rw [h2]; exact hi.fit _ (get_mem (hi.file_ok h1).1)
  obtain ⟨V, hV⟩ : ∃ V, V = putV (ths es) c := ⟨_, rfl⟩
  rw [← hV]
  unfold putV at hV
  obtain ⟨r, hr⟩ : ∃ r, r = fileV (ths es) c.path := ⟨_, rfl⟩
  rw [← hr] at hV p1 hfi
  obtain ⟨rc, rx⟩ := r
  simp only at hV p1 hfi
  have P1 := Lib.hid p1
  have HV := Lib.hid hV
  have HF := Lib.hid hF
  have HN5 := Lib.hid hn
  have HP := Lib.hid hp
  have HFi : Hid (∀ x : Th, rc = 0 → x = rx → x.b.length ≤ 512) := fun x => hfi
  clear h hA p1 hr hV hF hfi hn hi hp
  obtain ⟨D, hD⟩ : ∃ D, D = c.data.length := ⟨_, rfl⟩
  rw [← hD] at HV
  by_cases h1 : c.off < 0
  · have t9 : decide (c.off < 0) = true := by simpa using h1
    clear hD
    have hl : V = (ths es, wrongV 1) := by rw [HV.out, if_pos (.inl h1)]
    have HL := Lib.hid hl
    have P9 := Lib.hid (wrong_any 1 ((w.alloc (.cells (callC c A cA) 33)).alloc (.cells (ansC 0 none 0 0 none 0 0 0 false) 36)))
    clear hl P1
    go_enter Tryz.func52, Tryz.ntmps52
    go_wp2_with fail
    refine (P9.out).mono ?_
    rintro e w9 ⟨rfl, hB9⟩
    have hF9 := HF.out.below hB9
    clear hB9
    obtain ⟨⟨k0, k1, k2, k3, k4, k5⟩, ⟨r0, r1, r2, r3, r4⟩, ⟨q0, q1, q2, q3, q4⟩, c2⟩ := hF9.facts
    have HF9 := Lib.hid hF9
    clear hF9
    go_wp2_with fail
    refine bodyPost_ret (ret_ans rfl (by rfl) (set5B _ _ _ _ _ HF9.out.rb)) rfl ?_
    rw [HL.out]
    exact HF9.out.no 1
  · have t9 : decide (c.off < 0) = false := by simpa using h1
    by_cases h2 : 128 < D
    · have t8 : decide ((128 : Int) < (c.data.length : Int)) = true := by rw [← hD]; simp; omega
      clear hD
      have hl : V = (ths es, wrongV 1) := by rw [HV.out, if_pos (.inr h2)]
      have HL := Lib.hid hl
      have P9 := Lib.hid (wrong_any 1 ((w.alloc (.cells (callC c A cA) 33)).alloc (.cells (ansC 0 none 0 0 none 0 0 0 false) 36)))
      clear hl P1
      go_enter Tryz.func52, Tryz.ntmps52
      go_wp2_with fail
      refine (P9.out).mono ?_
      rintro e w9 ⟨rfl, hB9⟩
      have hF9 := HF.out.below hB9
      clear hB9
      obtain ⟨⟨k0, k1, k2, k3, k4, k5⟩, ⟨r0, r1, r2, r3, r4⟩, ⟨q0, q1, q2, q3, q4⟩, c2⟩ := hF9.facts
      have HF9 := Lib.hid hF9
      clear hF9
      go_wp2_with fail
      refine bodyPost_ret (ret_ans rfl (by rfl) (set5B _ _ _ _ _ HF9.out.rb)) rfl ?_
      rw [HL.out]
      exact HF9.out.no 1
    · have t8 : decide ((128 : Int) < (c.data.length : Int)) = false := by rw [← hD]; simp; omega
      rw [if_neg (by omega)] at HV
      obtain ⟨o, ho⟩ : ∃ o : Nat, c.off = o := ⟨c.off.toNat, by omega⟩
      have hD8 : D ≤ 128 := by omega
      have HO := Lib.hid ho
      have HD := Lib.hid hD
      rw [ho] at HV
      clear ho h1 h2
      go_enter Tryz.func52, Tryz.ntmps52
      go_wp2_with fail
      refine (P1.out).mono ?_
      rintro e w2 ⟨x, rfl, hx, hel2, hB2⟩
      have HX := Lib.hid hx
      have hF2 := (HF.out.below hB2).below ((Below.refl _ w2).alloc (Nat.le_refl _) (.cells #[.bool x.1.dir, .slice x.2.1 x.1.b.length x.2.2] 60))
      have hN := heap_alloc_new w2 (.cells #[.bool x.1.dir, .slice x.2.1 x.1.b.length x.2.2] 60)
      have hel := el_below hel2 ((Below.refl _ w2).alloc (Nat.le_refl _) (.cells #[.bool x.1.dir, .slice x.2.1 x.1.b.length x.2.2] 60))
      unfold elV
      clear hx hB2 hel2 P1 HF
      go_upto_region 4 with (fail)
      generalize w2.alloc (.cells #[.bool x.1.dir, .slice x.2.1 x.1.b.length x.2.2] 60) = W at hF2 hN hel ⊢
      generalize w2.heap.size = N at hN ⊢
      have n0 : W.cell? ⟨N, 0, none⟩ = some (.bool x.1.dir) := cell_of_row _ _ 0 _ _ _ hN
      have n1 : W.cell? ⟨N, 1, none⟩ = some (.slice x.2.1 x.1.b.length x.2.2) := cell_of_row _ _ 1 _ _ _ hN
      clear t9 t8 hD
      obtain ⟨⟨k0, k1, k2, k3, k4, k5⟩, ⟨r0, r1, r2, r3, r4⟩, ⟨q0, q1, q2, q3, q4⟩, c2⟩ := hF2.facts
      have HF2 := Lib.hid hF2
      clear hF2
      rw [HO.out] at k3
      rw [← HD.out] at k5
      have HE := Lib.hid hel
      have HN := Lib.hid hN
      clear hN hel
      by_cases h0 : rc = 0
      · have t0 : (rc != 0) = false := by rw [h0]; rfl
        rw [if_pos h0, ← HX.out] at HV
        have hbl := HFi.out x.1 h0 HX.out
        obtain ⟨L, hL⟩ : ∃ L, L = x.1.b.length := ⟨_, rfl⟩
        rw [← hL] at HV hbl n1
        by_cases h2 : L < o
        · have t2 : decide (L < o) = true := by simpa using h2
          have hl : V = (ths es, wrongV 20) := by rw [HV.out, if_pos (by omega)]
          have HL := Lib.hid hl
          clear h0 hl h2 hL
          have P9 := Lib.hid (wrong_any 20 W)
          go_wp2_with fail
          refine (P9.out).mono ?_
          rintro e w9 ⟨rfl, hB9⟩
          have hF9 := HF2.out.below hB9
          clear k0 k1 k2 k3 k4 k5 r0 r1 r2 r3 r4 q0 q1 q2 q3 q4 c2 hB9 n0 n1
          obtain ⟨⟨k0, k1, k2, k3, k4, k5⟩, ⟨r0, r1, r2, r3, r4⟩, ⟨q0, q1, q2, q3, q4⟩, c2⟩ := hF9.facts
          have HF9 := Lib.hid hF9
          clear hF9
          go_wp2_with fail
          refine bodyPost_ret (ret_ans rfl (by rfl) (set5B _ _ _ _ _ HF9.out.rb)) rfl ?_
          rw [HL.out]
          exact HF9.out.no 20
        · have t2 : decide (L < o) = false := by simpa using h2
          have ho1 : o ≤ L := by omega
          rw [if_neg (by omega)] at HV
          by_cases h3 : 512 < o + D
          · have t3 : decide (512 < o + D) = true := by simpa using h3
            have hl : V = (ths es, wrongV 17) := by rw [HV.out, if_pos (by omega)]
            have HL := Lib.hid hl
            have t4 : decide ((512 : Int) < (o : Int) + (D : Int)) = true := by simp; omega
            clear h0 hl h2 hL h3
            have P9 := Lib.hid (wrong_any 17 W)
            go_wp2_with fail
            refine (P9.out).mono ?_
            rintro e w9 ⟨rfl, hB9⟩
            have hF9 := HF2.out.below hB9
            clear k0 k1 k2 k3 k4 k5 r0 r1 r2 r3 r4 q0 q1 q2 q3 q4 c2 hB9 n0 n1
            obtain ⟨⟨k0, k1, k2, k3, k4, k5⟩, ⟨r0, r1, r2, r3, r4⟩, ⟨q0, q1, q2, q3, q4⟩, c2⟩ := hF9.facts
            have HF9 := Lib.hid hF9
            clear hF9
            go_wp2_with fail
            refine bodyPost_ret (ret_ans rfl (by rfl) (set5B _ _ _ _ _ HF9.out.rb)) rfl ?_
            rw [HL.out]
            exact HF9.out.no 17
          · have t3 : decide (512 < o + D) = false := by simpa using h3
            have t4 : decide ((512 : Int) < (o : Int) + (D : Int)) = false := by simp; omega
            obtain ⟨hh, hhh⟩ : ∃ hh, hh = min (o + D) L := ⟨_, rfl⟩
            have hmin : min ((o : Int) + (D : Int)) (L : Int) = (hh : Int) := by omega
            have hw64 : IntKind.i64.wrap ((o : Int) + (D : Int)) = (o : Int) + (D : Int) := IntWalk.i64_in _ (by omega)
            have hs1 : ∀ U, (Instr.slice 23 (.slice x.2.1 L x.2.2) none (some (.int .i64 (o : Int))) none).run Tryz.prog U = .ok (.slice x.2.1 o x.2.2) U := run_cut0 (by have := HE.out.2; omega)
            have hs2 : ∀ U, (Instr.slice 23 (.slice x.2.1 L x.2.2) (some (.int .i64 (hh : Int))) none none).run Tryz.prog U = .ok (.slice (cutA x.2.1 x.2.2 hh) (L - hh) (x.2.2 - hh)) U := run_cut1 (by omega)
            obtain ⟨nb, hnb⟩ : ∃ nb, nb = writeV x.1.b o c.data := ⟨_, rfl⟩
            have hl : V = (putT c.path ⟨false, nb⟩ (ths es), {}) := by rw [HV.out, if_neg (by omega), hnb]; rfl
            have hcat : [x.1.b.take o, c.data, x.1.b.drop hh].flatten = nb := by
              rw [hnb]
              unfold writeV
              have : x.1.b.drop hh = x.1.b.drop (o + c.data.length) := by
                rw [hhh, ← HD.out]
                by_cases hq : o + D ≤ L
                · rw [Nat.min_eq_left hq]
                · rw [List.drop_eq_nil_of_le (by omega), List.drop_eq_nil_of_le (by omega)]
              simp [this]
            have hnl : nb.length ≤ 640 := by rw [hnb, write_len (by omega), ← hL, ← HD.out]; omega
            obtain ⟨Ln, hLn⟩ : ∃ Ln, Ln = nb.length := ⟨_, rfl⟩
            have p4 := cat3_any x.2.1 (x.1.b.take o) x.2.2 A c.data cA (cutA x.2.1 x.2.2 hh) (x.1.b.drop hh) (x.2.2 - hh) W (bytes_take HE.out.1 o) HF2.out.dat (bytes_cut HE.out.1 HE.out.2.1) nb hcat (by omega)
            rw [← HD.out, ← hLn, (by rw [List.length_take]; omega : (x.1.b.take o).length = o), (by rw [List.length_drop, ← hL] : (x.1.b.drop hh).length = L - hh)] at p4
            have P4 := Lib.hid p4
            have hS : ∀ es' U, MF w a I J M es' c A cA U → U.heap[N]? = some (.cells #[.bool x.1.dir, .slice x.2.1 x.1.b.length x.2.2] 60 (0, 0)) → U.cell? ⟨a, 2, none⟩ = some (.map (some M)) ∧ U.cell? ⟨w.heap.size, 1, none⟩ = some (.string (bs c.path)) ∧ U.cell? ⟨w.heap.size, 3, none⟩ = some (.int .i64 (o : Int)) ∧ U.cell? ⟨w.heap.size, 5, none⟩ = some (.slice A D cA) ∧ U.cell? ⟨N, 1, none⟩ = some (.slice x.2.1 L x.2.2) := fun es' U hU hNU => by
              have q := hU.facts
              refine ⟨q.2.2.2, q.1.2.1, by rw [← HO.out]; exact q.1.2.2.2.1, by rw [HD.out]; exact q.1.2.2.2.2.2, ?_⟩
              rw [hL]
              exact cell_of_row _ _ 1 _ _ _ hNU
            have HRun : Hid (∀ U B cB, U.ownsRow (W.alloc (.cells #[.slice x.2.1 o x.2.2, .slice A D cA, .slice (cutA x.2.1 x.2.2 hh) (L - hh) (x.2.2 - hh)] 23)).drew.heap.size 5 1 (.slice B Ln cB) Ln (nb.map by8) → Below (W.alloc (.cells #[.slice x.2.1 o x.2.2, .slice A D cA, .slice (cutA x.2.1 x.2.2 hh) (L - hh) (x.2.2 - hh)] 23)).drew.heap.size (W.alloc (.cells #[.slice x.2.1 o x.2.2, .slice A D cA, .slice (cutA x.2.1 x.2.2 hh) (L - hh) (x.2.2 - hh)] 23)).drew U → ∃ w6, (Instr.mapUpdate 61 (.map (some M)) (.string (bs c.path)) (.agg #[.bool false, .slice B Ln cB])).run Tryz.prog U = .ok () w6 ∧ (U.cell? ⟨a, 2, none⟩ = some (.map (some M)) ∧ U.cell? ⟨w.heap.size, 1, none⟩ = some (.string (bs c.path)) ∧ U.cell? ⟨w.heap.size, 3, none⟩ = some (.int .i64 (o : Int)) ∧ U.cell? ⟨w.heap.size, 5, none⟩ = some (.slice A D cA) ∧ U.cell? ⟨N, 1, none⟩ = some (.slice x.2.1 L x.2.2)) ∧ (w6.cell? ⟨a, 2, none⟩ = some (.map (some M)) ∧ w6.cell? ⟨w.heap.size, 1, none⟩ = some (.string (bs c.path)) ∧ w6.cell? ⟨w.heap.size, 3, none⟩ = some (.int .i64 (o : Int)) ∧ w6.cell? ⟨w.heap.size, 5, none⟩ = some (.slice A D cA) ∧ w6.cell? ⟨N, 1, none⟩ = some (.slice x.2.1 L x.2.2)) ∧ Hid (MF w a I J M (putT c.path (⟨false, nb⟩, B, cB) es) c A cA w6)) := fun U B cB ho hB => by
              have hb : Below W.heap.size W U := ((Below.refl _ W).alloc (Nat.le_refl _) (.cells #[.slice x.2.1 o x.2.2, .slice A D cA, .slice (cutA x.2.1 x.2.2 hh) (L - hh) (x.2.2 - hh)] 23)).trans ((drew_below hB).mono (World.size_alloc_le _ _))
              have hFU := HF2.out.below hb
              have hNU := heap_below HN.out hb
              obtain ⟨B', cB', e1, e2, e3⟩ := own_full ho
              injection e1 with e11 e12 e13
              subst e11 e13
              obtain ⟨w6, hr, hT, ht⟩ := hFU.tr.tm.store Tryz.underlying9 Tryz.underlying61 (by have := HN5.out; unfold maxLen; omega) (p := c.path) (by have := HP.out; unfold maxLen; omega) (x := (⟨false, nb⟩, B, cB)) ⟨Sees.of_own ho, by show nb.length ≤ cB; omega, e3⟩
              have hF6 := hFU.turned hT ht
              have hN6 := heap_touch hNU (turned_tch ht) (box_ne' hNU ht)
              refine ⟨w6, ?_, hS _ U hFU hNU, hS _ w6 hF6 hN6, hF6⟩
              rw [hLn]
              exact hr
            have HL := Lib.hid hl
            have hA5 : ∀ o5 : Obj, (W.alloc o5).cell? ⟨a, 2, none⟩ = some (.map (some M)) ∧ (W.alloc o5).cell? ⟨w.heap.size, 1, none⟩ = some (.string (bs c.path)) ∧ (W.alloc o5).cell? ⟨w.heap.size, 3, none⟩ = some (.int .i64 (o : Int)) ∧ (W.alloc o5).cell? ⟨w.heap.size, 5, none⟩ = some (.slice A D cA) ∧ (W.alloc o5).cell? ⟨N, 1, none⟩ = some (.slice x.2.1 L x.2.2) := fun o5 => hS _ _ (HF2.out.below ((Below.refl _ W).alloc (Nat.le_refl _) o5)) (heap_alloc HN.out o5)
            have HA5 := Lib.hid hA5
            have HW5 := Lib.hid (And.intro c2 (And.intro k1 (And.intro k3 (And.intro k5 n1))))
            clear h0 hl h2 h3 hL hhh hnb hcat hLn p4 hS hA5
            go_wp2_with fail
            go_region_held3 (fun U => U.cell? ⟨a, 2, none⟩ = some (.map (some M)) ∧ U.cell? ⟨w.heap.size, 1, none⟩ = some (.string (bs c.path)) ∧ U.cell? ⟨w.heap.size, 3, none⟩ = some (.int .i64 (o : Int)) ∧ U.cell? ⟨w.heap.size, 5, none⟩ = some (.slice A D cA) ∧ U.cell? ⟨N, 1, none⟩ = some (.slice x.2.1 L x.2.2))
              (first | exact hS6 | exact hS5 | exact HW5.out | exact HA5.out _)
              (first | (go_at_call 77; refine (P4.out).mono ?_; rintro e w5 ⟨B, cB, rfl, ho5, hB5⟩; obtain ⟨w6, hrun, hS5, hS6, HF6⟩ := HRun.out w5 B cB ho5 hB5; clear ho5 hB5))
            all_goals
              rename_i FS
              clear FS k0 k1 k2 k3 k4 k5 r0 r1 r2 r3 r4 q0 q1 q2 q3 q4 c2 n0 n1 hs1 hs2 hrun hS5 hS6 hmin hw64
              obtain ⟨⟨k0, k1, k2, k3, k4, k5⟩, ⟨r0, r1, r2, r3, r4⟩, ⟨q0, q1, q2, q3, q4⟩, c2⟩ := (HF6.out).facts
              go_wp2_with fail
              refine bodyPost_ret (ret_ans rfl (by rfl) (set5B _ _ _ _ _ HF6.out.rb)) rfl ?_
              rw [HL.out]
              exact HF6.out.fin {} (.inl rfl) (.inl rfl) (ths_put _ _ _)
      · have t0 : (rc != 0) = true := by simpa using h0
        have hl : V = (ths es, wrongV rc) := by rw [HV.out, if_neg h0]
        have HL := Lib.hid hl
        clear h0 hl
        have P9 := Lib.hid (wrong_any rc W)
        go_wp2_with fail
        refine (P9.out).mono ?_
        rintro e w9 ⟨rfl, hB9⟩
        have hF9 := HF2.out.below hB9
        clear k0 k1 k2 k3 k4 k5 r0 r1 r2 r3 r4 q0 q1 q2 q3 q4 c2 hB9 n0 n1
        obtain ⟨⟨k0, k1, k2, k3, k4, k5⟩, ⟨r0, r1, r2, r3, r4⟩, ⟨q0, q1, q2, q3, q4⟩, c2⟩ := hF9.facts
        have HF9 := Lib.hid hF9
        clear hF9
        go_wp2_with fail
        refine bodyPost_ret (ret_ans rfl (by rfl) (set5B _ _ _ _ _ HF9.out.rb)) rfl ?_
        rw [HL.out]
        exact HF9.out.no rc
end Go.Proofs.YtabecceojbeomaaGreatDoor
end
