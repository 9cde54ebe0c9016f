/- Take's contract, where the part's bytes are known to last. Condition: at most 100 parts, at most 200000 bytes. -/
import Derived.Test.YtgjhcmjkdjnjfaaMoveTake
namespace Go.Proofs.Ytgjhcmjkdjnjfaa
open Go.RowKit Go.Cat Go.Cat.Move

/-- What the append of Take needs, and what it leaves. -/
theorem take_append2 {base g : Nat} {R : Value} {y : InV} {A A1 : Option Addr} {b : List UInt8} {c1 : Nat} {w wd : World} (hx : InW base g (.slice A1 y.b.length c1) y wd) (hr : ∀ k, (Value.slice A1 y.b.length c1).ownBlock = some k → R.ownBlock = some k) (ht : Tch (fun k => k = g) w wd) (hbT : ∀ W', Tch (MineI g R) w W' → Bytes W' A b) (hsz : w.heap.size ≤ wd.heap.size) (hbase : base ≤ w.heap.size) (_ : b.length ≤ 200000) (_ : y.b.length ≤ 200000) (parts : Int) :
    ((wd.setCell ⟨g, 1, none⟩ (.int .i64 parts)).setCell ⟨g, 2, none⟩ (.int .i64 ((y.next : Int) + 1))).ownsRow base 5 1 (.slice A1 y.b.length c1) y.b.length (y.b.map by8) ∧
    Bytes ((wd.setCell ⟨g, 1, none⟩ (.int .i64 parts)).setCell ⟨g, 2, none⟩ (.int .i64 ((y.next : Int) + 1))) A b ∧
    base ≤ ((wd.setCell ⟨g, 1, none⟩ (.int .i64 parts)).setCell ⟨g, 2, none⟩ (.int .i64 ((y.next : Int) + 1))).heap.size ∧
    ∀ v2 w2, w2.ownsRow base 5 1 v2 (y.b.length + b.length) (y.b.map by8 ++ b.map by8) → ((wd.setCell ⟨g, 1, none⟩ (.int .i64 parts)).setCell ⟨g, 2, none⟩ (.int .i64 ((y.next : Int) + 1))).grownBy w2 (Value.slice A1 y.b.length c1).ownBlock →
      (v2.ownBlock = (Value.slice A1 y.b.length c1).ownBlock ∨ v2.ownBlock = some ((wd.setCell ⟨g, 1, none⟩ (.int .i64 parts)).setCell ⟨g, 2, none⟩ (.int .i64 ((y.next : Int) + 1))).heap.size) →
      w2.cell? ⟨g, 3, none⟩ = some (.slice A1 y.b.length c1) ∧ w2.cell? ⟨g, 2, none⟩ = some (.int .i64 ((y.next : Int) + 1)) ∧ w2.frozen? ⟨g, 3, none⟩ = false ∧
        (InW base g v2 (with1 y parts b) (w2.setCell ⟨g, 3, none⟩ v2) ∧ (∀ k, v2.ownBlock = some k → R.ownBlock = some k ∨ w.heap.size ≤ k) ∧ Tch (MineI g R) w (w2.setCell ⟨g, 3, none⟩ v2)) := by
  have hg := hx.lt
  have hRg := hx.ne (by decide)
  have hT1 : Tch (fun k => k = g) wd ((wd.setCell ⟨g, 1, none⟩ (.int .i64 parts)).setCell ⟨g, 2, none⟩ (.int .i64 ((y.next : Int) + 1))) := (Tch.set _ _ _ _).trans (Tch.set _ _ _ _)
  have hcell := set_block (i := 2) (.int .i64 ((y.next : Int) + 1)) (set_block (i := 1) (.int .i64 parts) hx.cell)
  refine ⟨own_touch hx.row hT1 fun k hk e => hRg (by rw [hk, e]), hbT _ ((ht.trans hT1).mono fun k _ h => .inl h), Nat.le_trans hbase (Nat.le_trans hsz hT1.size), fun v2 w2 hown hgr hnb => ?_⟩
  have hc2 : w2.heap[g]? = some (.cells #[.int .u64 y.at_, .int .i64 parts, .int .i64 ((y.next : Int) + 1), .slice A1 y.b.length c1] 61 (0, 0)) :=
    (hgr.block g (by simpa [World.setCell] using hg) (fun e => hRg e.symm)).trans hcell
  have hv2g : v2.ownBlock ≠ some g := by
    intro e
    rcases hown.2 with ⟨rfl, _⟩ | ⟨g', cap, cur, rfl, _, hh, _⟩
    · cases e
    · simp only [Value.ownBlock, Option.some.injEq] at e
      subst e
      rw [hc2] at hh
      injection hh with hh
      injection hh with _ hh
      exact absurd hh (by decide)
  refine ⟨cell_of_row w2 g 3 _ _ _ hc2, cell_of_row w2 g 2 _ _ _ hc2, frozen_of_row w2 g 3 _ _ hc2, ⟨hx.low, ?_, ?_⟩, ?_, ?_⟩
  · have := set_block (i := 3) v2 hc2
    simpa [with1] using this
  · have := ownsRow_setCell_other hown (a := ⟨g, 3, none⟩) hv2g v2
    simpa [with1] using this
  · intro k hk
    rcases hnb with h | h
    · exact .inl (hr k (by rw [← h]; exact hk))
    · rw [h] at hk
      injection hk with hk
      right
      simp [World.setCell] at hk
      omega
  · have a1 : Tch (MineI g R) w wd := ht.mono fun k _ h => .inl h
    have a2 : Tch (MineI g R) wd w2 := (hT1.mono fun k _ h => .inl h).trans ((Tch.grown hgr).mono fun k _ h => .inr (hr k h))
    exact (a1.trans a2).trans ((Tch.set _ _ _ _).mono fun k _ h => .inl h)

open Classical in
set_option maxRecDepth 100000 in
set_option maxHeartbeats 4000000 in
theorem take_any2 (base g : Nat) (R : Value) (x : InV) (at_ part parts : Int) (A : Option Addr) (b : List UInt8) (c : Nat) (w : World) (hx : InW base g R x w) (hbT : ∀ W', Tch (MineI g R) w W' → Bytes W' A b) (hbl : b.length ≤ 200000) (hn : x.next ≤ 100) (hxl : x.b.length ≤ 200000) (hbase : base ≤ w.heap.size) :
    Calls Try.prog 16 #[.pointer (some ⟨g, 0, none⟩), .int .u64 at_, .int .i64 part, .int .i64 parts, .slice A b.length c] w (ToldTake base g R (takeIn x at_ part parts b).1 (takeIn x at_ part parts b).2.1 (takeIn x at_ part parts b).2.2 w) := by
  by_cases hr : refuses x at_ part parts b
  · rw [show takeIn x at_ part parts b = (x, [], false) from if_pos hr]
    exact take_refused base g R x at_ part parts A b c w hx hbl hr
  have ht : takeIn x at_ part parts b = if part ≠ (first x at_ parts).next then (first x at_ parts, [], false)
      else if ((first x at_ parts).next : Int) + 1 < parts then (with1 (first x at_ parts) parts b, [], false) else (again at_, (first x at_ parts).b ++ b, true) := if_neg hr
  obtain ⟨y, hy⟩ : ∃ y, y = first x at_ parts := ⟨_, rfl⟩
  rw [← hy] at ht
  obtain ⟨c0, c1, c2, c3, f⟩ := InW.cells hx
  unfold refuses at hr
  have d1 : decide (parts < 1) = false := by simp; omega
  have d2 : decide (part < 0) = false := by simp; omega
  have d3 : decide (parts ≤ part) = false := by simp; omega
  have d4 : decide ((1024 : Int) < (b.length : Int)) = false := by simp; omega
  have d5 : decide (at_ < x.at_) = false := by simp; omega
  have hb1 : b.length ≤ 1024 := by omega
  have hp0 : 0 ≤ part := by omega
  have hyn : y.next ≤ 100 := by rw [hy]; unfold first; split; exact Nat.zero_le _; exact hn
  have hyl : y.b.length ≤ 200000 := by rw [hy]; unfold first; split; exact Nat.zero_le _; exact hxl
  have hya : y.at_ = at_ ∨ y.at_ = x.at_ := by rw [hy]; unfold first; split; exact .inl rfl; exact .inr rfl
  have HX := Lib.hid hx
  have HY := Lib.hid hy
  have HT := Lib.hid ht
  have HB := Lib.hid hbT
  have HR := hr
  have hgl := hx.lt
  clear f hx hy ht hbT hr
  obtain ⟨tb, htb⟩ : ∃ tb, tb = decide (turned x at_ parts) := ⟨_, rfl⟩
  have HTb := Lib.hid htb
  clear htb
  go_enter Try.func16, Try.ntmps16
  go_upto_region 3 with (fail)
  go_cut [61] (fun s wc => s = .bool tb ∧ wc = w)
  case first =>
    by_cases h1 : x.at_ < at_
    · have e1 : decide (x.at_ < at_) = true := by simpa using h1
      have e2 : tb = true := by rw [HTb.out, decide_eq_true_iff]; exact .inl h1
      have E2 := Lib.hid e2
      clear h1 e2
      go_wp2_with fail
      go_meet
      exact ⟨by rw [E2.out], rfl⟩
    · have e1 : decide (x.at_ < at_) = false := by simpa using h1
      by_cases h2 : 0 < x.next
      · have e2 : decide (0 < x.next) = true := by simpa using h2
        by_cases h3 : parts = x.parts
        · have e3 : (parts != x.parts) = false := by simpa using h3
          have e4 : tb = false := by rw [HTb.out, decide_eq_false_iff_not]; unfold turned; omega
          have E4 := Lib.hid e4
          clear h1 h2 h3 e4
          go_wp2_with fail
          go_meet
          exact ⟨by rw [E4.out], rfl⟩
        · have e3 : (parts != x.parts) = true := by simpa using h3
          have e4 : tb = true := by rw [HTb.out, decide_eq_true_iff]; exact .inr ⟨h2, h3⟩
          have E4 := Lib.hid e4
          clear h1 h2 h3 e4
          go_wp2_with fail
          go_meet
          exact ⟨by rw [E4.out], rfl⟩
      · have e2 : decide (0 < x.next) = false := by simpa using h2
        have e4 : tb = false := by rw [HTb.out, decide_eq_false_iff_not]; unfold turned; omega
        have E4 := Lib.hid e4
        clear h1 h2 e4
        go_wp2_with fail
        go_meet
        exact ⟨by rw [E4.out], rfl⟩
  case rest =>
    obtain ⟨rfl, rfl⟩ := hcut
    go_upto_if 61 with (fail)
    go_cut [11] (fun s wd => s = .bool false ∧ ∃ R1, InW base g R1 y wd ∧ (∀ k, R1.ownBlock = some k → R.ownBlock = some k) ∧ Tch (fun k => k = g) wc wd)
    case first =>
      by_cases h1 : turned x at_ parts
      · obtain rfl : tb = true := by rw [HTb.out, decide_eq_true_iff]; exact h1
        have hy : y = again at_ := by rw [HY.out]; exact if_pos h1
        have HY2 := Lib.hid hy
        clear h1 hy
        go_wp2_with fail
        refine (again_any base g R x at_ _ HX.out).mono ?_
        rintro e w1 ⟨⟨v, rfl⟩, hx1, ht1⟩
        go_wp2_with fail
        go_meet
        exact ⟨rfl, _, by rw [HY2.out]; exact hx1, (fun k h => by cases h), ht1⟩
      · obtain rfl : tb = false := by rw [HTb.out, decide_eq_false_iff_not]; exact h1
        have hy : y = x := by rw [HY.out]; exact if_neg h1
        have HY2 := Lib.hid hy
        clear h1 hy
        go_wp2_with fail
        go_meet
        exact ⟨rfl, R, by rw [HY2.out]; exact HX.out, fun k h => h, Tch.refl _ _⟩
    case rest =>
      obtain ⟨rfl, R1, hx1, hr1, ht1⟩ := hcut
      rename_i wd _
      obtain ⟨q0, q1, q2, q3, fq⟩ := InW.cells hx1
      have hR1g := hx1.ne (by decide)
      have hsz1 := ht1.size
      have f1 := fq 1
      have f2 := fq 2
      have f3 := fq 3
      have HX1 := Lib.hid hx1
      have HR1 := Lib.hid hr1
      have HT1 := Lib.hid ht1
      clear hx1 hr1 ht1 fq c0 c1 c2 c3
      by_cases hpn : part = (y.next : Int)
      · have e1 : (part != (y.next : Int)) = false := by simpa using hpn
        have HPn := Lib.hid hpn
        obtain ⟨A1, c1, rfl, hm1, hm2⟩ := own_full HX1.out.row
        clear hpn
        have hap := take_append2 (A := A) (b := b) HX1.out HR1.out HT1.out HB.out hsz1 hbase hbl hyl parts
        have HAp := Lib.hid hap
        clear hap
        go_wp2_with (at_builtin; refine wpList_app elem_u8 rfl (.tmp 86) (.tmp 87) rfl base (.slice A1 y.b.length c1) y.b.length (y.b.map by8) rfl HAp.out.1 A b.length c (b.map by8) rfl HAp.out.2.1 (by simp) (one_by8 _) (by omega) HAp.out.2.2.1 ?_)
        intro v2 w2 hown2 hg2 hnb2
        obtain ⟨k0, k2, kf, hfin⟩ := HAp.out.2.2.2 v2 w2 hown2 hg2 (hnb2.imp id fun h => by simpa [World.setCell] using h)
        obtain ⟨A2, c2, rfl, _, _⟩ := own_full hown2
        have HFin := Lib.hid hfin
        clear hfin hown2 hg2 hnb2
        by_cases hlast : (y.next : Int) + 1 < parts
        · have e2 : decide ((y.next : Int) + 1 < parts) = true := by simpa using hlast
          have ht : takeIn x at_ part parts b = (with1 y parts b, [], false) := by rw [HT.out, if_neg (by have := HPn.out; omega), if_pos hlast]
          have HTk := Lib.hid ht
          clear ht hlast
          go_wp2_with fail
          go_ret2
          rw [HTk.out]
          exact ⟨_, none, 0, rfl, HFin.out.1, World.ownsRow_nil _ _ _ _, HFin.out.2.1, HFin.out.2.2⟩
        · have e2 : decide ((y.next : Int) + 1 < parts) = false := by simpa using hlast
          have ht : takeIn x at_ part parts b = (again at_, y.b ++ b, true) := by rw [HT.out, if_neg (by have := HPn.out; omega), if_neg hlast]
          have HTk := Lib.hid ht
          clear ht hlast
          go_wp2_with fail
          refine (again_any base g _ _ at_ _ HFin.out.1).mono ?_
          rintro e w3 ⟨⟨v3, rfl⟩, hx3, ht3⟩
          have hrow := own_touch HFin.out.1.row ht3 fun k hk e => HFin.out.1.ne (by decide) (by rw [hk, e])
          have hl : (with1 y parts b).b.length = y.b.length + b.length := by simp [with1]
          rw [hl] at hrow
          have HRow := Lib.hid hrow
          have HX3 := Lib.hid hx3
          have HT3 := Lib.hid ht3
          clear hrow hx3 ht3 hl
          go_wp2_with fail
          go_ret2
          rw [HTk.out]
          refine ⟨_, A2, c2, ret_slice2 List.length_append.symm, HX3.out, by rw [List.length_append]; exact HRow.out, fun k h => (by cases h), HFin.out.2.2.trans (HT3.out.mono fun k _ h => .inl h)⟩
      · have e1 : (part != (y.next : Int)) = true := by simpa using hpn
        have ht : takeIn x at_ part parts b = (y, [], false) := by rw [HT.out, if_pos hpn]
        have HTk := Lib.hid ht
        clear ht hpn
        go_wp2_with fail
        go_ret2
        rw [HTk.out]
        exact ⟨R1, none, 0, rfl, HX1.out, World.ownsRow_nil _ _ _ _, fun k h => .inl (HR1.out k h), HT1.out.mono fun k _ h => .inl h⟩
end Go.Proofs.Ytgjhcmjkdjnjfaa
