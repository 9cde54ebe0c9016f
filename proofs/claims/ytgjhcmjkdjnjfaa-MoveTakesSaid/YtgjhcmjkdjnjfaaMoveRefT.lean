/- The contract of the reference's Take. Condition: at most 80 parts of at most 1024 bytes. -/
import Derived.Test.YtgjhcmjkdjnjfaaMoveTake
import Derived.Test.YtgjhcmjkdjnjfaaMoveAll
import Derived.Deep.RegionHeld3
namespace Go.Cat.Move
open Go.RowKit Go.Cat
/-- The reference's picture: its row is of the law's own, its parts came in at w0. -/
structure RS (y : InV) (rat rparts : Int) (A : Option Addr) (c : Nat) (ps : List Pc) (w0 w : World) : Prop where
  at_ : y.at_ = rat
  next : y.next = ps.length
  b : y.b = allOf ps
  parts : 0 < ps.length → y.parts = rparts
  row : w.ownsRow w0.heap.size 23 1 (.slice A ps.length c) ps.length (ps.map Pc.cell)
  pcs : PcIn w0 ps
theorem RS.touch {y : InV} {rat rparts : Int} {A : Option Addr} {c : Nat} {ps : List Pc} {w0 w w' : World} {K : Nat → Prop} (h : RS y rat rparts A c ps w0 w) (ht : Tch K w w') (hK : ∀ k, (Value.slice A ps.length c).ownBlock = some k → ¬ K k) : RS y rat rparts A c ps w0 w' := ⟨h.at_, h.next, h.b, h.parts, own_touch h.row ht hK, h.pcs⟩
theorem RS.below {y : InV} {rat rparts : Int} {A : Option Addr} {c : Nat} {ps : List Pc} {w0 w w' : World} (h : RS y rat rparts A c ps w0 w) (hb : Below w.heap.size w w') : RS y rat rparts A c ps w0 w' := h.touch (K := fun _ => False) (Tch.of_below hb) fun _ _ h => h
theorem RS.again (a : Int) (w0 w : World) : RS (again a) a 0 none 0 [] w0 w := ⟨rfl, rfl, rfl, fun h => absurd h (by simp), World.ownsRow_nil _ _ _ _, fun p hp => absurd hp (by simp)⟩
theorem RS.sees {y : InV} {rat rparts : Int} {A : Option Addr} {c : Nat} {ps : List Pc} {w0 w : World} (h : RS y rat rparts A c ps w0 w) : Sees w A (ps.map Pc.cell) := ownN_sees h.row
end Go.Cat.Move
namespace Go.Proofs.Ytgjhcmjkdjnjfaa
open Go.RowKit Go.Cat Go.Cat.Move

abbrev rin (a p : Int) (A : Option Addr) (n c : Nat) : Value := .agg #[.int .u64 a, .int .i64 p, .slice A n c]

def ToldRT (y : InV) (out : List UInt8) (ok : Bool) (w0 w : World) (e : Ending) (w' : World) : Prop :=
  ∃ rat rparts A c ps Ao co, e = .returned (.tuple #[rin rat rparts A ps.length c, .slice Ao out.length co, .bool ok]) ∧ RS y rat rparts A c ps w0 w' ∧ w'.ownsRow w0.heap.size 5 1 (.slice Ao out.length co) out.length (out.map by8) ∧ Below w.heap.size w w'

theorem below_set3 {B g : Nat} {w w' : World} (h : Below B w w') (hg : B ≤ g) (x y z : Value) : Below B w (((w'.setCell ⟨g, 0, none⟩ x).setCell ⟨g, 1, none⟩ y).setCell ⟨g, 2, none⟩ z) := ((h.setCell hg _).setCell hg _).setCell hg _
theorem heap2 (w : World) (o1 o2 : Obj) : ((w.alloc o1).alloc o2).heap[w.heap.size + 1]? = some o2 := by
  have := heap_alloc_new (w.alloc o1) o2
  rwa [show (w.alloc o1).heap.size = w.heap.size + 1 by simp] at this
theorem heap21 (w : World) (o1 o2 : Obj) : ((w.alloc o1).alloc o2).heap[w.heap.size]? = some o1 := by
  rw [heap_alloc_old (w.alloc o1) o2 _ (by simp), heap_alloc_new]
theorem ret_rin {tmps : Array Value} {w : World} {g : Nat} {a b c : Value} {fr : Nat × Nat} (hp : tmps.getD 10 undef = .pointer (some ⟨g, 0, none⟩)) (hg : w.heap[g]? = some (.cells #[a, b, c] 42 fr)) :
    (results Try.f17 tmps).run Try.prog w = .ok (.tuple #[.agg #[a, b, c], tmps.getD 11 undef, tmps.getD 12 undef]) w := by
  have hp' : tmps[10]?.getD undef = .pointer (some ⟨g, 0, none⟩) := by simpa using hp
  simp [results, Try.results17, hp', asAddr, run_loadVar_row w g _ _ _ _ _ hg Try.underlying42 rfl (by kernel_rfl)]

/-- The two boxes, in a later world. -/
structure T8 (H : Nat) (w : World) (a b c : Value) (X : World) : Prop where
  box : X.heap[H]? = some (.cells #[a, b, c] 42 (0, 0))
  out : X.heap[H + 1]? = some (.cells #[.int .u64 0, .int .i64 0, .slice none 0 0] 42 (0, 0))
  bel : Below H w X
section
variable {H : Nat} {w X X' : World} {a b c : Value}
theorem T8.size (h : T8 H w a b c X) : H + 2 ≤ X.heap.size := (Array.getElem?_eq_some_iff.1 h.out).1
theorem T8.next (h : T8 H w a b c X) (hb : Below (H + 2) X X') : T8 H w a b c X' := ⟨(hb.block H (by omega)).trans h.box, (hb.block (H + 1) (by omega)).trans h.out, h.bel.trans (hb.mono (by omega))⟩
theorem T8.drew (h : T8 H w a b c X) : T8 H w a b c X.drew := h.next ((Below.refl _ _).drew)
theorem T8.alloc (h : T8 H w a b c X) (o : Obj) : T8 H w a b c (X.alloc o) := h.next ((Below.refl _ _).alloc h.size o)
theorem T8.grow (h : T8 H w a b c X) (hg : X.grownBy X' none) : T8 H w a b c X' := h.next ((Below.refl _ _).grown hg h.size (fun k hk => by cases hk))
theorem T8.own {e : TypeId} {size n : Nat} {x : Value} {xs : List Value} (h : T8 H w a b c X) (ho : X.ownsRow (H + 2) e size x n xs) (hg : X.grownBy X' x.ownBlock) : T8 H w a b c X' := h.next ((Below.refl _ _).own ho hg h.size (Nat.le_refl _))
theorem first_own {base size n : Nat} {e : TypeId} {v : Value} {xs : List Value} (h : w.ownsRow base e size v (0 + n) ([] ++ xs)) : w.ownsRow base e size v n xs := by simpa using h
theorem sees_kept {X w1 : World} {e : TypeId} (xs : List Value) (hg : (X.alloc (.cells xs.toArray e)).drew.grownBy w1 none) : Sees w1 (some ⟨X.heap.size, 0, none⟩) xs :=
  (sees_new X xs e).drew.below ((Below.refl _ _).grown hg (Nat.le_refl _) (fun k hk => by cases hk))
theorem sees_kept' {X w1 : World} {e : TypeId} (xs : List Value) (hg : (X.alloc (.cells xs.toArray e)).grownBy w1 none) : Sees w1 (some ⟨X.heap.size, 0, none⟩) xs :=
  (sees_new X xs e).below ((Below.refl _ _).grown hg (Nat.le_refl _) (fun k hk => by cases hk))
end
theorem info_sl : (Try.prog.info? 23).map (fun i => (i.zero, i.size, i.bytes)) = some (some (.slice none 0 0), 1, 24) := by kernel_rfl
theorem elem_sl : Elem Try.prog 40 23 (.slice none 0 0) 1 24 := ⟨Try.underlying40, info_sl, rfl, by decide, by decide⟩

theorem rtake_refused (x : InV) (rat rparts : Int) (A : Option Addr) (ps : List Pc) (c : Nat) (at_ part parts : Int) (Ab : Option Addr) (b : List UInt8) (cb : Nat) (w0 w : World) (hx : RS x rat rparts A c ps w0 w) (hbl : b.length ≤ 200000) (h : refuses x at_ part parts b) :
    Calls Try.prog 17 #[rin rat rparts A ps.length c, .int .u64 at_, .int .i64 part, .int .i64 parts, .slice Ab b.length cb] w (ToldRT x [] false w0 w) := by
  have fin : ∀ w', Below w.heap.size w w' → ToldRT x [] false w0 w (.returned (.tuple #[rin rat rparts A ps.length c, .slice none 0 0, .bool false])) w' := fun w' hb => ⟨_, _, _, _, _, none, 0, rfl, hx.below hb, World.ownsRow_nil _ _ _ _, hb⟩
  have hB := fun o1 o2 => (((Below.refl w.heap.size w).alloc (Nat.le_refl _) o1).alloc (by simp) o2)
  have HF := Lib.hid fin
  have HB := Lib.hid hB
  have hra := hx.at_
  unfold refuses at h
  rw [hra] at h
  clear hx fin hra hB
  by_cases h1 : parts < 1
  · have d1 : decide (parts < 1) = true := by simpa using h1
    clear h h1
    go_enter Try.func17, Try.ntmps17
    go_wp2_with fail
    refine bodyPost_ret (ret_rin (by rfl) (heap2 _ _ _)) rfl ?_
    exact HF.out _ (HB.out _ _)
  have d1 : decide (parts < 1) = false := by simpa using h1
  by_cases h2 : part < 0
  · have d2 : decide (part < 0) = true := by simpa using h2
    clear h h1 h2
    go_enter Try.func17, Try.ntmps17
    go_wp2_with fail
    refine bodyPost_ret (ret_rin (by rfl) (heap2 _ _ _)) rfl ?_
    exact HF.out _ (HB.out _ _)
  have d2 : decide (part < 0) = false := by simpa using h2
  by_cases h3 : parts ≤ part
  · have d3 : decide (parts ≤ part) = true := by simpa using h3
    clear h h1 h2 h3
    go_enter Try.func17, Try.ntmps17
    go_wp2_with fail
    refine bodyPost_ret (ret_rin (by rfl) (heap2 _ _ _)) rfl ?_
    exact HF.out _ (HB.out _ _)
  have d3 : decide (parts ≤ part) = false := by simpa using h3
  by_cases h4 : 1024 < b.length
  · have d4 : decide ((1024 : Int) < (b.length : Int)) = true := by simp; omega
    clear h h1 h2 h3 h4
    go_enter Try.func17, Try.ntmps17
    go_wp2_with fail
    refine bodyPost_ret (ret_rin (by rfl) (heap2 _ _ _)) rfl ?_
    exact HF.out _ (HB.out _ _)
  have d4 : decide ((1024 : Int) < (b.length : Int)) = false := by simp; omega
  have h5 : at_ < rat := by omega
  have d5 : decide (at_ < rat) = true := by simpa using h5
  clear h h1 h2 h3 h4 h5
  go_enter Try.func17, Try.ntmps17
  go_wp2_with fail
  refine bodyPost_ret (ret_rin (by rfl) (heap2 _ _ _)) rfl ?_
  exact HF.out _ (HB.out _ _)

set_option maxRecDepth 100000 in
set_option maxHeartbeats 4000000 in
theorem rtake_any (x : InV) (rat rparts : Int) (A : Option Addr) (ps : List Pc) (c : Nat) (at_ part parts : Int) (Ab : Option Addr) (b : List UInt8) (cb : Nat) (w0 w : World) (hx : RS x rat rparts A c ps w0 w) (hw : Below w0.heap.size w0 w) (hps : ps.length ≤ 80) (hbb : Bytes w0 Ab b) (hbl : b.length ≤ 200000) :
    Calls Try.prog 17 #[rin rat rparts A ps.length c, .int .u64 at_, .int .i64 part, .int .i64 parts, .slice Ab b.length cb] w (ToldRT (takeIn x at_ part parts b).1 (takeIn x at_ part parts b).2.1 (takeIn x at_ part parts b).2.2 w0 w) := by
  by_cases hr : refuses x at_ part parts b
  · rw [show takeIn x at_ part parts b = (x, [], false) from if_pos hr]
    exact rtake_refused x rat rparts A ps c at_ part parts Ab b cb w0 w hx hbl hr
  have ht : takeIn x at_ part parts b = if part ≠ (first x at_ parts).next then (first x at_ parts, [], false)
      else if ((first x at_ parts).next : Int) + 1 < parts then (with1 (first x at_ parts) parts b, [], false) else (again at_, (first x at_ parts).b ++ b, true) := if_neg hr
  obtain ⟨y, hy⟩ : ∃ y, y = first x at_ parts := ⟨_, rfl⟩
  rw [← hy] at ht
  unfold refuses at hr
  obtain rfl : x.at_ = rat := hx.at_
  have d1 : decide (parts < 1) = false := by simp; omega
  have d2 : decide (part < 0) = false := by simp; omega
  have d3 : decide (parts ≤ part) = false := by simp; omega
  have d4 : decide ((1024 : Int) < (b.length : Int)) = false := by simp; omega
  have d5 : decide (at_ < x.at_) = false := by simp; omega
  have hb1 : b.length ≤ 1024 := by omega
  have hp0 : 0 ≤ part := by omega
  have hya : y.at_ = at_ ∨ y.at_ = x.at_ := by rw [hy]; unfold first; split; exact .inl rfl; exact .inr rfl
  obtain ⟨tb, htb⟩ : ∃ tb : Bool, tb = true ↔ turned x at_ parts := by by_cases h : turned x at_ parts; exact ⟨true, by simp [h]⟩; exact ⟨false, by simp [h]⟩
  have hnx := hx.next
  have hpx := hx.parts
  obtain ⟨n, hN⟩ : ∃ n, n = ps.length := ⟨_, rfl⟩
  rw [← hN] at hnx hpx hps ⊢
  have HN := Lib.hid hN
  have HX := Lib.hid hx
  have HY := Lib.hid hy
  have HT := Lib.hid ht
  have HB := Lib.hid hbb
  have HTb := Lib.hid htb
  have HR := hr
  clear hN hx hy ht hbb htb hr
  go_enter Try.func17, Try.ntmps17
  go_upto_region 3 with (fail)
  obtain ⟨W1, hW1⟩ : ∃ W1, W1 = (w.alloc (.cells #[.int .u64 x.at_, .int .i64 rparts, .slice A n c] 42)).alloc (.cells #[.int .u64 0, .int .i64 0, .slice none 0 0] 42) := ⟨_, rfl⟩
  have hbx : W1.heap[w.heap.size]? = some (.cells #[.int .u64 x.at_, .int .i64 rparts, .slice A n c] 42 (0, 0)) := by rw [hW1]; exact heap21 _ _ _
  have hby : W1.heap[w.heap.size + 1]? = some (.cells #[.int .u64 0, .int .i64 0, .slice none 0 0] 42 (0, 0)) := by rw [hW1]; exact heap2 _ _ _
  have hB1 : Below w.heap.size w W1 := by rw [hW1]; exact ((Below.refl w.heap.size w).alloc (Nat.le_refl _) _).alloc (by simp) _
  have hBy := Lib.hid hby
  have hBx := Lib.hid hbx
  rw [← hW1]
  obtain ⟨H, hH⟩ : ∃ H, H = w.heap.size := ⟨_, rfl⟩
  rw [← hH] at hBx hBy hB1 ⊢
  have HH := Lib.hid hH
  have k0 : W1.cell? ⟨H, 0, none⟩ = some (.int .u64 x.at_) := cell_of_row W1 H 0 _ _ _ hBx.out
  have k1 : W1.cell? ⟨H, 1, none⟩ = some (.int .i64 rparts) := cell_of_row W1 H 1 _ _ _ hBx.out
  have k2 : W1.cell? ⟨H, 2, none⟩ = some (.slice A n c) := cell_of_row W1 H 2 _ _ _ hBx.out
  have fz : ∀ i, W1.frozen? ⟨H, i, none⟩ = false := fun i => frozen_of_row W1 H i _ _ hBx.out
  have f0 := fz 0
  have f1 := fz 1
  have f2 := fz 2
  clear hbx hby hH hW1 fz
  go_cut [51] (fun s wc => s = .bool tb ∧ wc = W1)
  case first =>
    by_cases h1 : x.at_ < at_
    · have e1 : decide (x.at_ < at_) = true := by simpa using h1
      have e2 : tb = true := HTb.out.2 (.inl h1)
      have E2 := Lib.hid e2
      clear h1 e2
      go_wp2_with fail
      go_meet
      exact ⟨by rw [E2.out], rfl⟩
    · have e1 : decide (x.at_ < at_) = false := by simpa using h1
      by_cases h2 : 0 < n
      · have e2 : decide (0 < n) = true := by simpa using h2
        have hpr := hpx h2
        by_cases h3 : rparts = parts
        · have e3 : (rparts != parts) = false := by simpa using h3
          have e4 : tb = false := by rw [← Bool.not_eq_true, HTb.out]; unfold turned; omega
          have E4 := Lib.hid e4
          clear h1 h2 h3 e4 hpr
          go_wp2_with fail
          go_meet
          exact ⟨by rw [E4.out], rfl⟩
        · have e3 : (rparts != parts) = true := by simpa using h3
          have e4 : tb = true := HTb.out.2 (.inr ⟨by omega, by omega⟩)
          have E4 := Lib.hid e4
          clear h1 h2 h3 e4 hpr
          go_wp2_with fail
          go_meet
          exact ⟨by rw [E4.out], rfl⟩
      · have e2 : decide (0 < n) = false := by simpa using h2
        have e4 : tb = false := by rw [← Bool.not_eq_true, HTb.out]; unfold turned; omega
        have E4 := Lib.hid e4
        clear h1 h2 e4
        go_wp2_with fail
        go_meet
        exact ⟨by rw [E4.out], rfl⟩
  case rest =>
    obtain ⟨rfl, rfl⟩ := hcut
    go_upto_if 51 with (fail)
    go_cut [11] (fun s wd => s = .slice none 0 0 ∧ ∃ (A1 : Option Addr) (c1 : Nat) (ps1 : List Pc) (rp1 : Int) (n1 : Nat), Hid (RS y y.at_ rp1 A1 c1 ps1 w0 w) ∧ Hid (n1 = ps1.length) ∧ n1 ≤ 80 ∧ Hid (wd.heap[H]? = some (.cells #[.int .u64 y.at_, .int .i64 rp1, .slice A1 n1 c1] 42 (0, 0))) ∧ Hid (wd.heap[H + 1]? = some (.cells #[.int .u64 0, .int .i64 0, .slice none 0 0] 42 (0, 0))) ∧ Hid (Below H w wd))
    case first =>
      by_cases h1 : turned x at_ parts
      · obtain rfl : tb = true := HTb.out.2 h1
        have hy : y = again at_ := by rw [HY.out]; exact if_pos h1
        have HY2 := Lib.hid hy
        clear h1 hy
        go_wp2_with fail
        go_meet
        refine ⟨rfl, none, 0, [], 0, 0, Lib.hid (by rw [HY2.out]; exact RS.again at_ w0 w), Lib.hid rfl, Nat.zero_le _, Lib.hid ?_, Lib.hid ?_, Lib.hid ?_⟩
        · rw [HY2.out]; exact set3_block _ _ _ hBx.out
        · rw [set_other _ (by omega), set_other _ (by omega), set_other _ (by omega)]; exact hBy.out
        · rw [HH.out]; exact below_set3 (by rw [← HH.out]; exact hB1) (Nat.le_refl _) _ _ _
      · obtain rfl : tb = false := by rw [← Bool.not_eq_true, HTb.out]; exact h1
        have hy : y = x := by rw [HY.out]; exact if_neg h1
        have HY2 := Lib.hid hy
        clear h1 hy
        go_wp2_with fail
        go_meet
        exact ⟨rfl, A, c, ps, rparts, n, Lib.hid (by rw [HY2.out]; exact HX.out), HN, hps, Lib.hid (by rw [HY2.out]; exact hBx.out), hBy, Lib.hid hB1⟩
    case rest =>
      obtain ⟨rfl, A1, c1, ps1, rp1, n1, HRS, HN1, hn1, HX1, HY1, HBel⟩ := hcut
      clear k0 k1 k2 f0 f1 f2
      have k0 : wc.cell? ⟨H, 0, none⟩ = some (.int .u64 y.at_) := cell_of_row wc H 0 _ _ _ HX1.out
      have k1 : wc.cell? ⟨H, 1, none⟩ = some (.int .i64 rp1) := cell_of_row wc H 1 _ _ _ HX1.out
      have k2 : wc.cell? ⟨H, 2, none⟩ = some (.slice A1 n1 c1) := cell_of_row wc H 2 _ _ _ HX1.out
      have f0 : wc.frozen? ⟨H, 0, none⟩ = false := frozen_of_row wc H 0 _ _ HX1.out
      have f1 : wc.frozen? ⟨H, 1, none⟩ = false := frozen_of_row wc H 1 _ _ HX1.out
      have f2 : wc.frozen? ⟨H, 2, none⟩ = false := frozen_of_row wc H 2 _ _ HX1.out
      have m0 : wc.cell? ⟨H + 1, 0, none⟩ = some (.int .u64 0) := cell_of_row wc (H + 1) 0 _ _ _ HY1.out
      have m1 : wc.cell? ⟨H + 1, 1, none⟩ = some (.int .i64 0) := cell_of_row wc (H + 1) 1 _ _ _ HY1.out
      have m2 : wc.cell? ⟨H + 1, 2, none⟩ = some (.slice none 0 0) := cell_of_row wc (H + 1) 2 _ _ _ HY1.out
      have g0 : wc.frozen? ⟨H + 1, 0, none⟩ = false := frozen_of_row wc (H + 1) 0 _ _ HY1.out
      have g1 : wc.frozen? ⟨H + 1, 1, none⟩ = false := frozen_of_row wc (H + 1) 1 _ _ HY1.out
      have g2 : wc.frozen? ⟨H + 1, 2, none⟩ = false := frozen_of_row wc (H + 1) 2 _ _ HY1.out
      have hyn : y.next = n1 := by rw [HN1.out]; exact HRS.out.next
      by_cases hpn : part = (n1 : Int)
      · have e1 : (part != (n1 : Int)) = false := by simpa using hpn
        have HPn := Lib.hid hpn
        clear hpn
        go_upto_region 8 with (fail)
        obtain ⟨W8, hW8⟩ : ∃ W8, W8 = wc.setCell ⟨H, 1, none⟩ (.int .i64 parts) := ⟨_, rfl⟩
        have hT8 : T8 H w (.int .u64 y.at_) (.int .i64 parts) (.slice A1 n1 c1) W8 := by
          rw [hW8]
          exact ⟨set_block _ HX1.out, by rw [set_other _ (by omega)]; exact HY1.out, HBel.out.setCell (Nat.le_refl _) _⟩
        have HT8 := Lib.hid hT8
        rw [← hW8]
        have k0 : W8.cell? ⟨H, 0, none⟩ = some (.int .u64 y.at_) := cell_of_row W8 H 0 _ _ _ hT8.box
        have k1 : W8.cell? ⟨H, 1, none⟩ = some (.int .i64 parts) := cell_of_row W8 H 1 _ _ _ hT8.box
        have k2 : W8.cell? ⟨H, 2, none⟩ = some (.slice A1 n1 c1) := cell_of_row W8 H 2 _ _ _ hT8.box
        have f0 : W8.frozen? ⟨H, 0, none⟩ = false := frozen_of_row W8 H 0 _ _ hT8.box
        have f1 : W8.frozen? ⟨H, 1, none⟩ = false := frozen_of_row W8 H 1 _ _ hT8.box
        have f2 : W8.frozen? ⟨H, 2, none⟩ = false := frozen_of_row W8 H 2 _ _ hT8.box
        have HSee : Hid (∀ X, T8 H w (.int .u64 y.at_) (.int .i64 parts) (.slice A1 n1 c1) X → Sees X A1 (ps1.map Pc.cell)) := Lib.hid fun X h => HRS.out.sees.below (by rw [← HH.out]; exact h.bel)
        have HLen : Hid ((ps1.map Pc.cell).length = n1 * 1) := Lib.hid (by rw [HN1.out]; simp)
        clear hW8 hT8 m0 m1 m2 g0 g1 g2 HX1 HY1 HBel hB1
        go_cut [11] (fun s wd => s = .slice none 0 0 ∧ ∃ (A2 : Option Addr) (c2 : Nat), Hid (T8 H w (.int .u64 y.at_) (.int .i64 parts) (.slice A2 (n1 + 1) c2) wd) ∧ Hid (wd.ownsRow (H + 2) 23 1 (.slice A2 (n1 + 1) c2) (n1 + 1) ((ps1 ++ [(⟨Ab, cb, b⟩ : Pc)]).map Pc.cell)))
        case first =>
          go_wp2_with (at_builtin; refine wpList_app elem_sl rfl (.const (.slice none 0 0)) (.tmp 63) rfl (H + 2) (.slice none 0 0) 0 [] rfl (World.ownsRow_nil _ _ _ _) A1 n1 c1 (ps1.map Pc.cell) rfl (HSee.out _ HT8.out) HLen.out (one_pc _) (by omega) HT8.out.size ?_)
          intro v1 w1 hown1 hg1 _
          have ht1 : T8 H w (.int .u64 y.at_) (.int .i64 parts) (.slice A1 n1 c1) w1 := HT8.out.grow hg1
          have HT1 := Lib.hid ht1
          have HO1 := Lib.hid hown1
          clear hown1 ht1 hg1
          go_wp2_with (at_builtin; refine wpList_app elem_sl rfl (.tmp 64) (.tmp 66) rfl (H + 2) v1 n1 (ps1.map Pc.cell) rfl (HO1.out.alloc _) (some ⟨_, 0, none⟩) 1 1 [Value.slice Ab b.length cb] rfl (sees_new _ _ _) rfl (by intro u hu; simp at hu; rw [hu]; rfl) (by omega) (T8.size (HT1.out.alloc _)) ?_)
          intro v2 w2 hown2 hg2 _
          have ht2 : T8 H w (.int .u64 y.at_) (.int .i64 parts) (.slice A1 n1 c1) w2 := T8.own (HT1.out.alloc _) (HO1.out.alloc _) hg2
          obtain ⟨A2, c2, rfl, _, _⟩ := own_full hown2
          have j1 : w2.cell? ⟨H, 2, none⟩ = some (.slice A1 n1 c1) := cell_of_row w2 H 2 _ _ _ ht2.box
          have j2 : w2.frozen? ⟨H, 2, none⟩ = false := frozen_of_row w2 H 2 _ _ ht2.box
          have HT2 := Lib.hid ht2
          have HO2 := Lib.hid hown2
          clear ht2 hown2 hg2
          go_wp2_with fail
          go_meet
          refine ⟨rfl, A2, c2, Lib.hid ⟨set_block _ HT2.out.box, by rw [set_other _ (by omega)]; exact HT2.out.out, HT2.out.bel.setCell (Nat.le_refl _) _⟩, Lib.hid ?_⟩
          have hr := own_touch HO2.out (Tch.set w2 H 2 (.slice A2 (n1 + 1) c2)) fun k hk e => by have := (HO2.out.lt k hk).1; omega
          rw [List.map_append]
          exact hr
        case rest =>
          obtain ⟨rfl, A2, c2, HT9, HS9⟩ := hcut
          clear k0 k1 k2 f0 f1 f2
          have k0 : wc.cell? ⟨H, 0, none⟩ = some (.int .u64 y.at_) := cell_of_row wc H 0 _ _ _ HT9.out.box
          have k1 : wc.cell? ⟨H, 1, none⟩ = some (.int .i64 parts) := cell_of_row wc H 1 _ _ _ HT9.out.box
          have k2 : wc.cell? ⟨H, 2, none⟩ = some (.slice A2 (n1 + 1) c2) := cell_of_row wc H 2 _ _ _ HT9.out.box
          have hlen9 : (ps1 ++ [(⟨Ab, cb, b⟩ : Pc)]).length = n1 + 1 := by rw [HN1.out]; simp
          have hpc9 : PcIn wc (ps1 ++ [(⟨Ab, cb, b⟩ : Pc)]) := by
            have hb := HT9.out.bel
            rw [HH.out] at hb
            replace hb := hw.trans (hb.mono hw.size)
            intro p hp
            rcases List.mem_append.1 hp with h | h
            · exact HRS.out.pcs.below hb p h
            · simp only [List.mem_singleton] at h
              subst h
              exact ⟨HB.out.below hb, hb1⟩
          have hb9 : allOf (ps1 ++ [(⟨Ab, cb, b⟩ : Pc)]) = y.b ++ b := by rw [HRS.out.b]; simp [allOf]
          have HB9 := Lib.hid hb9
          have HLen9 := Lib.hid hlen9
          have HPc9 := Lib.hid hpc9
          clear hb9 hlen9 hpc9
          by_cases hlast : (n1 : Int) + 1 < parts
          · have e2 : decide ((n1 : Int) + 1 < parts) = true := by simpa using hlast
            have ht : takeIn x at_ part parts b = (with1 y parts b, [], false) := by rw [HT.out, if_neg (by rw [hyn]; have := HPn.out; omega), if_pos (by rw [hyn]; exact hlast)]
            have HTk := Lib.hid ht
            clear ht hlast
            have m0 : wc.cell? ⟨H + 1, 0, none⟩ = some (.int .u64 0) := cell_of_row wc (H + 1) 0 _ _ _ HT9.out.out
            have m1 : wc.cell? ⟨H + 1, 1, none⟩ = some (.int .i64 0) := cell_of_row wc (H + 1) 1 _ _ _ HT9.out.out
            have m2 : wc.cell? ⟨H + 1, 2, none⟩ = some (.slice none 0 0) := cell_of_row wc (H + 1) 2 _ _ _ HT9.out.out
            have g0 : wc.frozen? ⟨H + 1, 0, none⟩ = false := frozen_of_row wc (H + 1) 0 _ _ HT9.out.out
            have g1 : wc.frozen? ⟨H + 1, 1, none⟩ = false := frozen_of_row wc (H + 1) 1 _ _ HT9.out.out
            have g2 : wc.frozen? ⟨H + 1, 2, none⟩ = false := frozen_of_row wc (H + 1) 2 _ _ HT9.out.out
            go_wp2_with fail
            refine bodyPost_ret (ret_rin (by rfl) (set3_block _ _ _ HT9.out.out)) rfl ?_
            rw [HTk.out]
            have hs : ∀ W', Tch (fun k => k = H + 1) wc W' → ToldRT (with1 y parts b) [] false w0 w (.returned (.tuple #[rin y.at_ parts A2 (n1 + 1) c2, .slice none 0 0, .bool false])) W' := by
              intro W' ht
              have hB := HT9.out.bel.trans (ht.below (by have := HT9.out.size; omega) (fun k hk => by omega))
              rw [HH.out] at hB
              have hr := own_touch HS9.out ht fun k hk e => by have := (HS9.out.lt k hk).1; omega
              refine ⟨y.at_, parts, A2, c2, ps1 ++ [(⟨Ab, cb, b⟩ : Pc)], none, 0, by rw [HLen9.out]; rfl, ⟨rfl, ?_, HB9.out.symm, fun _ => rfl, ?_, ?_⟩, World.ownsRow_nil _ _ _ _, hB⟩
              · rw [HLen9.out, ← hyn]; rfl
              · rw [HLen9.out]; exact own_mono hr (by rw [HH.out]; have := hw.size; omega)
              · intro p hp
                rcases List.mem_append.1 hp with h | h
                · exact HRS.out.pcs p h
                · simp only [List.mem_singleton] at h
                  subst h
                  exact ⟨HB.out, hb1⟩
            exact hs _ (((Tch.set _ _ _ _).trans (Tch.set _ _ _ _)).trans (Tch.set _ _ _ _))
          · have e2 : decide ((n1 : Int) + 1 < parts) = false := by simpa using hlast
            have ht : takeIn x at_ part parts b = (again at_, y.b ++ b, true) := by rw [HT.out, if_neg (by rw [hyn]; have := HPn.out; omega), if_neg (by rw [hyn]; exact hlast)]
            have HTk := Lib.hid ht
            clear ht hlast
            have p1 := all_any A2 (ps1 ++ [(⟨Ab, cb, b⟩ : Pc)]) c2 wc (ownN_sees HS9.out) HPc9.out (by rw [HLen9.out]; omega)
            rw [HLen9.out, HB9.out] at p1
            have P1 := Lib.hid p1
            clear p1
            go_wp2_with fail
            refine (P1.out).mono ?_
            rintro e wA ⟨AA, cA, rfl, hbA, hBA⟩
            have hTA : T8 H w (.int .u64 y.at_) (.int .i64 parts) (.slice A2 (n1 + 1) c2) wA := HT9.out.next (hBA.mono HT9.out.size)
            have m0 : wA.cell? ⟨H + 1, 0, none⟩ = some (.int .u64 0) := cell_of_row wA (H + 1) 0 _ _ _ hTA.out
            have m1 : wA.cell? ⟨H + 1, 1, none⟩ = some (.int .i64 0) := cell_of_row wA (H + 1) 1 _ _ _ hTA.out
            have m2 : wA.cell? ⟨H + 1, 2, none⟩ = some (.slice none 0 0) := cell_of_row wA (H + 1) 2 _ _ _ hTA.out
            have g0 : wA.frozen? ⟨H + 1, 0, none⟩ = false := frozen_of_row wA (H + 1) 0 _ _ hTA.out
            have g1 : wA.frozen? ⟨H + 1, 1, none⟩ = false := frozen_of_row wA (H + 1) 1 _ _ hTA.out
            have g2 : wA.frozen? ⟨H + 1, 2, none⟩ = false := frozen_of_row wA (H + 1) 2 _ _ hTA.out
            have HTA := Lib.hid hTA
            have HBA := Lib.hid hbA
            clear hTA hbA hBA
            go_wp2_with fail
            refine bodyPost_ret (ret_rin (by rfl) (set3_block _ _ _ HTA.out.out)) rfl ?_
            rw [HTk.out]
            have hs : ∀ W', Tch (fun k => k = H + 1) wA W' → ToldRT (again at_) (y.b ++ b) true w0 w (.returned (.tuple #[rin at_ 0 none 0 0, .slice AA (y.b.length + b.length) cA, .bool true])) W' := by
              intro W' ht
              have hB := HTA.out.bel.trans (ht.below (by have := HTA.out.size; omega) (fun k hk => by omega))
              rw [HH.out] at hB
              have hr := own_touch HBA.out ht fun k hk e => by have := (HBA.out.lt k hk).1; have := HT9.out.size; omega
              exact ⟨at_, 0, none, 0, [], AA, cA, by rw [List.length_append]; rfl, RS.again at_ w0 W', own_mono hr (by have := hw.size; have := HT9.out.size; have := HH.out; omega), hB⟩
            exact hs _ (((Tch.set _ _ _ _).trans (Tch.set _ _ _ _)).trans (Tch.set _ _ _ _))
      · have e1 : (part != (n1 : Int)) = true := by simpa using hpn
        have ht : takeIn x at_ part parts b = (y, [], false) := by rw [HT.out, if_pos (by rw [hyn]; exact hpn)]
        have HTk := Lib.hid ht
        clear ht hpn
        go_wp2_with fail
        refine bodyPost_ret (ret_rin (by rfl) (set3_block _ _ _ HY1.out)) rfl ?_
        rw [HTk.out]
        have hfin : Below w.heap.size w (((wc.setCell ⟨H + 1, 0, none⟩ (.int .u64 y.at_)).setCell ⟨H + 1, 1, none⟩ (.int .i64 rp1)).setCell ⟨H + 1, 2, none⟩ (.slice A1 n1 c1)) := below_set3 (by rw [← HH.out]; exact HBel.out) (by rw [HH.out]; exact Nat.le_succ _) _ _ _
        exact ⟨y.at_, rp1, A1, c1, ps1, none, 0, by rw [← HN1.out]; rfl, HRS.out.below hfin, World.ownsRow_nil _ _ _ _, hfin⟩
end Go.Proofs.Ytgjhcmjkdjnjfaa
