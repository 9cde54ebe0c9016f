/- The iterator over an inode's blocks: Extent.right, each, and what each hands over, as a contract of a range over a function. Condition: lengths within an int. -/
import Derived.RangeFuncBox
import Derived.RangeFuncNested
import Derived.RangeFuncBound
import Derived.RangeFuncCalls
import Derived.RangeFuncLeaves
import Derived.Shelf.Abstract
import Derived.Shelf.RegionOpen
import Derived.WalkKit
import Derived.OwnWalkIn
import Derived.TacticsInMore
import Derived.LoopNIn
import Derived.LoopIn
import Derived.Test.YtjdpljhhlmcbaaaProg
import Derived.Test.YtjdpljhhlmcbaaaInoPure
namespace Go.Proofs.Ytjdpljhhlmcbaaa
open Go.RowKit Go.Shelf Go.Cat Go.Cat.Ino

theorem right_yes (a b : Int) (w : World) (h : rightE (a, b)) :
    Calls Try.prog 86 #[.agg #[.int .i64 a, .int .i64 b]] w fun e w' => e = .returned (.bool true) ∧ Below w.heap.size w w' := by
  have h1 : 1 ≤ b := h.1
  have h2 : b ≤ 8 := h.2
  have d1 : decide (1 ≤ b) = true := by simpa using h1
  have d2 : decide (b ≤ 8) = true := by simpa using h2
  clear h
  go_enter Try.func86, Try.ntmps86
  go_wp2
  go_ret
  exact ⟨rfl, (Below.refl _ _).alloc (Nat.le_refl _) _⟩
theorem right_not (a b : Int) (w : World) (h : ¬ rightE (a, b)) :
    Calls Try.prog 86 #[.agg #[.int .i64 a, .int .i64 b]] w fun e w' => e = .returned (.bool false) ∧ Below w.heap.size w w' := by
  by_cases h1 : 1 ≤ b
  · have h2 : ¬ b ≤ 8 := fun e => h ⟨h1, e⟩
    have d1 : decide (1 ≤ b) = true := by simpa using h1
    have d2 : decide (b ≤ 8) = false := by simpa using h2
    clear h
    go_enter Try.func86, Try.ntmps86
    go_wp2
    go_ret
    exact ⟨rfl, (Below.refl _ _).alloc (Nat.le_refl _) _⟩
  · have d1 : decide (1 ≤ b) = false := by simpa using h1
    clear h
    go_enter Try.func86, Try.ntmps86
    go_wp2
    go_ret
    exact ⟨rfl, (Below.refl _ _).alloc (Nat.le_refl _) _⟩

theorem each_in (n : Nat) (A : Option Addr) (L c : Nat) (w : World) :
    CallsIn Fence.wide n Try.prog 88 #[.slice A L c] w fun e w' => e = .returned (.func (.func 93) #[] #[.pointer (some ⟨w.heap.size, 0, none⟩)]) ∧ w' = w.alloc (.cells #[.slice A L c] 57) := by
  refine callsIn_of_wp Try.func88 rfl trivial ?_ rfl
  simp only [Try.ntmps88, List.size_toArray, List.length_cons, List.length_nil, Nat.reduceAdd, Nat.reduceSub, Array.replicate_succ, Array.replicate_zero, List.push_toArray, List.append_toArray, List.nil_append, List.cons_append]
  gi_wp2
  go_ret
  exact ⟨rfl, rfl⟩

/-- What a round must keep: all below B, and every block of extents. -/
def KeepE (B : Nat) (W W' : World) : Prop := Below B W W' ∧ ∀ (k : Nat) (cs : Array Value) (fr : Nat × Nat), W.heap[k]? = some (Obj.cells cs 69 fr) → W'.heap[k]? = some (Obj.cells cs 69 fr)
theorem KeepE.trans {B : Nat} {X Y Z : World} (h : KeepE B X Y) (k : KeepE B Y Z) : KeepE B X Z := ⟨h.1.trans k.1, fun j cs fr hj => k.2 j cs fr (h.2 j cs fr hj)⟩
theorem KeepE.put {B : Nat} {w : World} (hB : B ≤ w.heap.size) (W : World) (l : Nat) (o o' : Obj) (hl : w.heap.size ≤ l) (h : W.heap[l]? = some o) (hc : o.isCells = false) (_ : o.isWalk = false) : KeepE B W (W.putObj l o') :=
  ⟨(Below.refl B W).grown (grownBy_putObj' W l o') (by have := (Array.getElem?_eq_some_iff.1 h).1; omega) (fun k e => by cases e; omega), fun k cs fr hk => by
    rw [World.putObj_heap_other ?_]; exact hk
    rintro rfl
    rw [h] at hk
    injection hk with hk
    subst hk
    simp [Obj.isCells] at hc⟩

theorem grown_of_below {w w' : World} (h : Below w.heap.size w w') : w.grownBy w' none := ⟨h.os, h.tape, h.output, h.size, fun k hk _ => h.block k hk⟩

attribute [local go_sem] Oper.semAt_some

section
variable {B Bl : Nat} {A : Option Addr} {c : Nat} {xs : List Ext} {J : List Int → World → Prop} {pre pre' : List Int} {W wr w' : World}
/-- What the iterator keeps between two rounds. -/
structure EachR (B Bl : Nat) (A : Option Addr) (c : Nat) (xs : List Ext) (J : List Int → World → Prop) (pre : List Int) (W wr : World) : Prop where
  bel : Below B W wr
  j : J pre wr
  hd : wr.heap[Bl]? = some (.cells #[.slice A xs.length c] 57 (0, 0))
  row : Sees wr A (erows xs)
  sz : B ≤ wr.heap.size
  sz2 : W.heap.size ≤ wr.heap.size
theorem EachR.below (h : EachR B Bl A c xs J pre W wr) (hBl : Bl < B) (hAb : AbidesFrom W.heap.size J) (hrow : ∀ W', Below B W W' → Sees W' A (erows xs)) (hb : Below wr.heap.size wr w') : EachR B Bl A c xs J pre W w' :=
  have hw : Below B W w' := h.bel.trans (hb.mono h.sz)
  ⟨hw, hAb _ _ _ none h.j (grown_of_below hb) (fun r e => by cases e), (hb.block Bl (by have := h.sz; omega)).trans h.hd, hrow _ hw, Nat.le_trans h.sz hb.size, Nat.le_trans h.sz2 hb.size⟩
theorem EachR.step (h : EachR B Bl A c xs J pre W wr) (hBl : Bl < B) (hrow : ∀ W', Below B W W' → Sees W' A (erows xs)) (hj : J pre' w') (hk : KeepE B wr w') : EachR B Bl A c xs J pre' W w' :=
  have hw : Below B W w' := h.bel.trans hk.1
  ⟨hw, hj, (hk.1.block Bl hBl).trans h.hd, hrow _ hw, Nat.le_trans h.sz hk.1.size, Nat.le_trans h.sz2 hk.1.size⟩
end

set_option maxRecDepth 100000 in
set_option maxHeartbeats 4000000 in
theorem each1_in (n : Nat) (hn : 1 ≤ n) (l B Bl : Nat) (A : Option Addr) (xs : List Ext) (c : Nat) (hL : xs.length ≤ 1000000) (J Jx : List Int → World → Prop)
    (hY : ∀ pre x W, J pre W → pre.length < (blks xs).length → YieldAt Fence.wide (n - 1) Try.prog l #[.int .i64 x] W fun e W' =>
      (e = .returned (.bool true) ∧ J (pre ++ [x]) W' ∧ KeepE B W W') ∨ (e = .returned (.bool false) ∧ Jx (pre ++ [x]) W'))
    (W : World) (hBl : Bl < B) (hB : B ≤ W.heap.size) (hd : W.heap[Bl]? = some (.cells #[.slice A xs.length c] 57 (0, 0)))
    (hrow : ∀ W', Below B W W' → Sees W' A (erows xs)) (hAb : AbidesFrom W.heap.size J) (h0 : J [] W) :
    CallsIn Fence.wide n Try.prog 93 #[.func (.yield l) #[] #[], .pointer (some ⟨Bl, 0, none⟩)] W fun e W' => (∃ v, e = .returned v) ∧
      ((∃ ys, ys = blks xs ∧ J ys W') ∨ (∃ pre, pre <+: blks xs ∧ Jx pre W')) := by
  refine callsIn_of_wp Try.func93 rfl trivial ?_ rfl
  simp only [Try.ntmps93, List.size_toArray, List.length_cons, List.length_nil, Nat.reduceAdd, Nat.reduceSub, Array.replicate_succ, Array.replicate_zero, List.push_toArray, List.append_toArray, List.nil_append, List.cons_append]
  have c0 : W.cell? ⟨Bl, 0, none⟩ = some (.slice A xs.length c) := cell_of_row W Bl 0 _ _ _ hd
  obtain ⟨m, hm⟩ : ∃ m, m = xs.length := ⟨_, rfl⟩
  rw [← hm] at c0 hL
  have HY := Lib.hid hY
  have HAb := Lib.hid hAb
  have HRow := Lib.hid hrow
  have HM := Lib.hid hm
  have HR0 : Hid (EachR B Bl A c xs J (blksTo xs 0) W W) := ⟨Below.refl _ _, by unfold blksTo; simpa using h0, hd, hrow _ (Below.refl _ _), hB, Nat.le_refl _⟩
  clear hY hAb hrow hd h0 hm
  gi_wp2
  gi_loopw [8] (fun iv wr => ∃ i : Nat, i ≤ m ∧ iv = .int .i64 i ∧ Hid (EachR B Bl A c xs J (blksTo xs i) W wr)) (fun iv _ => m - (intOf iv).toNat)
  case atStart => exact ⟨0, Nat.zero_le _, rfl, HR0⟩
  case round =>
    clear HR0 c0
    obtain ⟨i, hi, rfl, HR⟩ := hrel
    by_cases hlt : i < m
    · have t1 : decide ((i : Int) < (m : Int)) = true := by simp; omega
      have hix : i < xs.length := by rw [← HM.out]; exact hlt
      obtain ⟨b, off, rfl, hbl, e0, e1⟩ := erows_at HR.out.row hix
      have hblk := blksTo_succ hix
      obtain ⟨p, hp⟩ : ∃ p, p = xs[i] := ⟨_, rfl⟩
      rw [← hp] at e0 e1 hblk
      have HBlk := Lib.hid hblk
      have hiI : (i : Int) < (m : Int) := by omega
      have hi0 : (0 : Int) ≤ (i : Int) := by omega
      have hpe : Hid (p = xs[i]) := hp
      obtain ⟨W1, hW1⟩ : ∃ W1, W1 = wr.alloc (.cells #[.int .i64 p.1, .int .i64 p.2] 69) := ⟨_, rfl⟩
      obtain ⟨H, hH⟩ : ∃ H, H = wr.heap.size := ⟨_, rfl⟩
      have hb1 : Below wr.heap.size wr W1 := by rw [hW1]; exact (Below.refl _ _).alloc (Nat.le_refl _) _
      have hE1 := HR.out.below hBl HAb.out HRow.out hb1
      have hx1 : W1.heap[H]? = some (.cells #[.int .i64 p.1, .int .i64 p.2] 69 (0, 0)) := by rw [hW1, hH]; exact heap_alloc_new _ _
      have HE1 := Lib.hid hE1
      have HX1 := Lib.hid hx1
      have HW1 := Lib.hid hW1
      have HH := Lib.hid hH
      clear hblk hp hW1 hH hb1 hE1 hx1
      by_cases hr : rightE p
      · have P1 := Lib.hid (right_yes p.1 p.2 W1 hr)
        obtain ⟨z, hz⟩ : ∃ z : Nat, p.2 = (z : Int) := ⟨p.2.toNat, by have := hr.1; omega⟩
        have hz8 : z ≤ 8 := by have := hr.2; omega
        have hz1 : 1 ≤ z := by have := hr.1; omega
        have HZ := Lib.hid hz
        rw [hz] at e1 HX1 P1 HW1
        have HRt := Lib.hid hr
        clear hr hz
        gi_wp2_with fail
        rw [← HW1.out]
        refine ⟨trivial, ?_⟩
        refine (callsIn_wide.2 (P1.out)).mono ?_
        rintro e w2 ⟨rfl, hB2⟩
        have HE2 := Lib.hid (HE1.out.below hBl HAb.out HRow.out hB2)
        have hx2 := (hB2.block H (Array.getElem?_eq_some_iff.1 HX1.out).1).trans HX1.out
        have HX2 := Lib.hid hx2
        have x0 : w2.cell? ⟨H, 1, none⟩ = some (.int .i64 z) := cell_of_row w2 H 1 _ _ _ hx2
        clear hB2 hx2 e0 e1
        rw [← HH.out]
        gi_wp2_with fail
        obtain ⟨wo, rfl⟩ : ∃ wo : World, wo = wr := ⟨_, rfl⟩
        gi_loopw [17] (fun jv wr => ∃ j : Nat, j ≤ z ∧ jv = .int .i64 j ∧ Hid (EachR B Bl (some ⟨b, off, none⟩) c xs J (blksTo xs i ++ bTo p j) W wr) ∧ Hid (wr.heap[H]? = some (.cells #[.int .i64 p.1, .int .i64 z] 69 (0, 0)))) (fun jv _ => z - (intOf jv).toNat)
        case atStart => exact ⟨0, Nat.zero_le _, rfl, by show EachR _ _ _ _ _ _ _ _ _; have := HE2.out; simpa [bTo] using this, HX2⟩
        case round =>
          clear HE2 HX2 x0
          obtain ⟨j, hj, rfl, HE, HX⟩ := hrel
          by_cases hjl : j < z
          · have t2 : decide ((j : Int) < (z : Int)) = true := by simp; omega
            have hat := blks_at hix (by rw [← hpe.out]; exact HRt.out) (j := j) (by rw [← hpe.out, HZ.out]; simpa using hjl)
            rw [← hpe.out] at hat
            have x0 : wr.cell? ⟨H, 0, none⟩ = some (.int .i64 p.1) := cell_of_row wr H 0 _ _ _ HX.out
            have hyr := HY.out _ (bAt p j) wr HE.out.j hat.1
            have HAt := Lib.hid hat.2
            have HYr := Lib.hid hyr
            clear hat hyr
            obtain ⟨fn, tmps, assign, body, hy, hR⟩ := HYr.out
            unfold bAt at hy
            have HR' := Lib.hid hR
            clear hR
            gi_wp2
            refine (HR'.out).mono ?_
            rintro e W3 (⟨rfl, hJ3, hk3⟩ | ⟨rfl, hJx3⟩)
            · have HE3 := Lib.hid (HE.out.step hBl HRow.out hJ3 hk3)
              have HX3 := Lib.hid (hk3.2 _ _ _ HX.out)
              clear hJ3 hk3
              gi_wp2
              go_roundw
              case rel => exact ⟨j + 1, by omega, by go_num, by show EachR _ _ _ _ _ _ _ _ _; rw [bTo_succ, ← List.append_assoc]; exact HE3.out, HX3⟩
              case measure => simp [intOf]; omega
            · have HJx := Lib.hid hJx3
              clear hJx3
              gi_wp2
              refine bodyPost_ret (results_none rfl _ _ _) rfl ?_
              exact ⟨⟨_, rfl⟩, .inr ⟨_, HAt.out, by rw [bTo_succ, ← List.append_assoc]; exact HJx.out⟩⟩
          · obtain rfl : j = z := by omega
            have t2 : decide ((j : Int) < (j : Int)) = false := by simp
            have hfull : blksTo xs (i + 1) = blksTo xs i ++ bTo p j := by rw [HBlk.out, blk_yes HRt.out, HZ.out]; simp
            have HF := Lib.hid hfull
            clear hfull
            gi_wp2
            go_roundw
            case rel => exact ⟨i + 1, by omega, by go_num, by show EachR _ _ _ _ _ _ _ _ _; rw [HF.out]; exact HE.out⟩
            case measure => simp [intOf]; omega
      · have P1 := Lib.hid (right_not p.1 p.2 W1 hr)
        have hsame : blksTo xs (i + 1) = blksTo xs i := by rw [HBlk.out, blk_not hr, List.append_nil]
        have HS := Lib.hid hsame
        clear hr hsame
        gi_wp2_with fail
        rw [← HW1.out]
        refine ⟨trivial, ?_⟩
        refine (callsIn_wide.2 (P1.out)).mono ?_
        rintro e w2 ⟨rfl, hB2⟩
        have HE2 := Lib.hid (HE1.out.below hBl HAb.out HRow.out hB2)
        clear hB2 e0 e1
        gi_wp2
        go_roundw
        case rel => exact ⟨i + 1, by omega, by go_num, by show EachR _ _ _ _ _ _ _ _ _; rw [HS.out]; exact HE2.out⟩
        case measure => simp [intOf]; omega
    · obtain rfl : i = m := by omega
      have t1 : decide ((i : Int) < (i : Int)) = false := by simp
      have hall : blksTo xs i = blks xs := by rw [HM.out]; exact blksTo_all xs
      have HA := Lib.hid hall
      clear hall
      gi_wp2
      go_end0
      exact ⟨⟨_, rfl⟩, .inl ⟨_, rfl, by rw [← HA.out]; exact HR.out.j⟩⟩
end Go.Proofs.Ytjdpljhhlmcbaaa
