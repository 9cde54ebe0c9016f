/- slices.Chunk of bytes by 1024: what its iterator hands over, as a contract of a range over a function. Condition: within the reach. -/
import Derived.RangeFuncBox
import Derived.RangeFuncNested
import Derived.RangeFuncBound
import Derived.RangeFuncCalls
import Derived.RangeFuncLeaves
import Derived.Shelf.Abstract
import Derived.Shelf.RegionOpen
import Derived.WalkKit
import Derived.OwnWalkIn
import Derived.TacticsInMore
import Derived.LoopNIn
import Derived.LoopIn
import Derived.Maps.AppendAt
import Derived.Test.YtgjhcmjkdjnjfaaClone
import Derived.Test.YtgjhcmjkdjnjfaaFlat
namespace Go.Cat.Move

/-- The parts of L bytes: where each begins, how long it is. -/
def cpart (L k : Nat) : Nat × Nat := (1024 * k, min 1024 (L - 1024 * k))
def ccount (L : Nat) : Nat := (L + 1023) / 1024
def cupto (L k : Nat) : List (Nat × Nat) := (List.range k).map (cpart L)
theorem cupto_succ (L k : Nat) : cupto L (k + 1) = cupto L k ++ [cpart L k] := by simp [cupto, List.range_succ]
theorem cupto_length (L k : Nat) : (cupto L k).length = k := by simp [cupto]
end Go.Cat.Move
namespace Go.Proofs.Ytgjhcmjkdjnjfaa
open Go.RowKit Go.Shelf Go.Cat Go.Cat.Move

attribute [local go_sem] Oper.semAt_some

/-- A part's value. -/
abbrev partV (g : Nat) (x : Nat × Nat) : Value := .slice (some ⟨g, x.1, none⟩) x.2 x.2

set_option maxRecDepth 100000 in
set_option maxHeartbeats 2000000 in
theorem chunk1_in (F : Fence) (n : Nat) (h25 : F.fn 25) (hro : F.round = none) (hn : 1 ≤ n) (l B1 B2 : Nat) (A : Option Addr) (g L c : Nat) (hA : 0 < L → A = some ⟨g, 0, none⟩) (hL : L ≤ c) (hc : c ≤ maxLen) (hreach : L ≤ 1099511627776) (J Jx : List (Nat × Nat) → World → Prop)
    (hY : ∀ pre x W, J pre W → pre.length < ccount L → YieldAt F (n - 1) Try.prog l #[partV g x] W fun e W' =>
      (e = .returned (.bool true) ∧ J (pre ++ [x]) W' ∧ (W'.heap[B1]? = W.heap[B1]? ∧ W'.heap[B2]? = W.heap[B2]?)) ∨ (e = .returned (.bool false) ∧ Jx (pre ++ [x]) W'))
    (W : World) (hb1 : Boxed W B1 23 (.slice A L c)) (hb2 : Boxed W B2 3 (.int .i64 1024)) (hAb : AbidesFrom W.heap.size J) (h0 : J [] W) :
    CallsIn F n Try.prog 25 #[.func (.yield l) #[] #[], .pointer (some ⟨B1, 0, none⟩), .pointer (some ⟨B2, 0, none⟩)] W fun e W' => (∃ v, e = .returned v) ∧
      ((∃ ys, ys = cupto L (ccount L) ∧ J ys W') ∨ (∃ pre, (∃ k, k ≤ ccount L ∧ pre = cupto L k) ∧ Jx pre W')) := by
  refine callsIn_of_wp Try.func25 rfl h25 ?_ hro
  simp only [Try.ntmps25, List.size_toArray, List.length_cons, List.length_nil, Nat.reduceAdd, Nat.reduceSub, Array.replicate_succ, Array.replicate_zero, List.push_toArray, List.append_toArray, List.nil_append, List.cons_append]
  have HY := Lib.hid hY
  have HA := Lib.hid hA
  have HAb := Lib.hid hAb
  unfold maxLen at hc
  clear hY hA hAb
  gi_wp2
  gi_loopw [4] (fun iv wr => ∃ k i : Nat, k ≤ ccount L ∧ Hid (i = 1024 * k) ∧ i ≤ L + 1023 ∧ iv = .int .i64 i ∧ Hid (J (cupto L k) wr) ∧ Boxed wr B1 23 (.slice A L c) ∧ Boxed wr B2 3 (.int .i64 1024))
    (fun iv _ => L + 1024 - (intOf iv).toNat)
  case atStart => exact ⟨0, 0, Nat.zero_le _, Lib.hid rfl, Nat.zero_le _, rfl, Lib.hid h0, hb1, hb2⟩
  case round =>
    obtain ⟨k, i, hk, HI, hi, rfl, HJ, hx1, hx2⟩ := hrel
    have c1 := hx1.cell
    have c2 := hx2.cell
    by_cases hlt : i < L
    · have hkc : k < ccount L := by have := HI.out; unfold ccount; omega
      obtain ⟨m, hm⟩ : ∃ m, m = min 1024 (L - i) := ⟨_, rfl⟩
      have hp : cpart L k = (i, m) := by rw [hm, HI.out]; rfl
      have hyr := HY.out _ (i, m) wr.drew (HAb.out _ _ _ none HJ.out ⟨rfl, rfl, rfl, Nat.le_refl _, fun _ _ _ => rfl⟩ (fun r e => by cases e)) (by rw [cupto_length]; exact hkc)
      have HYr := Lib.hid hyr
      clear hyr
      have hA := HA.out (by omega)
      subst hA
      have hm1 : m ≤ L - i := by omega
      have hmI : (if ((L - i : Nat) : Int) < 1024 then ((L - i : Nat) : Int) else 1024) = (m : Int) := by split <;> omega
      have him : i + m ≤ L := by omega
      have him1 : (i : Int) + (m : Int) ≤ (L : Int) := by omega
      have him2 : (i : Int) + (m : Int) ≤ (c : Int) := by omega
      have hiI : (i : Int) < (L : Int) := by omega
      have hi0 : (0 : Int) ≤ (i : Int) := by omega
      have hiL : (i : Int) ≤ (L : Int) := by omega
      have HM := Lib.hid hm
      have HP := Lib.hid hp
      clear hm hp
      have hmix : Try.prog.follows .mixedOrders = true := by kernel_rfl
      gi_wp2
      gi_region_with_o (fail)
      all_goals
        obtain ⟨fn, tmps, assign, body, hy, hR⟩ := HYr.out
        have HR := Lib.hid hR
        clear hR
        gi_wp2
        refine (HR.out).mono ?_
        rintro e W3 (⟨rfl, hJ3, hk1, hk2⟩ | ⟨rfl, hJx3⟩)
        · have HJ3 := Lib.hid hJ3
          have b1 : Boxed W3 B1 23 (.slice (some ⟨g, 0, none⟩) L c) := hk1.trans hx1
          have b2 : Boxed W3 B2 3 (.int .i64 1024) := hk2.trans hx2
          have d2 := b2.cell
          clear hJ3 hk1 hk2
          gi_wp2
          go_roundw
          case rel => exact ⟨k + 1, i + 1024, by omega, Lib.hid (by rw [HI.out]; omega), by omega, by go_num, Lib.hid (by rw [cupto_succ, HP.out]; exact HJ3.out), b1, b2⟩
          case measure => simp [intOf]; omega
        · have HJx := Lib.hid hJx3
          clear hJx3
          gi_wp2
          refine bodyPost_ret (results_none rfl _ _ _) rfl ?_
          exact ⟨⟨_, rfl⟩, .inr ⟨_, ⟨k + 1, by omega, by rw [cupto_succ, HP.out]⟩, HJx.out⟩⟩
    · have hkc : k = ccount L := by have := HI.out; unfold ccount at hk ⊢; omega
      have HK := Lib.hid hkc
      clear hkc
      gi_wp2
      go_end0
      exact ⟨⟨_, rfl⟩, .inl ⟨_, by rw [← HK.out], HJ.out⟩⟩
end Go.Proofs.Ytgjhcmjkdjnjfaa
