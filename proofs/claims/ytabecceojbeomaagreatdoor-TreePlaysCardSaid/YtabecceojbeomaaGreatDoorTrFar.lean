/- The contract of the law's Far; how many names an answer has. Condition: the call's data at most 2^62 bytes. -/
import Derived.Test.YtabecceojbeomaaGreatDoorTrLaw
namespace Go.Cat.Tree
open Go.Cat Go.Cat.Dir
theorem act_names (l : TL) (c : CallV) : (actV l c).2.names.length ≤ l.length := by
  have hw : ∀ e : Int, (wrongV e).names.length ≤ l.length := fun e => Nat.zero_le _
  unfold actV
  split; · unfold makeV; repeat' split
           all_goals exact Nat.zero_le _
  split; · unfold removeV; repeat' split
           all_goals exact Nat.zero_le _
  split; · unfold renameV; repeat' split
           all_goals exact Nat.zero_le _
  split; · unfold putV; repeat' split
           all_goals exact Nat.zero_le _
  split; · unfold getV; repeat' split
           all_goals exact Nat.zero_le _
  split; · unfold truncV; repeat' split
           all_goals exact Nat.zero_le _
  split; · unfold listV; split
           · split
             · exact List.length_filterMap_le _ _
             · exact Nat.zero_le _
           · exact Nat.zero_le _
  split; · unfold statV; repeat' split
           all_goals exact Nat.zero_le _
  exact Nat.zero_le _
theorem do_names (I J : Int) (l : TL) (c : CallV) : (doV I J l c).2.names.length ≤ l.length := by
  unfold doV
  split
  · split
    · exact Nat.zero_le _
    · exact act_names l c
  · exact Nat.zero_le _
/-- Has a call more than is looked at? -/
def farV (c : CallV) : Bool := decide (120 < c.path.length ∨ 120 < c.to.length ∨ 600 < c.data.length)
end Go.Cat.Tree
namespace Go.Proofs.YtabecceojbeomaaGreatDoor
open Go.RowKit Go.Cat Go.Cat.Dir Go.Cat.Tree Go.Maps

set_option maxRecDepth 100000 in
set_option maxHeartbeats 2000000 in
theorem far_any (c : CallV) (A : Option Addr) (cA : Nat) (w : World) :
    Calls Tryz.prog 9 #[.agg (callC c A cA)] w fun e w' => e = .returned (.bool (farV c)) ∧ Below w.heap.size w w' := by
  have hb : Below w.heap.size w (w.alloc (.cells (callC c A cA) 33)) := (Below.refl _ _).alloc (Nat.le_refl _) _
  have s1 : (bs c.path).size = c.path.length := rfl
  have s2 : (bs c.to).size = c.to.length := rfl
  by_cases h1 : 120 < c.path.length
  · have d1 : decide ((120 : Int) < ((bs c.path).size : Int)) = true := by rw [s1]; simp; omega
    have e : farV c = true := decide_eq_true (.inl h1)
    rw [e]
    clear e h1 s1 s2
    have HB := Lib.hid hb
    clear hb
    go_enter Tryz.func9, Tryz.ntmps9
    go_wp2_with fail
    go_ret
    exact ⟨rfl, HB.out⟩
  · have d1 : decide ((120 : Int) < ((bs c.path).size : Int)) = false := by rw [s1]; simp; omega
    by_cases h2 : 120 < c.to.length
    · have d2 : decide ((120 : Int) < ((bs c.to).size : Int)) = true := by rw [s2]; simp; omega
      have e : farV c = true := decide_eq_true (.inr (.inl h2))
      rw [e]
      clear e h1 h2 s1 s2
      have HB := Lib.hid hb
      clear hb
      go_enter Tryz.func9, Tryz.ntmps9
      go_wp2_with fail
      go_ret
      exact ⟨rfl, HB.out⟩
    · have d2 : decide ((120 : Int) < ((bs c.to).size : Int)) = false := by rw [s2]; simp; omega
      have e : farV c = decide (600 < c.data.length) := by unfold farV; simp [h1, h2]
      obtain ⟨n, hn⟩ : ∃ n, n = c.data.length := ⟨_, rfl⟩
      have d3 : decide ((600 : Int) < ((c.data.length : Nat) : Int)) = decide (600 < c.data.length) := by simp; omega
      rw [e]
      clear e h1 h2 s1 s2 hn
      have HB := Lib.hid hb
      clear hb
      go_enter Tryz.func9, Tryz.ntmps9
      go_wp2_with fail
      go_ret
      exact ⟨rfl, HB.out⟩
end Go.Proofs.YtabecceojbeomaaGreatDoor
