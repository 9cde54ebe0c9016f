/- The contract of the law's like at entries that are alike. Condition: at most 1000000 entries. -/
import Derived.Test.YtjilejmchaejiaaDoorEntSee
namespace Go.Proofs.YtjilejmchaejiaaDoor
open Go.RowKit Go.Cat Go.Cat.Dir

set_option maxRecDepth 100000 in
set_option maxHeartbeats 2000000 in
theorem elike_yes (A B : Option Addr) (l : List Ent) (c d : Nat) (w : World) (ha : Sees w A (erows l)) (hb : Sees w B (erows l)) (hn : l.length ≤ 1000000) :
    Calls Tryd.prog 27 #[.slice A l.length c, .slice B l.length d] w fun e w' => e = .returned (.bool true) ∧ Below w.heap.size w w' := by
  obtain ⟨n, hnn⟩ : ∃ n, n = l.length := ⟨_, rfl⟩
  have HN := Lib.hid hnn
  have HA := Lib.hid ha
  have HB := Lib.hid hb
  rw [← hnn] at hn ⊢
  clear hnn ha hb
  go_enter Tryd.func27, Tryd.ntmps27
  go_wp2_with fail
  go_loopw [5] (fun iv wr => ∃ k : Nat, k ≤ n ∧ iv = .int .i64 k ∧ Hid (Below w.heap.size w wr)) (fun iv _ => n - (intOf iv).toNat)
  case atStart => exact ⟨0, Nat.zero_le _, rfl, Below.refl _ _⟩
  case round =>
    obtain ⟨k, hk, rfl, HW⟩ := hrel
    by_cases hlt : k < n
    · have t1 : decide ((k : Int) < (n : Int)) = true := by simp; omega
      have hkl : k < l.length := by have := HN.out; omega
      obtain ⟨b, off, rfl, hbl, e0, e1⟩ := erows_at (HA.out.below HW.out) hkl
      obtain ⟨b', off', rfl, hbl', e0', e1'⟩ := erows_at (HB.out.below HW.out) hkl
      obtain ⟨x, hx⟩ : ∃ x, x = l[k].1 := ⟨_, rfl⟩
      obtain ⟨y, hy⟩ : ∃ y, y = l[k].2 := ⟨_, rfl⟩
      rw [← hx] at e0 e0'
      rw [← hy] at e1 e1'
      have hkI : (k : Int) < (n : Int) := by omega
      have hk0 : (0 : Int) ≤ (k : Int) := by omega
      have d1 : ((bs x).toList != (bs x).toList) = false := by simp
      have d2 : (y != y) = false := by simp
      clear hx hy hbl hbl' hkl
      go_wp2_with fail
      go_quiet (fail)
      go_wp2_with fail
      go_roundw
      case rel => exact ⟨k + 1, by omega, by go_num, below_drewN HW.out _⟩
      case measure => simp [intOf]; omega
    · obtain rfl : k = n := by omega
      have t1 : decide ((k : Int) < (k : Int)) = false := by simp
      go_wp2_with fail
      go_ret
      exact ⟨rfl, HW.out⟩
end Go.Proofs.YtjilejmchaejiaaDoor
