/- The contract of the reference's Cut. No condition. -/
import Derived.Test.YtjilejmchaejiaaDoorProg
import Derived.Test.YtjilejmchaejiaaDoorLib
namespace Go.Proofs.YtjilejmchaejiaaDoor
open Go.RowKit Go.Cat

theorem cut_any (A : Option Addr) (c m : Nat) (bs : List UInt8) (w : World) (hn : bs.length ≤ c) (_ : c ≤ 9223372036854775807) :
    Calls Tryd.prog 28 #[.slice A bs.length c, .int .i64 (m : Int)] w fun e w' => e = .returned (.slice A (bs.take m).length c) ∧ w = w' := by
  obtain ⟨n, hnn⟩ : ∃ n, n = bs.length := ⟨_, rfl⟩
  have hl : (bs.take m).length = min m n := by rw [List.length_take, hnn]
  rw [hl, ← hnn]
  rw [← hnn] at hn
  clear hl hnn
  by_cases h : m < n
  · have d : decide ((m : Int) < (n : Int)) = true := by simp; omega
    have e : min m n = m := by omega
    have h2 : (m : Int) ≤ (c : Int) := by omega
    have h0 : (0 : Int) ≤ (m : Int) := by omega
    rw [e]
    clear e
    go_enter Tryd.func28, Tryd.ntmps28
    go_wp2
    go_ret
    exact ⟨rfl, rfl⟩
  · have d : decide ((m : Int) < (n : Int)) = false := by simp; omega
    have e : min m n = n := by omega
    rw [e]
    clear e
    go_enter Tryd.func28, Tryd.ntmps28
    go_wp2
    go_ret
    exact ⟨rfl, rfl⟩
end Go.Proofs.YtjilejmchaejiaaDoor
