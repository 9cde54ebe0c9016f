/- The number that bytes are: plain, and the contracts of the program's and of the reference's. Condition: at most 8 bytes. -/
import Derived.Test.YtjdpljhhlmcbaaaTch
import Derived.Test.YtjdpljhhlmcbaaaHeap
import Derived.Test.YtjdpljhhlmcbaaaElem
import Derived.Laws.BitsLemmas
namespace Go.Cat
open Go.RowKit
/-- The number that bytes are. -/
def num (bs : List UInt8) : Nat := bs.foldl (fun n b => n * 256 + b.toNat) 0
theorem num_snoc (bs : List UInt8) (b : UInt8) : num (bs ++ [b]) = num bs * 256 + b.toNat := by unfold num; rw [List.foldl_append]; rfl
theorem num_take {bs : List UInt8} {k : Nat} (h : k < bs.length) : num (bs.take (k + 1)) = num (bs.take k) * 256 + bs[k].toNat := by
  rw [List.take_succ_eq_append_getElem h, num_snoc]
theorem num_lt_take (bs : List UInt8) : ∀ k, num (bs.take k) < 256 ^ k
  | 0 => by simp [num]
  | k + 1 => by
    have h1 := num_lt_take bs k
    have h3 : 256 ^ (k + 1) = 256 ^ k * 256 := Nat.pow_succ ..
    by_cases h : k < bs.length
    · rw [num_take h]
      have h2 := bs[k].toNat_lt
      omega
    · have e : bs.take (k + 1) = bs.take k := by rw [List.take_of_length_le (by omega), List.take_of_length_le (by omega)]
      rw [e]
      have : 0 < 256 ^ k := Nat.pow_pos (by omega)
      omega
theorem num_lt (bs : List UInt8) : num bs < 256 ^ bs.length := by
  have := num_lt_take bs bs.length
  rwa [List.take_length] at this
/-- One more byte, as the program adds it. -/
theorem shl_or {n : Nat} {b : UInt8} (h : n < 72057594037927936) : bits .or .u64 (IntKind.u64.wrap ((n : Int) * 256)) (IntKind.u64.wrap (b.toNat : Int)) = ((n * 256 + b.toNat : Nat) : Int) := by
  have hb := b.toNat_lt
  have e : IntKind.u64.wrap ((n : Int) * 256) = ((n * 256 : Nat) : Int) := by
    rw [show ((n : Int) * 256) = ((n * 256 : Nat) : Int) by simp]
    exact IntWalk.u64_in _ (by omega)
  have e2 : IntKind.u64.wrap (b.toNat : Int) = (b.toNat : Int) := IntWalk.u64_in _ (by omega)
  rw [e, e2, bits_join .u64 64 (by decide) (fun n h1 h2 => IntWalk.u64_in n (by constructor <;> omega)) 8 _ _ (by omega) (by omega) (by omega) (by omega) (by omega) (by omega)]
  simp
end Go.Cat
namespace Go.Proofs.Ytjdpljhhlmcbaaa
open Go.RowKit Go.Cat

set_option maxRecDepth 100000 in
theorem number_any (A : Option Addr) (c : Nat) (bs : List UInt8) (w : World) (hb : Bytes w A bs) (hl : bs.length ≤ 8) :
    Calls Try.prog 62 #[.slice A bs.length c] w fun e w' => e = .returned (.int .u64 (num bs : Int)) ∧ w = w' := by
  obtain ⟨n, hn⟩ : ∃ n, n = bs.length := ⟨_, rfl⟩
  rw [← hn] at hl ⊢
  have HN := Lib.hid hn
  have HB := Lib.hid hb
  clear hn hb
  go_enter Try.func62, Try.ntmps62
  go_wp2_with fail
  go_loopw [3, 8] (fun v iv wr => ∃ k : Nat, k ≤ n ∧ iv = .int .i64 k ∧ v = .int .u64 (num (bs.take k) : Int) ∧ wr = w) (fun _ iv _ => n - (intOf iv).toNat)
  case atStart => exact ⟨0, Nat.zero_le _, rfl, rfl, rfl⟩
  case round =>
    obtain ⟨k, hk, rfl, rfl, rfl⟩ := hrel
    by_cases hlt : k < n
    · have hkp : k < bs.length := by rw [← HN.out]; exact hlt
      have t1 : decide ((k : Int) < (n : Int)) = true := by simp; omega
      rcases HB.out with h | ⟨b, off, rfl, hc⟩
      · exfalso
        have : bs = [] := by simpa using h
        rw [this] at hkp
        simp at hkp
      have hc1 := hc k (by8 bs[k]) (by rw [List.getElem?_map, List.getElem?_eq_getElem hkp]; rfl)
      have hnt := num_take hkp
      have hlt2 := num_lt_take bs k
      have hp : 256 ^ k ≤ 256 ^ 7 := Nat.pow_le_pow_right (by omega) (by omega)
      obtain ⟨q, hq⟩ : ∃ q, q = bs[k] := ⟨_, rfl⟩
      obtain ⟨m, hm⟩ : ∃ m, m = num (bs.take k) := ⟨_, rfl⟩
      rw [← hq] at hc1 hnt
      rw [← hm] at hnt hlt2 ⊢
      simp only [by8] at hc1
      have hso := shl_or (n := m) (b := q) (by omega)
      have HNt := Lib.hid hnt
      have HSo := Lib.hid hso
      have hkI : (k : Int) < (n : Int) := by omega
      have hk0 : (0 : Int) ≤ (k : Int) := by omega
      clear hc hnt hlt2 hp hq hm hso hkp
      go_wp2_with fail
      go_roundw
      case rel =>
        exact ⟨k + 1, by omega, by go_num, by rw [HNt.out, ← HSo.out], trivial⟩
      case measure => simp [intOf]; omega
    · obtain rfl : k = n := by omega
      have t1 : decide ((k : Int) < (k : Int)) = false := by simp
      have he : bs.take k = bs := by rw [HN.out]; exact List.take_length
      rw [he]
      clear he
      go_wp2_with fail
      go_ret
      exact ⟨rfl, rfl⟩
end Go.Proofs.Ytjdpljhhlmcbaaa
