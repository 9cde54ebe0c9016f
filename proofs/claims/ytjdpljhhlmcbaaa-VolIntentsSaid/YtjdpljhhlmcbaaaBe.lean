/- The bytes of a number of a fixed width, the greatest first: plain. No condition. -/
import Derived.Test.YtjdpljhhlmcbaaaFixNum
namespace Go.Cat
open Go.RowKit
/-- The bytes of a number. -/
def be : Nat → Nat → List UInt8
  | _, 0 => []
  | n, w + 1 => be (n / 256) w ++ [UInt8.ofNat (n % 256)]
theorem be_length : ∀ (w n : Nat), (be n w).length = w
  | 0, _ => rfl
  | w + 1, n => by show (be (n / 256) w ++ [_]).length = w + 1; rw [List.length_append, be_length w]; rfl
theorem be_cons : ∀ (w n : Nat), be n (w + 1) = UInt8.ofNat (n / 256 ^ w % 256) :: be n w
  | 0, n => by show be (n / 256) 0 ++ [UInt8.ofNat (n % 256)] = _; rw [Nat.pow_zero, Nat.div_one]; rfl
  | w + 1, n => by
    have h : be n (w + 2) = be (n / 256) (w + 1) ++ [UInt8.ofNat (n % 256)] := rfl
    rw [h, be_cons w (n / 256), List.cons_append]
    have h2 : be n (w + 1) = be (n / 256) w ++ [UInt8.ofNat (n % 256)] := rfl
    rw [← h2, Nat.div_div_eq_div_mul, Nat.pow_succ, Nat.mul_comm 256]
theorem num_be : ∀ (w n : Nat), num (be n w) = n % 256 ^ w
  | 0, n => by rw [Nat.pow_zero, Nat.mod_one]; rfl
  | w + 1, n => by
    show num (be (n / 256) w ++ [UInt8.ofNat (n % 256)]) = _
    rw [num_snoc, num_be w, UInt8.toNat_ofNat', show 256 ^ (w + 1) = 256 * 256 ^ w by rw [Nat.pow_succ, Nat.mul_comm], Nat.mod_mul]
    omega
theorem num_be_of {w n : Nat} (h : n < 256 ^ w) : num (be n w) = n := by rw [num_be, Nat.mod_eq_of_lt h]
theorem be_num_take (bs : List UInt8) : ∀ k, k ≤ bs.length → be (num (bs.take k)) k = bs.take k
  | 0, _ => by simp [be]
  | k + 1, h => by
    have hk : k < bs.length := by omega
    have hb := bs[k].toNat_lt
    show be (num (bs.take (k + 1)) / 256) k ++ [UInt8.ofNat (num (bs.take (k + 1)) % 256)] = _
    rw [num_take hk, show (num (bs.take k) * 256 + bs[k].toNat) / 256 = num (bs.take k) by omega, show (num (bs.take k) * 256 + bs[k].toNat) % 256 = bs[k].toNat by omega, be_num_take bs k (by omega), List.take_succ_eq_append_getElem hk]
    congr 2
    exact UInt8.ofNat_toNat
theorem be_num (bs : List UInt8) : be (num bs) bs.length = bs := by
  have := be_num_take bs bs.length (Nat.le_refl _)
  rwa [List.take_length] at this
end Go.Cat
