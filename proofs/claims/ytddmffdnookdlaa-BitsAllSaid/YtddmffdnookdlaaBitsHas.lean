/- The contracts of bits.size, right, Has, Fits and of the reference's Has, Size, Fits. Condition: a slice of at most 4096 bytes. -/
import Derived.Test.YtddmffdnookdlaaProg
import Derived.Test.YtddmffdnookdlaaLib
import Derived.Test.YtddmffdnookdlaaBitsPure
namespace Go.Proofs.Ytddmffdnookdlaa
open Go.RowKit Go.Cat Go.Cat.Bits

theorem bit_of (x : UInt8) (r : Nat) : (bits BinOp.and IntKind.u8 ((x.toNat : Int) / 2 ^ r) 1 == 1) = x.toNat.testBit r := by
  have hx : x.toNat / 2 ^ r < 256 := Nat.lt_of_le_of_lt (Nat.div_le_self _ _) x.toNat_lt
  have e : ((x.toNat : Int) / 2 ^ r) = ((x.toNat / 2 ^ r : Nat) : Int) := by simp
  rw [e, show (1 : Int) = ((1 : Nat) : Int) from rfl, u8_and_nat _ _ hx (by omega), Nat.and_one_is_mod, Nat.testBit_eq_decide_div_mod_eq]
  rw [Bool.eq_iff_iff]
  simp
  omega

theorem size_any (n : Int) (w : World) (h0 : 0 ≤ n) (h1 : n ≤ 4096) :
    Calls Try.prog 30 #[.int .i64 n] w fun e w' => e = .returned (.int .i64 (sz n : Int)) ∧ w = w' := by
  go_enter Try.func30, Try.ntmps30
  go_wp2
  go_ret
  exact ⟨ret_int (by unfold sz; omega), rfl⟩

theorem right_any (n : Int) (w : World) :
    Calls Try.prog 29 #[.int .i64 n] w fun e w' => e = .returned (.bool (decide (0 ≤ n ∧ n ≤ 4096))) ∧ w = w' := by
  by_cases h0 : 0 ≤ n
  · by_cases h1 : n ≤ 4096
    all_goals
      go_enter Try.func29, Try.ntmps29
      go_wp2
      go_ret
      exact ⟨ret_bool (by simp [h0, h1] <;> omega), rfl⟩
  · go_enter Try.func29, Try.ntmps29
    go_wp2
    go_ret
    exact ⟨ret_bool (by simp; omega), rfl⟩

theorem has_any (A : Option Addr) (n c : Nat) (bs : List UInt8) (i : Int) (w : World) (hb : Bytes w A bs) (hn : n = bs.length) (hm : bs.length ≤ 4096) (h63 : i ≤ 9223372036854775807) :
    Calls Try.prog 14 #[.slice A n c, .int .i64 i] w fun e w' => e = .returned (.bool (hasB bs i)) ∧ w = w' := by
  by_cases h0 : 0 ≤ i
  · obtain ⟨k, rfl⟩ := Int.eq_ofNat_of_zero_le h0
    by_cases hi : k / 8 < bs.length
    · subst hn
      obtain ⟨b, off, rfl, _, hc⟩ := hb.at_ (by omega)
      have hx := hc (k / 8) hi
      have hh : hasB bs (k : Int) = (bs.getD (k / 8) 0).toNat.testBit (k % 8) := by simp [hasB, bit]
      rw [hh]
      obtain ⟨x, hxx⟩ : ∃ x, x = bs.getD (k / 8) 0 := ⟨_, rfl⟩
      rw [← hxx] at hx ⊢
      clear hc hxx hh
      go_enter Try.func14, Try.ntmps14
      go_wp2
      go_ret
      exact ⟨ret_bool (bit_of _ _), rfl⟩
    · have hh : hasB bs (k : Int) = false := by simp only [hasB, Int.toNat_natCast, bit_out (Nat.le_of_not_lt hi), Bool.and_false]
      rw [hh]
      clear hh
      have hle : bs.length ≤ k / 8 := Nat.le_of_not_lt hi
      subst hn
      go_enter Try.func14, Try.ntmps14
      go_wp2
      go_ret
      exact ⟨rfl, rfl⟩
  · have hh : hasB bs i = false := by simp [hasB, h0]
    rw [hh]
    clear hh
    go_enter Try.func14, Try.ntmps14
    go_wp2
    go_ret
    exact ⟨rfl, rfl⟩

theorem rsize_any (n : Int) (w : World) (h1 : n ≤ 4096) :
    Calls Try.prog 22 #[.int .i64 n] w fun e w' => e = .returned (.int .i64 (sz n : Int)) ∧ w = w' := by
  go_enter Try.func22, Try.ntmps22
  go_wp2
  go_loop [3] (fun v => ∃ k : Nat, k ≤ sz n ∧ v = .int .i64 k) (fun v => sz n - (intOf v).toNat)
  case atStart => exact ⟨0, Nat.zero_le _, rfl⟩
  case round =>
    obtain ⟨k, hk, rfl⟩ := hrel
    have hs : sz n ≤ 512 := by unfold sz; omega
    by_cases hlt : 8 * (k : Int) < n
    · have hk' : k < sz n := by unfold sz; omega
      go_wp2
      go_round
      case rel => exact ⟨k + 1, by omega, by go_num⟩
      case measure => simp [intOf]; omega
    · have hk' : k = sz n := by unfold sz at hk ⊢; omega
      have H := Lib.hid hk'
      clear hk'
      go_wp2
      go_ret
      exact ⟨ret_int (by rw [H.out]), rfl⟩

theorem half (x : Nat) (k : Nat) : x / 2 ^ k / 2 = x / 2 ^ (k + 1) := by rw [Nat.div_div_eq_div_mul, Nat.pow_succ]

theorem rhas_any (A : Option Addr) (n c : Nat) (bs : List UInt8) (i : Int) (w : World) (hb : Bytes w A bs) (hn : n = bs.length) (hm : bs.length ≤ 4096) (h63 : i ≤ 9223372036854775807) :
    Calls Try.prog 24 #[.slice A n c, .int .i64 i] w fun e w' => e = .returned (.bool (hasB bs i)) ∧ w = w' := by
  by_cases h0 : 0 ≤ i
  · obtain ⟨k, rfl⟩ := Int.eq_ofNat_of_zero_le h0
    by_cases hi : k / 8 < bs.length
    · subst hn
      obtain ⟨b, off, rfl, _, hc⟩ := hb.at_ (by omega)
      have hx := hc (k / 8) hi
      have hh : hasB bs (k : Int) = (bs.getD (k / 8) 0).toNat.testBit (k % 8) := by simp [hasB, bit]
      rw [hh]
      obtain ⟨x, hxx⟩ : ∃ x, x = bs.getD (k / 8) 0 := ⟨_, rfl⟩
      rw [← hxx] at hx ⊢
      clear hc hxx hh
      go_enter Try.func24, Try.ntmps24
      go_wp2
      go_loop [5, 6] (fun v j => ∃ m : Nat, m ≤ k % 8 ∧ j = .int .i64 m ∧ v = .int .u8 ((x.toNat / 2 ^ m : Nat) : Int)) (fun _ j => k % 8 - (intOf j).toNat)
      case atStart => exact ⟨0, Nat.zero_le _, rfl, by simp⟩
      case round =>
        obtain ⟨m, hm', rfl, rfl⟩ := hrel
        obtain ⟨y, hy⟩ : ∃ y, y = x.toNat / 2 ^ m := ⟨_, rfl⟩
        have hy1 : y < 256 := by rw [hy]; exact Nat.lt_of_le_of_lt (Nat.div_le_self _ _) x.toNat_lt
        have hy2 : y / 2 = x.toNat / 2 ^ (m + 1) := by rw [hy]; exact half _ _
        rw [← hy]
        have H := Lib.hid hy
        have H2 := Lib.hid hy2
        clear hy hy2
        by_cases hlt : m < k % 8
        · go_wp2
          go_round
          case rel => exact ⟨m + 1, by omega, by go_num, by rw [← H2.out]; simp⟩
          case measure => simp [intOf]; omega
        · have he : m = k % 8 := by omega
          have H3 := Lib.hid he
          clear he
          go_wp2
          go_ret
          refine ⟨ret_bool ?_, rfl⟩
          rw [← H3.out, Nat.testBit_eq_decide_div_mod_eq, ← H.out, Bool.eq_iff_iff]
          simp
          omega
    · have hh : hasB bs (k : Int) = false := by simp only [hasB, Int.toNat_natCast, bit_out (Nat.le_of_not_lt hi), Bool.and_false]
      rw [hh]
      clear hh
      have hle : bs.length ≤ k / 8 := Nat.le_of_not_lt hi
      subst hn
      go_enter Try.func24, Try.ntmps24
      go_wp2
      go_ret
      exact ⟨rfl, rfl⟩
  · have hh : hasB bs i = false := by simp [hasB, h0]
    rw [hh]
    clear hh
    go_enter Try.func24, Try.ntmps24
    go_wp2
    go_ret
    exact ⟨rfl, rfl⟩
end Go.Proofs.Ytddmffdnookdlaa
