/- The contracts of bits.Fits and of the reference's Fits: both tell whether bytes are a bitmap of n. Condition: a slice of at most 4096 bytes. -/
import Derived.Test.YtddmffdnookdlaaBitsHas
namespace Go.Proofs.Ytddmffdnookdlaa
open Go.RowKit Go.Cat Go.Cat.Bits

theorem right_yes (n : Int) (w : World) (h0 : 0 ≤ n) (h1 : n ≤ 4096) :
    Calls Try.prog 29 #[.int .i64 n] w fun e w' => e = .returned (.bool true) ∧ w = w' := by
  go_enter Try.func29, Try.ntmps29
  go_wp2
  go_ret
  exact ⟨rfl, rfl⟩

theorem right_no (n : Int) (w : World) (h : n < 0 ∨ 4096 < n) :
    Calls Try.prog 29 #[.int .i64 n] w fun e w' => e = .returned (.bool false) ∧ w = w' := by
  rcases h with h | h
  · go_enter Try.func29, Try.ntmps29
    go_wp2
    go_ret
    exact ⟨rfl, rfl⟩
  · go_enter Try.func29, Try.ntmps29
    go_wp2
    go_ret
    exact ⟨ret_bool (by simp; omega), rfl⟩

theorem has_false {A : Option Addr} {n c : Nat} {bs : List UInt8} {i : Int} {w : World} (hb : Bytes w A bs) (hn : n = bs.length) (hm : bs.length ≤ 4096) (h63 : i ≤ 9223372036854775807) (hh : hasB bs i = false) :
    Calls Try.prog 14 #[.slice A n c, .int .i64 i] w fun e w' => e = .returned (.bool false) ∧ w = w' := by
  have := has_any A n c bs i w hb hn hm h63
  rwa [hh] at this
theorem has_true {A : Option Addr} {n c : Nat} {bs : List UInt8} {i : Int} {w : World} (hb : Bytes w A bs) (hn : n = bs.length) (hm : bs.length ≤ 4096) (h63 : i ≤ 9223372036854775807) (hh : hasB bs i = true) :
    Calls Try.prog 14 #[.slice A n c, .int .i64 i] w fun e w' => e = .returned (.bool true) ∧ w = w' := by
  have := has_any A n c bs i w hb hn hm h63
  rwa [hh] at this
theorem rhas_false {A : Option Addr} {n c : Nat} {bs : List UInt8} {i : Int} {w : World} (hb : Bytes w A bs) (hn : n = bs.length) (hm : bs.length ≤ 4096) (h63 : i ≤ 9223372036854775807) (hh : hasB bs i = false) :
    Calls Try.prog 24 #[.slice A n c, .int .i64 i] w fun e w' => e = .returned (.bool false) ∧ w = w' := by
  have := rhas_any A n c bs i w hb hn hm h63
  rwa [hh] at this
theorem rhas_true {A : Option Addr} {n c : Nat} {bs : List UInt8} {i : Int} {w : World} (hb : Bytes w A bs) (hn : n = bs.length) (hm : bs.length ≤ 4096) (h63 : i ≤ 9223372036854775807) (hh : hasB bs i = true) :
    Calls Try.prog 24 #[.slice A n c, .int .i64 i] w fun e w' => e = .returned (.bool true) ∧ w = w' := by
  have := rhas_any A n c bs i w hb hn hm h63
  rwa [hh] at this

theorem fits_any (A : Option Addr) (m c : Nat) (bs : List UInt8) (n : Int) (w : World) (hb : Bytes w A bs) (hn : m = bs.length) (hm : bs.length ≤ 4096) :
    Calls Try.prog 23 #[.slice A m c, .int .i64 n] w fun e w' => e = .returned (.bool (fits bs n)) ∧ w = w' := by
  subst hn
  by_cases h : n < 0 ∨ 4096 < n
  · rw [fits_false (fun e => by have := e.lo; have := e.hi; omega)]
    go_enter Try.func23, Try.ntmps23
    go_wp2_with (go_at_call 29; refine (right_no _ _ h).mono ?_; rintro e w' ⟨rfl, rfl⟩)
    go_ret
    exact ⟨rfl, rfl⟩
  · have h0 : 0 ≤ n := by omega
    have h1 : n ≤ 4096 := by omega
    clear h
    by_cases hz : bs.length ≠ 0 ∧ bs.length ≠ sz n
    · obtain ⟨hz1, hz2⟩ := hz
      rw [fits_false (fun e => by have := e.len; omega)]
      have t1 : ((bs.length : Int) != 0) = true := by simp; simpa using hz1
      have t2 : ((bs.length : Int) != (sz n : Int)) = true := by rw [bne_iff_ne]; omega
      go_enter Try.func23, Try.ntmps23
      go_wp2_with (first
        | (go_at_call 29; refine (right_yes _ _ h0 h1).mono ?_; rintro e w' ⟨rfl, rfl⟩)
        | (go_at_call 30; refine (size_any _ _ h0 h1).mono ?_; rintro e w' ⟨rfl, rfl⟩))
      go_ret
      exact ⟨rfl, rfl⟩
    · have hl : bs.length = 0 ∨ bs.length = sz n := by omega
      have loop : ∀ t : Bool, (t = true → bs.length = sz n) → True := fun _ _ => trivial
      clear loop
      obtain ⟨N, hN⟩ : ∃ N, N = sz n := ⟨_, rfl⟩
      by_cases hz1 : bs.length = 0
      · have t1 : ((bs.length : Int) != 0) = false := by simp; simpa using hz1
        rw [fits_true ⟨h0, h1, hl, fun i _ => bit_out (by omega)⟩]
        have hz1' : bs.length ≤ 0 := by omega
        clear hl hz hz1 hN
        go_enter Try.func23, Try.ntmps23
        go_wp2_with (go_at_call 29; refine (right_yes _ _ h0 h1).mono ?_; rintro e w' ⟨rfl, rfl⟩)
        refine wp_loop_rounds 1 ?_
        rw [rounds_succ]
        go_wp2
        go_ret
        exact ⟨rfl, rfl⟩
      · have t1 : ((bs.length : Int) != 0) = true := by simp; simpa using hz1
        have hl' : bs.length = sz n := by omega
        have t2 : ((bs.length : Int) != (sz n : Int)) = false := by rw [bne_eq_false_iff_eq]; omega
        have HL := Lib.hid hl'
        clear hl hz hz1 hN hl'
        go_enter Try.func23, Try.ntmps23
        go_wp2_with (first
          | (go_at_call 29; refine (right_yes _ _ h0 h1).mono ?_; rintro e w' ⟨rfl, rfl⟩)
          | (go_at_call 30; refine (size_any _ _ h0 h1).mono ?_; rintro e w' ⟨rfl, rfl⟩))
        go_loop [5] (fun v => ∃ k : Nat, n.toNat ≤ k ∧ (k ≤ 8 * bs.length ∨ k = n.toNat) ∧ v = .int .i64 k ∧ ∀ j, n.toNat ≤ j → j < k → bit bs j = false) (fun v => 8 * bs.length - (intOf v).toNat)
        case atStart => exact ⟨n.toNat, by omega, by omega, by rw [Int.toNat_of_nonneg h0], fun j h1 h2 => by omega⟩
        case round =>
          obtain ⟨k, hk1, hk2, rfl, hk3⟩ := hrel
          have HK := Lib.hid hk3
          have hk4 : k ≤ 32768 := by omega
          clear hk2 hk3
          by_cases hlt : (k : Int) < 8 * (bs.length : Int)
          · rcases Bool.eq_false_or_eq_true (bit bs k) with hbt | hbt
            · have fin : fits bs n = false := fits_false (fun e => by have := e.free k hk1; rw [hbt] at this; cases this)
              have HF := Lib.hid fin
              clear fin
              have hh : hasB bs (k : Int) = true := by simpa [hasB] using hbt
              have HH := Lib.hid hh
              clear hbt hh
              go_wp2_with (go_at_call 14; refine (has_true hb rfl hm (by omega) HH.out).mono ?_; rintro e w' ⟨rfl, rfl⟩)
              go_ret
              exact ⟨ret_bool HF.out.symm, rfl⟩
            · have hh : hasB bs (k : Int) = false := by simpa [hasB] using hbt
              have HH := Lib.hid hh
              have HB := Lib.hid hbt
              clear hbt hh
              go_wp2_with (go_at_call 14; refine (has_false hb rfl hm (by omega) HH.out).mono ?_; rintro e w' ⟨rfl, rfl⟩)
              go_round
              case rel => exact ⟨k + 1, by omega, by omega, by go_num, fun j h1 h2 => by
                rcases Nat.lt_or_ge j k with h3 | h3
                · exact HK.out j h1 h3
                · obtain rfl : j = k := by omega
                  exact HB.out⟩
              case measure => simp [intOf]; omega
          · have fin : fits bs n = true := fits_true ⟨h0, h1, .inr HL.out, fun i hi => by
              rcases Nat.lt_or_ge i k with h3 | h3
              · exact HK.out i hi h3
              · exact bit_out (by omega)⟩
            have HF := Lib.hid fin
            clear fin
            go_wp2
            go_ret
            exact ⟨ret_bool HF.out.symm, rfl⟩

theorem rfits_any (A : Option Addr) (m c : Nat) (bs : List UInt8) (n : Int) (w : World) (hb : Bytes w A bs) (hn : m = bs.length) (hm : bs.length ≤ 4096) :
    Calls Try.prog 17 #[.slice A m c, .int .i64 n] w fun e w' => e = .returned (.bool (fits bs n)) ∧ w = w' := by
  subst hn
  by_cases hlo : n < 0
  · rw [fits_false (fun e => by have := e.lo; omega)]
    go_enter Try.func17, Try.ntmps17
    go_wp2_with fail
    go_ret
    exact ⟨rfl, rfl⟩
  · by_cases hhi : 4096 < n
    · rw [fits_false (fun e => by have := e.hi; omega)]
      have hd : decide (n < 0) = false := by simpa using hlo
      go_enter Try.func17, Try.ntmps17
      go_wp2_with fail
      go_ret
      exact ⟨rfl, rfl⟩
    · have h0 : 0 ≤ n := by omega
      have h1 : n ≤ 4096 := by omega
      have hd0 : decide (n < 0) = false := by simpa using hlo
      have hd1 : decide (4096 < n) = false := by simpa using hhi
      clear hlo hhi
      by_cases hz : bs.length ≠ 0 ∧ bs.length ≠ sz n
      · obtain ⟨hz1, hz2⟩ := hz
        rw [fits_false (fun e => by have := e.len; omega)]
        have t1 : (0 : Int) < (bs.length : Int) := by omega
        have t2 : ((bs.length : Int) != (sz n : Int)) = true := by rw [bne_iff_ne]; omega
        go_enter Try.func17, Try.ntmps17
        go_wp2_with (go_at_call 22; refine (rsize_any _ _ h1).mono ?_; rintro e w' ⟨rfl, rfl⟩)
        go_ret
        exact ⟨rfl, rfl⟩
      · have hl : bs.length = 0 ∨ bs.length = sz n := by omega
        by_cases hz1 : bs.length = 0
        · rw [fits_true ⟨h0, h1, hl, fun i _ => bit_out (by omega)⟩]
          have hz1' : bs.length ≤ 0 := by omega
          have t1 : decide ((0 : Int) < (bs.length : Int)) = false := by simp; simpa using hz1
          clear hl hz hz1
          go_enter Try.func17, Try.ntmps17
          go_wp2_with fail
          refine wp_loop_rounds 1 ?_
          rw [rounds_succ]
          go_wp2
          go_ret
          exact ⟨rfl, rfl⟩
        · have t1 : (0 : Int) < (bs.length : Int) := by omega
          have hl' : bs.length = sz n := by omega
          have t2 : ((bs.length : Int) != (sz n : Int)) = false := by rw [bne_eq_false_iff_eq]; omega
          have HL := Lib.hid hl'
          clear hl hz hz1 hl'
          go_enter Try.func17, Try.ntmps17
          go_wp2_with (go_at_call 22; refine (rsize_any _ _ h1).mono ?_; rintro e w' ⟨rfl, rfl⟩)
          go_loop [5] (fun v => ∃ k : Nat, n.toNat ≤ k ∧ (k ≤ 8 * bs.length ∨ k = n.toNat) ∧ v = .int .i64 k ∧ ∀ j, n.toNat ≤ j → j < k → bit bs j = false) (fun v => 8 * bs.length - (intOf v).toNat)
          case atStart => exact ⟨n.toNat, by omega, by omega, by rw [Int.toNat_of_nonneg h0], fun j h1 h2 => by omega⟩
          case round =>
            obtain ⟨k, hk1, hk2, rfl, hk3⟩ := hrel
            have HK := Lib.hid hk3
            have hk4 : k ≤ 32768 := by omega
            clear hk2 hk3
            by_cases hlt : (k : Int) < 8 * (bs.length : Int)
            · rcases Bool.eq_false_or_eq_true (bit bs k) with hbt | hbt
              · have fin : fits bs n = false := fits_false (fun e => by have := e.free k hk1; rw [hbt] at this; cases this)
                have HF := Lib.hid fin
                have hh : hasB bs (k : Int) = true := by simpa [hasB] using hbt
                have HH := Lib.hid hh
                clear hbt hh fin
                go_wp2_with (go_at_call 24; refine (rhas_true hb rfl hm (by omega) HH.out).mono ?_; rintro e w' ⟨rfl, rfl⟩)
                go_ret
                exact ⟨ret_bool HF.out.symm, rfl⟩
              · have hh : hasB bs (k : Int) = false := by simpa [hasB] using hbt
                have HH := Lib.hid hh
                have HB := Lib.hid hbt
                clear hbt hh
                go_wp2_with (go_at_call 24; refine (rhas_false hb rfl hm (by omega) HH.out).mono ?_; rintro e w' ⟨rfl, rfl⟩)
                go_round
                case rel => exact ⟨k + 1, by omega, by omega, by go_num, fun j h1 h2 => by
                  rcases Nat.lt_or_ge j k with h3 | h3
                  · exact HK.out j h1 h3
                  · obtain rfl : j = k := by omega
                    exact HB.out⟩
                case measure => simp [intOf]; omega
            · have fin : fits bs n = true := fits_true ⟨h0, h1, .inr HL.out, fun i hi => by
                rcases Nat.lt_or_ge i k with h3 | h3
                · exact HK.out i hi h3
                · exact bit_out (by omega)⟩
              have HF := Lib.hid fin
              clear fin
              go_wp2
              go_ret
              exact ⟨ret_bool HF.out.symm, rfl⟩
end Go.Proofs.Ytddmffdnookdlaa
