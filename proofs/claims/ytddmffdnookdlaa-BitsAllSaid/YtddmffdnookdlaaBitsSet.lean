/- The contracts of bits.Set and New. Condition: a slice of at most 4096 bytes. -/
import Derived.Test.YtddmffdnookdlaaBitsMake
import Derived.RegionTactic
import Derived.ChangeAlike
namespace Go.Proofs.Ytddmffdnookdlaa
open Go.RowKit Go.Cat Go.Cat.Bits

/-- What Set comes to: the bytes that are told (nothing where it is refused), and the error. -/
def SetTo (bs : List UInt8) (n i : Int) (on : Bool) (out : List UInt8) (e : Int) : Prop :=
  (¬ FitsP bs n ∧ out = [] ∧ e = 4) ∨ (FitsP bs n ∧ (i < 0 ∨ n ≤ i) ∧ out = [] ∧ e = 20) ∨
  (FitsP bs n ∧ 0 ≤ i ∧ i < n ∧ Rep out n (fun j => if j = i.toNat then on else bit bs j) ∧ e = 0)

theorem xor_of (x : UInt8) (r : Nat) (hr : r < 8) : bits BinOp.xor IntKind.u8 (x.toNat : Int) ((2 ^ r : Nat) : Int) = ((UInt8.ofNat (x.toNat ^^^ 2 ^ r)).toNat : Int) := by
  rw [u8_xor_nat _ _ x.toNat_lt (by have := Nat.pow_lt_pow_right (a := 2) (by omega) hr; omega), UInt8.toNat_ofNat', Nat.mod_eq_of_lt (xor_bits x r hr)]

theorem pow_mod8 (k : Nat) : (2 ^ (k % 8) % 256 : Int) = ((2 ^ (k % 8) : Nat) : Int) := by
  have h : (2 : Nat) ^ (k % 8) < 2 ^ 8 := Nat.pow_lt_pow_right (by omega) (by omega)
  have e : (2 ^ (k % 8) : Int) = ((2 ^ (k % 8) : Nat) : Int) := by simp
  rw [e]
  exact Int.emod_eq_of_lt (Int.natCast_nonneg _) (Int.ofNat_lt.2 h)

theorem set_any (A : Option Addr) (m c : Nat) (bs : List UInt8) (n i : Int) (on : Bool) (w : World) (hb : Bytes w A bs) (hn : m = bs.length) (hm : bs.length ≤ 4096) (h63 : i ≤ 9223372036854775807) :
    Calls Try.prog 19 #[.slice A m c, .int .i64 n, .int .i64 i, .bool on] w fun e w' => ∃ out z A' c', SetTo bs n i on out z ∧ e = .returned (.tuple #[.slice A' out.length c', .int .i64 z]) ∧ Bytes w' A' out ∧ Below w.heap.size w w' := by
  subst hn
  by_cases h : FitsP bs n
  · have h0 := h.lo
    have h1 := h.hi
    by_cases hi0 : i < 0
    · go_enter Try.func19, Try.ntmps19
      go_wp2_with (go_at_call 23; refine (fits_yes hb rfl hm h).mono ?_; rintro e w' ⟨rfl, rfl⟩)
      go_ret2
      exact ⟨[], 20, none, 0, .inr (.inl ⟨h, .inl hi0, rfl, rfl⟩), rfl, Bytes.nil_, Below.refl _ _⟩
    · by_cases hin : n ≤ i
      · have hd : decide (i < 0) = false := by simpa using hi0
        go_enter Try.func19, Try.ntmps19
        go_wp2_with (go_at_call 23; refine (fits_yes hb rfl hm h).mono ?_; rintro e w' ⟨rfl, rfl⟩)
        go_ret2
        exact ⟨[], 20, none, 0, .inr (.inl ⟨h, .inr hin, rfl, rfl⟩), rfl, Bytes.nil_, Below.refl _ _⟩
      · obtain ⟨k, rfl⟩ := Int.eq_ofNat_of_zero_le (by omega : 0 ≤ i)
        have hkn : k < n.toNat := by omega
        have hd : decide ((k : Int) < 0) = false := by simp
        have hkI : (k : Int) < n := by omega
        have hs : sz n ≤ 512 := by unfold sz; omega
        have hks : k / 8 < sz n := by unfold sz; omega
        clear hi0 hin
        go_enter Try.func19, Try.ntmps19
        go_wp2_with (first
          | (go_at_call 23; refine (fits_yes hb rfl hm h).mono ?_; rintro e w' ⟨rfl, rfl⟩)
          | (go_at_call 25; refine (whole_any _ _ _ bs _ _ hb rfl h).mono ?_; rintro e w1 ⟨out, hrep, rfl, hown, hbel⟩))
        have HR := Lib.hid hrep
        have hol : out.length = sz n := hrep.1
        have HL := Lib.hid hol
        have hob : Bytes w1 (some ⟨w.heap.size, 0, none⟩) out := Sees.of_own hown
        have hbo : hasB out (k : Int) = bit bs k := by simp only [hasB, Int.toNat_natCast]; rw [hrep.bit_lt hkn]; simp
        have hcell := hown.cellAt (k / 8) (by omega)
        obtain ⟨x, hx⟩ : ∃ x, x = out.getD (k / 8) 0 := ⟨_, rfl⟩
        have hcx : w1.cell? ⟨w.heap.size, k / 8, none⟩ = some (.int .u8 (x.toNat : Int)) := by
          rw [hcell, hx]; simp [by8, List.getD_eq_getElem?_getD, hol, hks]
        have hfz := hown.frozenAt (k / 8)
        have hsz1 := (hown.lt w.heap.size rfl).2
        have HX := Lib.hid hx
        have HBO := Lib.hid hbo
        clear hrep hol hcell hx hbo
        by_cases heq : bit bs k = on
        · have ht : (bit bs k == on) = true := by simp [heq]
          have HQ := Lib.hid heq
          have hcall : Calls Try.prog 14 #[.slice (some ⟨w.heap.size, 0, none⟩) (sz n) (sz n), .int .i64 (k : Int)] w1 fun e w' => e = .returned (.bool (bit bs k)) ∧ w1 = w' := by
            have := has_any (some ⟨w.heap.size, 0, none⟩) (sz n) (sz n) out (k : Int) w1 hob HL.out.symm (by rw [HL.out]; omega) h63
            rwa [HBO.out] at this
          have HCa := Lib.hid hcall
          clear hcall heq
          go_wp2_with (go_at_call 14; refine (HCa.out).mono ?_; rintro e w' ⟨rfl, rfl⟩)
          go_ret2
          refine ⟨out, 0, some ⟨w.heap.size, 0, none⟩, sz n, .inr (.inr ⟨h, by omega, hkI, ?_, rfl⟩), ret_slice2 HL.out.symm, hob, hbel⟩
          refine HR.out.congr fun j hj => ?_
          by_cases hjk : j = k
          · subst hjk; simp [HQ.out]
          · simp [hjk]
        · have ht : (bit bs k == on) = false := by simp [heq]
          have HQ := Lib.hid heq
          have hcall : Calls Try.prog 14 #[.slice (some ⟨w.heap.size, 0, none⟩) (sz n) (sz n), .int .i64 (k : Int)] w1 fun e w' => e = .returned (.bool (bit bs k)) ∧ w1 = w' := by
            have := has_any (some ⟨w.heap.size, 0, none⟩) (sz n) (sz n) out (k : Int) w1 hob HL.out.symm (by rw [HL.out]; omega) h63
            rwa [HBO.out] at this
          have HCa := Lib.hid hcall
          clear hcall heq
          go_wp2_with (go_at_call 14; refine (HCa.out).mono ?_; rintro e w' ⟨rfl, rfl⟩)
          go_region
          go_wp2
          go_ret2
          have hst := hown.stored (k / 8) (.int .u8 (bits BinOp.xor IntKind.u8 (x.toNat : Int) (2 ^ (k % 8) % 256)))
          have hp : (2 ^ (k % 8) % 256 : Int) = ((2 ^ (k % 8) : Nat) : Int) := pow_mod8 k
          rw [hp, xor_of x (k % 8) (by omega)] at hst ⊢
          have hset : (out.map by8).set (k / 8) (.int .u8 ((UInt8.ofNat (x.toNat ^^^ 2 ^ (k % 8))).toNat : Int)) = (out.set (k / 8) (UInt8.ofNat (x.toNat ^^^ 2 ^ (k % 8)))).map by8 := (List.map_set (f := by8)).symm
          rw [hset] at hst
          have hrep' : Rep (out.set (k / 8) (UInt8.ofNat (x.toNat ^^^ 2 ^ (k % 8)))) n (fun j => if j = k then on else bit bs j) := by
            refine HR.out.set hkn on fun r hr => ?_
            rw [set_xor x (k % 8) r (by omega), ← HX.out]
            by_cases hrk : r = k % 8
            · have hb0 : x.toNat.testBit (k % 8) = bit bs k := by rw [HX.out, ← HR.out.bit_lt hkn]; rfl
              simp only [if_pos hrk, hb0]
              have := HQ.out
              revert this
              cases bit bs k <;> cases on <;> simp
            · simp only [if_neg hrk]
          refine ⟨_, 0, some ⟨w.heap.size, 0, none⟩, sz n, .inr (.inr ⟨h, by omega, hkI, hrep', rfl⟩), ret_slice2 (by rw [hrep'.1]), ?_, ?_⟩
          · exact Sees.of_own hst.1
          · exact ((hbel.grown hst.2 (by omega) (fun g hg => by injection hg with hg; omega))).drew
  · go_enter Try.func19, Try.ntmps19
    go_wp2_with (go_at_call 23; refine (fits_not hb rfl hm h).mono ?_; rintro e w' ⟨rfl, rfl⟩)
    go_ret2
    exact ⟨[], 4, none, 0, .inl ⟨h, rfl, rfl⟩, rfl, Bytes.nil_, Below.refl _ _⟩
end Go.Proofs.Ytddmffdnookdlaa
