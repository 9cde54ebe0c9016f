/- The contract of bits.Count: how many bits are had. Condition: a slice of at most 4096 bytes. -/
import Derived.Test.YtddmffdnookdlaaBitsList
import Derived.Test.YtddmffdnookdlaaBitsShelf
namespace Go.Cat.Bits

theorem ones8 : ∀ x, x < 256 → Lib.onesCount x = ((List.range 8).filter (fun r => Nat.testBit x r)).length := by decide +kernel

theorem nums_more (p : Nat → Bool) (m k : Nat) : (nums p (m + k)).length = (nums p m).length + ((List.range k).filter (fun r => p (m + r))).length := by
  simp only [nums, List.length_map]
  rw [List.range_add, List.filter_append, List.length_append, List.filter_map, List.length_map]
  rfl

theorem nums_byte (bs : List UInt8) (k : Nat) : (nums (bit bs) (8 * (k + 1))).length = (nums (bit bs) (8 * k)).length + Lib.onesCount (bs.getD k 0).toNat := by
  rw [show 8 * (k + 1) = 8 * k + 8 from by omega, nums_more, ones8 _ (bs.getD k 0).toNat_lt]
  congr 2
  apply List.filter_congr
  intro r hr
  have hr : r < 8 := by simpa using hr
  unfold bit
  rw [show (8 * k + r) / 8 = k from by omega, show (8 * k + r) % 8 = r from by omega]

theorem nums_cut {bs : List UInt8} {n : Int} (h : FitsP bs n) : (nums (bit bs) (8 * bs.length)).length = (nums (bit bs) n.toNat).length := by
  rcases Nat.le_total n.toNat (8 * bs.length) with hle | hle
  · obtain ⟨d, hd⟩ := Nat.exists_eq_add_of_le hle
    rw [hd, nums_more]
    have : (List.range d).filter (fun r => bit bs (n.toNat + r)) = [] := by
      rw [List.filter_eq_nil_iff]; intro r _; rw [h.free _ (by omega)]; simp
    rw [this]; rfl
  · obtain ⟨d, hd⟩ := Nat.exists_eq_add_of_le hle
    rw [hd, nums_more]
    have : (List.range d).filter (fun r => bit bs (8 * bs.length + r)) = [] := by
      rw [List.filter_eq_nil_iff]; intro r _; rw [bit_out (by omega)]; simp
    rw [this]; rfl
end Go.Cat.Bits
namespace Go.Proofs.Ytddmffdnookdlaa
open Go.RowKit Go.Cat Go.Cat.Bits

theorem count_any (A : Option Addr) (m c : Nat) (bs : List UInt8) (n : Int) (w : World) (hb : Bytes w A bs) (hn : m = bs.length) (hm : bs.length ≤ 4096) :
    Calls Try.prog 16 #[.slice A m c, .int .i64 n] w fun e w' => e = .returned (.int .i64 ((had bs n).length : Int)) ∧ w = w' := by
  subst hn
  by_cases h : FitsP bs n
  · rw [had_yes h, ← nums_cut h]
    go_enter Try.func16, Try.ntmps16
    go_wp2_with (go_at_call 23; refine (fits_yes hb rfl hm h).mono ?_; rintro e w' ⟨rfl, rfl⟩)
    go_loop [5, 14] (fun s i => ∃ k : Nat, k ≤ bs.length ∧ i = .int .i64 k ∧ s = .int .i64 ((nums (bit bs) (8 * k)).length : Int)) (fun _ i => bs.length - (intOf i).toNat)
    case atStart => exact ⟨0, Nat.zero_le _, rfl, rfl⟩
    case round =>
      obtain ⟨k, hk, rfl, rfl⟩ := hrel
      have hle := nums_le (bit bs) (8 * k)
      obtain ⟨s, hs⟩ : ∃ s, s = (nums (bit bs) (8 * k)).length := ⟨_, rfl⟩
      rw [← hs] at hle ⊢
      by_cases hlt : k < bs.length
      · obtain ⟨b, off, rfl, _, hc⟩ := hb.at_ (by omega)
        have e1 := hc k hlt
        clear hc
        have hB := nums_byte bs k
        have hle2 := nums_le (bit bs) (8 * (k + 1))
        obtain ⟨x, hx⟩ : ∃ x, x = bs.getD k 0 := ⟨_, rfl⟩
        rw [← hx] at e1 hB
        rw [← hs] at hB
        have hx1 : (0 : Int) ≤ (x.toNat : Int) := by omega
        have hx2 : (x.toNat : Int) ≤ 255 := by have := x.toNat_lt; omega
        have hcall := fun W => Try.bits_OnesCount8 (x.toNat : Int) W hx1 hx2
        simp only [Int.toNat_natCast] at hcall
        obtain ⟨t, ht⟩ : ∃ t, t = Lib.onesCount x.toNat := ⟨_, rfl⟩
        rw [← ht] at hB hcall
        have hst : s + t ≤ 8 * (k + 1) := by omega
        have HB := Lib.hid hB
        have HCa := Lib.hid hcall
        clear hB hcall ht hs hx hle2
        go_wp2_with (go_at_call 28; refine (HCa.out _).mono ?_; rintro e w' ⟨rfl, rfl⟩)
        go_round
        case rel => exact ⟨k + 1, by omega, by go_num, by rw [HB.out]; go_num⟩
        case measure => simp [intOf]; omega
      · obtain rfl : k = bs.length := by omega
        have HS := Lib.hid hs
        clear hs
        go_wp2
        go_ret
        exact ⟨ret_int (by rw [HS.out]), rfl⟩
  · rw [had_no h]
    go_enter Try.func16, Try.ntmps16
    go_wp2_with (go_at_call 23; refine (fits_not hb rfl hm h).mono ?_; rintro e w' ⟨rfl, rfl⟩)
    go_ret
    exact ⟨rfl, rfl⟩
end Go.Proofs.Ytddmffdnookdlaa
