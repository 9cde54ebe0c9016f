/- The walk of the law BitsAre: it answers true, whatever comes in. No condition. -/
import Derived.Test.YtddmffdnookdlaaBitsTakes
namespace Go.Proofs.Ytddmffdnookdlaa
open Go.RowKit Go.Cat Go.Cat.Bits

theorem new_yes (n : Int) (w : World) (h0 : 0 ≤ n) (h1 : n ≤ 4096) :
    Calls Try.prog 21 #[.int .i64 n] w fun e w' => e = .returned (.tuple #[.slice (some ⟨w.heap.size, 0, none⟩) (sz n) (sz n), .int .i64 0]) ∧ Bytes w' (some ⟨w.heap.size, 0, none⟩) (List.replicate (sz n) 0) ∧ Below w.heap.size w w' := by
  obtain ⟨i0, hi, hz0, hz1, hz2⟩ := info_parts info_u8
  have hs : sz n ≤ 512 := by unfold sz; omega
  go_enter Try.func21, Try.ntmps21
  go_wp2_with (first
    | (go_at_call 29; refine (right_yes _ _ h0 h1).mono ?_; rintro e w' ⟨rfl, rfl⟩)
    | (go_at_call 30; refine (size_any _ _ h0 h1).mono ?_; rintro e w' ⟨rfl, rfl⟩)
    | (at_make; refine wpList_make_full _ rfl _ _ 22 rfl w.heap.size 5 i0 (.int .u8 0) 1 Try.underlying22 hi hz0 hz1 _ _ _ _ (sz n) rfl rfl rfl rfl ?b1 ?b2 ?b3 ?_))
  case b1 => rw [hz2]; omega
  case b2 => unfold maxLen; omega
  case b3 => exact Nat.le_refl _
  intro w1 hown1 hg1
  have hrow : w1.ownsRow w.heap.size 5 1 (.slice (some ⟨w.heap.size, 0, none⟩) (sz n) (sz n)) (sz n) ((List.replicate (sz n) (0 : UInt8)).map by8) := by
    have := hown1
    rw [toList_madeCells_one] at this
    simpa [by8] using this
  have hB1 : Below w.heap.size w w1 := (Below.refl _ _).grown hg1 (Nat.le_refl _) (fun k hk => by cases hk)
  clear hown1 hg1
  go_wp2
  go_ret2
  exact ⟨rfl, Sees.of_own hrow, hB1⟩

theorem new_no (n : Int) (w : World) (h : n < 0 ∨ 4096 < n) :
    Calls Try.prog 21 #[.int .i64 n] w fun e w' => e = .returned (.tuple #[.slice none 0 0, .int .i64 1]) ∧ w = w' := by
  go_enter Try.func21, Try.ntmps21
  go_wp2_with (go_at_call 29; refine (right_no _ _ h).mono ?_; rintro e w' ⟨rfl, rfl⟩)
  go_ret2
  exact ⟨rfl, rfl⟩

theorem zero_had {n : Int} (h0 : 0 ≤ n) (h1 : n ≤ 4096) : had (List.replicate (sz n) 0) n = [] := by
  have hr := rep_zero n
  rw [had_yes (hr.fits h0 h1), nums_congr (q := fun _ => false) (fun j hj => by rw [hr.2]; simp)]
  simp [nums]

theorem SetTo.small {bs : List UInt8} {n i : Int} {on : Bool} {o : List UInt8} {e : Int} (h : SetTo bs n i on o e) : o.length ≤ 512 := by
  rcases h with ⟨_, rfl, _⟩ | ⟨_, _, rfl, _⟩ | ⟨a, _, _, r, _⟩
  · simp
  · simp
  · exact rep_len r a.hi

theorem three {a b c p : Prop} (h : a ∨ b ∨ c) (ha : a → p) (hb : b → p) (hc : c → p) : p := h.elim ha fun h => h.elim hb hc

theorem are_walk (A : Option Addr) (m c : Nat) (bs : List UInt8) (n i : Int) (w : World) (hb : Bytes w A bs) (hm : m = bs.length) (hi : -9223372036854775808 ≤ i ∧ i ≤ 9223372036854775807) :
    Calls Try.prog 6 #[.slice A m c, .int .i64 n, .int .i64 i] w fun e w' => e = .returned (.bool true) ∧ Below w.heap.size w w' := by
  subst hm
  obtain ⟨hi1, hi2⟩ := hi
  by_cases h1 : 600 < bs.length
  · have t1 : (600 : Int) < (bs.length : Int) := by omega
    go_enter Try.func6, Try.ntmps6
    go_wp2_with (go_at_call 7; refine (awake_any _).mono ?_; rintro e w1 ⟨rfl, hB1⟩)
    go_ret
    exact ⟨rfl, hB1⟩
  · go_enter Try.func6, Try.ntmps6
    go_wp2_with fail
    refine (set_any A bs.length c bs n i _ w hb rfl (by omega) hi2).mono ?_
    rintro e w1 ⟨x, z1, X, cx, ht1, rfl, hx1, hB1⟩
    go_wp2_with fail
    refine (rset_any A bs.length c bs n i _ w1 (hb.below hB1) rfl (by omega) hi2).mono ?_
    rintro e w2 ⟨y, z2, Y, cy, ht2, rfl, hy2, hB2⟩
    have hC2 := hB1.trans (hB2.mono hB1.size)
    obtain ⟨rfl, rfl⟩ := SetTo.uniq ht1 ht2
    have hxl := SetTo.small ht1
    have hx2 := hx1.below hB2
    have hb2 := hb.below hC2
    clear ht1 ht2 hx1 hB1 hB2
    have tail : ∀ w3 : World, Below w2.heap.size w2 w3 → (Bytes w3 X x ∧ Bytes w3 Y x ∧ Bytes w3 A bs ∧ Below w.heap.size w w3) := fun w3 hB3 => ⟨hx2.below hB3, hy2.below hB3, hb2.below hB3, hC2.trans (hB3.mono hC2.size)⟩
    have HT := Lib.hid tail
    clear tail
    have T1 : (z1 == z1) = true := by simp
    refine three (show n < 0 ∨ (0 ≤ n ∧ 4096 < n) ∨ (0 ≤ n ∧ n ≤ 4096) by omega) ?way1 ?way2 ?way3
    case' way1 =>
      intro hr
      have d3 : decide (0 ≤ n) = false := by simp; omega
      go_wp2_with fail
      refine (new_no n w2 (.inl hr)).mono ?_
      rintro e w3 ⟨rfl, rfl⟩
      obtain ⟨hx3, hy3, hb3, hC3⟩ := HT.out w2 (Below.refl _ _)
      clear HT hx2 hy2 hb2 hC2
      go_wp2_with fail
    case' way2 =>
      rintro ⟨hr0, hr⟩
      have d3 : decide (0 ≤ n) = true := by simp; omega
      have d4 : decide (n ≤ 4096) = false := by simp; omega
      go_wp2_with fail
      refine (new_no n w2 (.inr hr)).mono ?_
      rintro e w3 ⟨rfl, rfl⟩
      obtain ⟨hx3, hy3, hb3, hC3⟩ := HT.out w2 (Below.refl _ _)
      clear HT hx2 hy2 hb2 hC2
      go_wp2_with fail
    case' way3 =>
      rintro ⟨hr0, hr⟩
      have d3 : decide (0 ≤ n) = true := by simp; omega
      have d4 : decide (n ≤ 4096) = true := by simp; omega
      go_wp2_with fail
      refine (new_yes n w2 hr0 hr).mono ?_
      rintro e w3 ⟨rfl, hz3, hB3⟩
      obtain ⟨hx3, hy3, hb3, hC3⟩ := HT.out w3 hB3
      have hcnt := count_any (some ⟨w2.heap.size, 0, none⟩) (sz n) (sz n) (List.replicate (sz n) 0) n w3 hz3 (by simp) (by simp; unfold sz; omega)
      rw [zero_had hr0 hr] at hcnt
      have HCnt := Lib.hid hcnt
      have t5 : ((sz n : Int) != (sz n : Int)) = false := by simp
      clear HT hx2 hy2 hb2 hC2 hcnt hz3
      go_wp2_with (first
        | (go_at_call 22; refine (rsize_any _ _ hr).mono ?_; rintro e w' ⟨rfl, rfl⟩)
        | (go_at_call 16; refine (HCnt.out).mono ?_; rintro e w' ⟨rfl, rfl⟩))
    all_goals
      refine (fits_any A bs.length c bs n _ hb3 rfl (by omega)).mono ?_
      rintro e w' ⟨rfl, rfl⟩
      go_wp2_with fail
      refine (rfits_any A bs.length c bs n _ hb3 rfl (by omega)).mono ?_
      rintro e w' ⟨rfl, rfl⟩
      have E1 : (fits bs n == fits bs n) = true := by simp
      go_wp2_with fail
      refine (has_any A bs.length c bs i _ hb3 rfl (by omega) hi2).mono ?_
      rintro e w' ⟨rfl, rfl⟩
      go_wp2_with fail
      refine (rhas_any A bs.length c bs i _ hb3 rfl (by omega) hi2).mono ?_
      rintro e w' ⟨rfl, rfl⟩
      have E2 : (hasB bs i == hasB bs i) = true := by simp
      go_wp2_with fail
      refine (same8_any X Y x.length x.length cx cy x x _ hx3 hy3 rfl rfl (by omega) (by omega)).mono ?_
      rintro e w' ⟨rfl, k5, rfl⟩
      have E3 : decide (x = x) = true := by simp
      rw [E3]
      go_wp2_with fail
      refine (count_any A bs.length c bs n (World.drewN _ k5) hb3 rfl (by omega)).mono ?_
      rintro e w' ⟨rfl, rfl⟩
      go_wp2_with fail
      refine (rlist_any A bs.length c bs n (World.drewN _ k5) hb3 rfl (by omega)).mono ?_
      rintro e w4 ⟨v4, rfl, ho4, hB4⟩
      obtain ⟨A4, c4, rfl, _⟩ := own_form ho4
      have hC4 := (below_drewN hC3 k5).trans (hB4.mono hC3.size)
      have hb4 := hb.below hC4
      have E4 : (((had bs n).length : Int) == ((had bs n).length : Int)) = true := by simp
      have hHl := had_le bs n
      clear ho4 hB4 hC3 hb3 hx3 hy3
      go_wp2_with fail
      refine (list_any A bs.length c bs n _ hb4 rfl (by omega)).mono ?_
      rintro e w5 ⟨v5, rfl, ho5, hB5⟩
      obtain ⟨A5, c5, rfl, hs5⟩ := own_form ho5
      have hC5 := hC4.trans (hB5.mono hC4.size)
      have hb5 := hb.below hC5
      clear ho5 hB5
      go_wp2_with fail
      refine (rlist_any A bs.length c bs n _ hb5 rfl (by omega)).mono ?_
      rintro e w6 ⟨v6, rfl, ho6, hB6⟩
      obtain ⟨A6, c6, rfl, hs6⟩ := own_form ho6
      have hC6 := hC5.trans (hB6.mono hC5.size)
      have hi5 : Ints w6 A5 (had bs n) := Sees.below hs5 hB6
      have hi6 : Ints w6 A6 (had bs n) := hs6
      clear ho6 hB6 hs5 hs6
      go_wp2_with fail
      refine (sameI_any A5 A6 _ _ c5 c6 (had bs n) (had bs n) _ hi5 hi6 rfl rfl (by omega) (by omega)).mono ?_
      rintro e w' ⟨rfl, k7, rfl⟩
      have E5 : decide (had bs n = had bs n) = true := by simp
      rw [E5]
      go_wp2_with fail
      refine (awake_any _).mono ?_
      rintro e w7 ⟨rfl, hB7⟩
      go_wp2
      go_ret
      exact ⟨rfl, (below_drewN hC6 _).trans (hB7.mono hC6.size)⟩
end Go.Proofs.Ytddmffdnookdlaa
