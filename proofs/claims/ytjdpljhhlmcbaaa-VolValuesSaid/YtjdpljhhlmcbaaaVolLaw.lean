/- The walk of the law VolKeys: it answers true, whatever comes in. No condition. -/
import Derived.Test.YtjdpljhhlmcbaaaVolWhat
import Derived.Deep.RegionHeld3
namespace Go.Proofs.Ytjdpljhhlmcbaaa
open Go.RowKit Go.Cat Go.Cat.Vol

theorem three {a b c p : Prop} (h : a ∨ b ∨ c) (ha : a → p) (hb : b → p) (hc : c → p) : p := h.elim ha fun h => h.elim hb hc

theorem kp_ways (I B k : Int) (hk : 0 ≤ k) : (kind I B k = 3 ∧ keyI I B (place I B k) = k) ∨ (kind I B k = 4 ∧ keyB I B (place I B k) = k) ∨ (kind I B k ≠ 3 ∧ kind I B k ≠ 4) := by
  by_cases hn : ¬ rightP I B ∨ I + B + 2 ≤ k
  · have := (kp_none hn).1
    right; right; omega
  · have hr : rightP I B := Classical.byContradiction fun e => hn (.inl e)
    have hb : k < I + B + 2 := by rcases Int.lt_or_le k (I + B + 2) with h | h; exact h; exact absurd (.inr h) hn
    by_cases h0 : k = 0
    · subst h0; have := (kp_0 hr).1; right; right; omega
    · by_cases h1 : k = 1
      · subst h1; have := (kp_1 hr).1; right; right; omega
      · by_cases h2 : k < I + 2
        · obtain ⟨e1, e2⟩ := kp_I hr (by omega) h2
          left; rw [e1, e2, keyI_in hr (by omega) (by omega)]; exact ⟨rfl, by omega⟩
        · obtain ⟨e1, e2⟩ := kp_B hr (by omega) hb
          right; left; rw [e1, e2, keyB_in hr (by omega) (by omega)]; exact ⟨rfl, by omega⟩

theorem place_in (I B k : Int) (hk : 0 ≤ k) : 0 ≤ place I B k ∧ place I B k ≤ 96 := by
  by_cases hn : ¬ rightP I B ∨ I + B + 2 ≤ k
  · have := (kp_none hn).2; omega
  · have hr : rightP I B := Classical.byContradiction fun e => hn (.inl e)
    have hb : k < I + B + 2 := by rcases Int.lt_or_le k (I + B + 2) with h | h; exact h; exact absurd (.inr h) hn
    obtain ⟨r1, r2, r3, r4⟩ := hr
    have hr : rightP I B := ⟨r1, r2, r3, r4⟩
    by_cases h0 : k = 0
    · subst h0; have := (kp_0 hr).2; omega
    · by_cases h1 : k = 1
      · subst h1; have := (kp_1 hr).2; omega
      · by_cases h2 : k < I + 2
        · have := (kp_I hr (by omega) h2).2; omega
        · have := (kp_B hr (by omega) hb).2; omega

theorem rightP49 : rightP 4 9 := ⟨by decide, by decide, by decide, by decide⟩

set_option maxRecDepth 100000 in
theorem vawake_any (w : World) : Calls Try.prog 15 #[] w fun e w' => e = .returned (.bool true) ∧ Below w.heap.size w w' := by
  have e1 := kp_B (k := 6) rightP49 (by decide) (by decide)
  have hw := fun W => vwhat_any 4 9 6 W (by decide) (by decide)
  rw [e1.1, e1.2] at hw
  have hb := fun W => vblock_any 4 9 0 W (by decide)
  rw [keyB_in rightP49 (by decide) (by decide)] at hb
  have HW := Lib.hid hw
  have HB := Lib.hid hb
  clear hw hb e1
  go_enter Try.func15, Try.ntmps15
  go_wp2_with fail
  refine (HW.out _).mono ?_
  rintro e w1 ⟨rfl, h1⟩
  obtain ⟨c0, c1, hB1⟩ := boxed2 h1
  go_wp2_with fail
  refine (HB.out _).mono ?_
  rintro e w2 ⟨rfl, h2⟩
  have hlt := World.block_lt_of_cell? w1 _ c0
  have c0' : w2.cell? ⟨w.heap.size, 0, none⟩ = some (.int .i64 4) := (h2.cell (p := ⟨w.heap.size, 0, none⟩) hlt).trans c0
  have c1' : w2.cell? ⟨w.heap.size, 1, none⟩ = some (.int .i64 9) := (h2.cell (p := ⟨w.heap.size, 1, none⟩) hlt).trans c1
  have hB2 := hB1.trans (h2.mono hB1.size)
  clear c0 c1 h1 hB1
  go_wp2_with fail
  refine (vright_yes _ rightP49).mono ?_
  rintro e w3 ⟨rfl, h3⟩
  go_wp2
  go_ret
  exact ⟨rfl, hB2.trans (h3.mono hB2.size)⟩

/-- The two boxes of the law, in a world behind the call's own. -/
theorem four_below {w0 w1 w2 : World} {g : Nat} {I B : Int}
    (h : w1.cell? ⟨g, 0, none⟩ = some (.int .i64 I) ∧ w1.cell? ⟨g, 1, none⟩ = some (.int .i64 B) ∧ w1.cell? ⟨g + 1, 0, none⟩ = some (.int .i64 I) ∧ w1.cell? ⟨g + 1, 1, none⟩ = some (.int .i64 B) ∧ Below w0.heap.size w0 w1)
    (hb : Below w1.heap.size w1 w2) :
    w2.cell? ⟨g, 0, none⟩ = some (.int .i64 I) ∧ w2.cell? ⟨g, 1, none⟩ = some (.int .i64 B) ∧ w2.cell? ⟨g + 1, 0, none⟩ = some (.int .i64 I) ∧ w2.cell? ⟨g + 1, 1, none⟩ = some (.int .i64 B) ∧ Below w0.heap.size w0 w2 := by
  obtain ⟨a, b, c, d, e⟩ := h
  refine ⟨?_, ?_, ?_, ?_, e.trans (hb.mono e.size)⟩
  · rw [hb.cell (World.block_lt_of_cell? w1 _ a), a]
  · rw [hb.cell (World.block_lt_of_cell? w1 _ b), b]
  · rw [hb.cell (World.block_lt_of_cell? w1 _ c), c]
  · rw [hb.cell (World.block_lt_of_cell? w1 _ d), d]

theorem four_new (w : World) (I B : Int) (t u : TypeId) :
    ((w.alloc (.cells #[.int .i64 I, .int .i64 B] t)).alloc (.cells #[.int .i64 I, .int .i64 B] u)).cell? ⟨w.heap.size, 0, none⟩ = some (.int .i64 I) ∧
    ((w.alloc (.cells #[.int .i64 I, .int .i64 B] t)).alloc (.cells #[.int .i64 I, .int .i64 B] u)).cell? ⟨w.heap.size, 1, none⟩ = some (.int .i64 B) ∧
    ((w.alloc (.cells #[.int .i64 I, .int .i64 B] t)).alloc (.cells #[.int .i64 I, .int .i64 B] u)).cell? ⟨w.heap.size + 1, 0, none⟩ = some (.int .i64 I) ∧
    ((w.alloc (.cells #[.int .i64 I, .int .i64 B] t)).alloc (.cells #[.int .i64 I, .int .i64 B] u)).cell? ⟨w.heap.size + 1, 1, none⟩ = some (.int .i64 B) ∧
    Below w.heap.size w ((w.alloc (.cells #[.int .i64 I, .int .i64 B] t)).alloc (.cells #[.int .i64 I, .int .i64 B] u)) := by
  obtain ⟨a, b, e⟩ := boxed2 (Below.alloc (Below.refl (w.alloc (.cells #[.int .i64 I, .int .i64 B] t)).heap.size _) (Nat.le_refl _) (.cells #[.int .i64 I, .int .i64 B] u))
  exact ⟨a, b, by simp, by simp, e⟩

set_option maxRecDepth 100000 in
theorem keys_walk (I B k i : Int) (w : World) (hk0 : 0 ≤ k) (hk1 : k ≤ 4294967295) (hi : -9223372036854775808 ≤ i ∧ i ≤ 9223372036854775807) :
    Calls Try.prog 3 #[.agg #[.int .i64 I, .int .i64 B], .int .u32 k, .int .i64 i] w fun e w' => e = .returned (.bool true) ∧ Below w.heap.size w w' := by
  have H0 := four_new w I B 23 25
  have E1 : (rightB I B == rightB I B) = true := by simp
  have E2 : (keyI I B i == keyI I B i) = true := by simp
  have E3 : (keyB I B i == keyB I B i) = true := by simp
  have E2' : (keyI I B i != keyI I B i) = false := by simp
  have E3' : (keyB I B i != keyB I B i) = false := by simp
  have E4 : (kind I B k == kind I B k) = true := by simp
  have E5 : (place I B k == place I B k) = true := by simp
  have E4' : (kind I B k != kind I B k) = false := by simp
  have E5' : (place I B k != place I B k) = false := by simp
  go_enter Try.func3, Try.ntmps3
  go_wp2_with fail
  refine (vwhat_any I B k _ hk0 hk1).mono ?_
  rintro e w1 ⟨rfl, h1⟩
  have F1 := four_below H0 h1
  obtain ⟨a1, b1, c1, d1, e1⟩ := F1
  clear H0 h1
  go_wp2_with fail
  refine (rwhat_any I B k _ hk0).mono ?_
  rintro e w2 ⟨rfl, h2⟩
  obtain ⟨a2, b2, c2, d2, e2⟩ := four_below ⟨a1, b1, c1, d1, e1⟩ h2
  clear a1 b1 c1 d1 e1 h2
  go_wp2_with fail
  go_region_held3 (fun w' => w'.cell? ⟨w.heap.size, 0, none⟩ = some (.int .i64 I) ∧ w'.cell? ⟨w.heap.size, 1, none⟩ = some (.int .i64 B) ∧ w'.cell? ⟨w.heap.size + 1, 0, none⟩ = some (.int .i64 I) ∧ w'.cell? ⟨w.heap.size + 1, 1, none⟩ = some (.int .i64 B) ∧ Below w.heap.size w w')
    (first | exact ⟨a2, b2, c2, d2, e2.drew⟩ | exact four_below (by assumption) h3 | exact four_below (by assumption) h4 | exact four_below (by assumption) h5 | exact four_below (by assumption) h6 | exact four_below (by assumption) h7 | exact four_below (by assumption) h8)
    (first
      | (go_at_call 9; refine (vright_any I B _).mono ?_; rintro e w3 ⟨rfl, h3⟩)
      | (go_at_call 10; refine (rright_any I B _).mono ?_; rintro e w4 ⟨rfl, h4⟩)
      | (go_at_call 11; refine (vinode_any I B i _ hi).mono ?_; rintro e w5 ⟨rfl, h5⟩)
      | (go_at_call 12; refine (rinode_any I B i _ hi).mono ?_; rintro e w6 ⟨rfl, h6⟩)
      | (go_at_call 13; refine (vblock_any I B i _ hi).mono ?_; rintro e w7 ⟨rfl, h7⟩)
      | (go_at_call 14; refine (rblock_any I B i _ hi).mono ?_; rintro e w8 ⟨rfl, h8⟩))
  rename_i FS
  obtain ⟨a8, b8, c8, d8, e8⟩ := FS
  have hlen := World.block_lt_of_cell? _ _ c8
  clear a2 b2 c2 d2 e2 h3 h4 h5 h6 h7
  refine three (kp_ways I B k hk0) ?ky1 ?ky2 ?ky3
  case' ky1 =>
    rintro ⟨hk3, hkp⟩
    have T1 : (kind I B k == 3) = true := by simp [hk3]
    have T2 : (kind I B k == 4) = false := by simp [hk3]
    have T3 : (k != k) = false := by simp
    have hc := fun W => vinode_any I B (place I B k) W (by have := place_in I B k hk0; omega)
    rw [hkp] at hc
    have HC := Lib.hid hc
    clear hc hkp hk3
    go_wp2_with (go_at_call 11; refine (HC.out _).mono ?_; rintro e w9 ⟨rfl, h9⟩)
  case' ky2 =>
    rintro ⟨hk4, hkp⟩
    have T1 : (kind I B k == 3) = false := by simp [hk4]
    have T2 : (kind I B k == 4) = true := by simp [hk4]
    have T3 : (k != k) = false := by simp
    have hc := fun W => vblock_any I B (place I B k) W (by have := place_in I B k hk0; omega)
    rw [hkp] at hc
    have HC := Lib.hid hc
    clear hc hkp hk4
    go_wp2_with (go_at_call 13; refine (HC.out _).mono ?_; rintro e w9 ⟨rfl, h9⟩)
  case' ky3 =>
    rintro ⟨hk3, hk4⟩
    have T1 : (kind I B k == 3) = false := by simpa using hk3
    have T2 : (kind I B k == 4) = false := by simpa using hk4
    have h9 := Below.refl (0 : Nat) w
    go_wp2_with fail
  all_goals
    refine (vawake_any _).mono ?_
    rintro e w10 ⟨rfl, h10⟩
    go_wp2
    go_ret
    first | exact ⟨rfl, (e8.trans (h9.mono e8.size)).trans (h10.mono (Nat.le_trans e8.size h9.size))⟩ | exact ⟨rfl, e8.trans (h10.mono e8.size)⟩
end Go.Proofs.Ytjdpljhhlmcbaaa
