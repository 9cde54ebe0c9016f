/- The contracts of vol.What and of the reference's What. Condition: a key is a uint32. -/
import Derived.Test.YtjdpljhhlmcbaaaVolKeys
namespace Go.Proofs.Ytjdpljhhlmcbaaa
open Go.RowKit Go.Cat Go.Cat.Vol

theorem ret_two {a b c d : Int} (h : a = c) (h' : b = d) : Ending.returned (.tuple #[.int .i64 a, .int .i64 b]) = .returned (.tuple #[.int .i64 c, .int .i64 d]) := by rw [h, h']

theorem kp_none {I B k : Int} (h : ¬ rightP I B ∨ I + B + 2 ≤ k) : kind I B k = 0 ∧ place I B k = 0 := by unfold kind place; rw [if_pos h, if_pos h]; exact ⟨rfl, rfl⟩
theorem kp_in {I B k : Int} (h : rightP I B) (h2 : k < I + B + 2) : ¬ (¬ rightP I B ∨ I + B + 2 ≤ k) := by
  rintro (e | e)
  · exact e h
  · omega
theorem kp_0 {I B : Int} (h : rightP I B) : kind I B 0 = 1 ∧ place I B 0 = 0 := by
  have h0 := kp_in (k := 0) h (by have := h.1; have := h.2.2.1; omega)
  simp only [kind, place, if_neg h0]
  simp
theorem kp_1 {I B : Int} (h : rightP I B) : kind I B 1 = 2 ∧ place I B 1 = 0 := by
  have h0 := kp_in (k := 1) h (by have := h.1; have := h.2.2.1; omega)
  simp only [kind, place, if_neg h0]
  simp
theorem kp_I {I B k : Int} (h : rightP I B) (h1 : 2 ≤ k) (h2 : k < I + 2) : kind I B k = 3 ∧ place I B k = k - 1 := by
  have h0 := kp_in (k := k) h (by have := h.2.2.1; omega)
  have a0 : ¬ k = 0 := by omega
  have a1 : ¬ k = 1 := by omega
  simp only [kind, place, if_neg h0, if_neg a0, if_neg a1, if_pos h2]
  simp
theorem kp_B {I B k : Int} (h : rightP I B) (h1 : I + 2 ≤ k) (h2 : k < I + B + 2) : kind I B k = 4 ∧ place I B k = k - 2 - I := by
  have h0 := kp_in (k := k) h h2
  have := h.1
  have a0 : ¬ k = 0 := by omega
  have a1 : ¬ k = 1 := by omega
  have a2 : ¬ k < I + 2 := by omega
  simp only [kind, place, if_neg h0, if_neg a0, if_neg a1, if_neg a2]
  simp

theorem vwhat_any (I B k : Int) (w : World) (hk0 : 0 ≤ k) (hk1 : k ≤ 4294967295) :
    Calls Try.prog 7 #[.agg #[.int .i64 I, .int .i64 B], .int .u32 k] w fun e w' => e = .returned (.tuple #[.int .i64 (kind I B k), .int .i64 (place I B k)]) ∧ Below w.heap.size w w' := by
  by_cases hr : rightP I B
  · have hI1 := hr.1
    have hI2 := hr.2.1
    have hB1 := hr.2.2.1
    have hB2 := hr.2.2.2
    have HR := Lib.hid hr
    by_cases hbig : I + B + 2 ≤ k
    · obtain ⟨e1, e2⟩ := kp_none (.inr hbig)
      rw [e1, e2]
      clear hr e1 e2
      have d1 : decide (2 + I + B ≤ k) = true := by simp; omega
      go_enter Try.func7, Try.ntmps7
      go_wp2_with (go_at_call 9; refine (vright_yes _ HR.out).mono ?_; rintro e w1 ⟨rfl, hB1⟩; obtain ⟨c0, c1, hB2⟩ := boxed2 hB1)
      go_ret2
      exact ⟨rfl, hB2⟩
    · have d1 : decide (2 + I + B ≤ k) = false := by simp; omega
      by_cases h0 : k = 0
      · subst h0
        obtain ⟨e1, e2⟩ := kp_0 hr
        rw [e1, e2]
        clear hr e1 e2
        go_enter Try.func7, Try.ntmps7
        go_wp2_with (go_at_call 9; refine (vright_yes _ HR.out).mono ?_; rintro e w1 ⟨rfl, hB1⟩; obtain ⟨c0, c1, hB2⟩ := boxed2 hB1)
        go_ret2
        exact ⟨rfl, hB2⟩
      · have b0 : (k == 0) = false := by simpa using h0
        by_cases h1 : k = 1
        · subst h1
          obtain ⟨e1, e2⟩ := kp_1 hr
          rw [e1, e2]
          clear hr e1 e2
          go_enter Try.func7, Try.ntmps7
          go_wp2_with (go_at_call 9; refine (vright_yes _ HR.out).mono ?_; rintro e w1 ⟨rfl, hB1⟩; obtain ⟨c0, c1, hB2⟩ := boxed2 hB1)
          go_ret2
          exact ⟨rfl, hB2⟩
        · have b1 : (k == 1) = false := by simpa using h1
          by_cases h2 : k < I + 2
          · obtain ⟨e1, e2⟩ := kp_I hr (by omega) h2
            rw [e1, e2]
            clear hr e1 e2
            have h2' : k < 2 + I := by omega
            go_enter Try.func7, Try.ntmps7
            go_wp2_with (go_at_call 9; refine (vright_yes _ HR.out).mono ?_; rintro e w1 ⟨rfl, hB1⟩; obtain ⟨c0, c1, hB2⟩ := boxed2 hB1)
            go_ret2
            exact ⟨ret_two rfl (by omega), hB2⟩
          · obtain ⟨e1, e2⟩ := kp_B hr (by omega) (by omega : k < I + B + 2)
            rw [e1, e2]
            clear hr e1 e2
            have h2' : ¬ k < 2 + I := by omega
            go_enter Try.func7, Try.ntmps7
            go_wp2_with (go_at_call 9; refine (vright_yes _ HR.out).mono ?_; rintro e w1 ⟨rfl, hB1⟩; obtain ⟨c0, c1, hB2⟩ := boxed2 hB1)
            go_quiet (fail)
            go_wp2
            go_ret2
            exact ⟨ret_two rfl (by first | omega | (simp [IntWalk.i64_in]; omega)), below_drewN hB2 _⟩
  · obtain ⟨e1, e2⟩ := kp_none (B := B) (k := k) (.inl hr)
    rw [e1, e2]
    have HR := Lib.hid hr
    clear hr e1 e2
    go_enter Try.func7, Try.ntmps7
    go_wp2_with (go_at_call 9; refine (vright_not _ HR.out).mono ?_; rintro e w1 ⟨rfl, hB1⟩; obtain ⟨c0, c1, hB2⟩ := boxed2 hB1)
    go_ret2
    exact ⟨rfl, hB2⟩

theorem keyI_in {I B i : Int} (h : rightP I B) (h1 : 1 ≤ i) (h2 : i ≤ I) : keyI I B i = i + 1 := by unfold keyI; rw [if_pos ⟨h, h1, h2⟩]
theorem keyB_in {I B b : Int} (h : rightP I B) (h1 : 0 ≤ b) (h2 : b < B) : keyB I B b = b + I + 2 := by unfold keyB; rw [if_pos ⟨h, h1, h2⟩]

theorem rwhat_any (I B k : Int) (w : World) (hk0 : 0 ≤ k) :
    Calls Try.prog 8 #[.agg #[.int .i64 I, .int .i64 B], .int .u32 k] w fun e w' => e = .returned (.tuple #[.int .i64 (kind I B k), .int .i64 (place I B k)]) ∧ Below w.heap.size w w' := by
  by_cases hr : rightP I B
  · have hI1 := hr.1
    have hI2 := hr.2.1
    have hB1 := hr.2.2.1
    have hB2 := hr.2.2.2
    have HR := Lib.hid hr
    by_cases h0 : k = 0
    · subst h0
      obtain ⟨e1, e2⟩ := kp_0 hr
      rw [e1, e2]
      clear hr e1 e2
      go_enter Try.func8, Try.ntmps8
      go_wp2_with (go_at_call 10; refine (rright_yes _ HR.out).mono ?_; rintro e w1 ⟨rfl, hB1⟩; obtain ⟨c0, c1, hB2⟩ := boxed2 hB1)
      go_ret2
      exact ⟨rfl, hB2⟩
    · have b0 : (k == 0) = false := by simpa using h0
      by_cases h1 : k = 1
      · subst h1
        obtain ⟨e1, e2⟩ := kp_1 hr
        rw [e1, e2]
        clear hr e1 e2
        go_enter Try.func8, Try.ntmps8
        go_wp2_with (go_at_call 10; refine (rright_yes _ HR.out).mono ?_; rintro e w1 ⟨rfl, hB1⟩; obtain ⟨c0, c1, hB2⟩ := boxed2 hB1)
        go_ret2
        exact ⟨rfl, hB2⟩
      · have b1 : (k == 1) = false := by simpa using h1
        have hk2 : 2 ≤ k := by omega
        clear hr
        go_enter Try.func8, Try.ntmps8
        go_wp2_with (go_at_call 10; refine (rright_yes _ HR.out).mono ?_; rintro e w1 ⟨rfl, hB1⟩; obtain ⟨c0, c1, hB2⟩ := boxed2 hB1)
        go_loopw [6] (fun v wr => ∃ q : Int, 1 ≤ q ∧ q ≤ I + 1 ∧ v = .int .i64 q ∧ q ≤ k - 1 + (if k < I + 2 then 0 else 64) ∧ wr.cell? ⟨w.heap.size, 0, none⟩ = some (.int .i64 I) ∧ wr.cell? ⟨w.heap.size, 1, none⟩ = some (.int .i64 B) ∧ Below w.heap.size w wr ∧ w.heap.size < wr.heap.size) (fun v _ => (I + 1 - intOf v).toNat)
        case atStart => exact ⟨1, by omega, by omega, rfl, by split <;> omega, c0, c1, hB2, World.block_lt_of_cell? w1 _ c0⟩
        case round =>
          obtain ⟨q, hq1, hq2, rfl, hqk, c0, c1, hbel, hsz⟩ := hrel
          clear hB2
          by_cases hlt : q ≤ I
          · have hkey := keyI_in (B := B) HR.out hq1 hlt
            have hc := rinode_any I B q wr (by omega)
            rw [hkey] at hc
            have HC := Lib.hid hc
            clear hc hkey
            by_cases heq : q + 1 = k
            · have tb : (q + 1 == k) = true := by simpa using heq
              obtain ⟨e1, e2⟩ := kp_I HR.out hk2 (by omega)
              have E1 := Lib.hid e1
              have E2 := Lib.hid e2
              have HE := Lib.hid heq
              clear e1 e2 heq
              go_wp2_with (go_at_call 12; refine (HC.out).mono ?_; rintro e w2 ⟨rfl, hb2⟩)
              go_ret2
              exact ⟨ret_two E1.out.symm (by rw [E2.out]; have := HE.out; omega), hbel.trans (hb2.mono hbel.size)⟩
            · have tb : (q + 1 == k) = false := by simpa using heq
              have hn : q + 1 ≤ k - 1 + (if k < I + 2 then 0 else 64) := by
                revert hqk
                split <;> intro hqk <;> omega
              have HN := Lib.hid hn
              clear hn hqk heq
              go_wp2_with (go_at_call 12; refine (HC.out).mono ?_; rintro e w2 ⟨rfl, hb2⟩)
              go_roundw
              case rel => exact ⟨q + 1, by omega, by omega, by go_num, HN.out, by rw [hb2.cell (p := ⟨w.heap.size, 0, none⟩) hsz]; exact c0, by rw [hb2.cell (p := ⟨w.heap.size, 1, none⟩) hsz]; exact c1, hbel.trans (hb2.mono hbel.size), Nat.lt_of_lt_of_le hsz hb2.size⟩
              case measure => simp [intOf]; omega
          · have hge : I + 2 ≤ k := by
              revert hqk
              split <;> intro hqk <;> omega
            clear hqk
            go_wp2_with fail
            obtain ⟨wo, rfl⟩ : ∃ wo : World, wo = wr := ⟨_, rfl⟩
            go_loopw [7] (fun v wr => ∃ q : Int, 0 ≤ q ∧ q ≤ B ∧ v = .int .i64 q ∧ (k < I + B + 2 → q ≤ k - I - 2) ∧ wr.cell? ⟨w.heap.size, 0, none⟩ = some (.int .i64 I) ∧ wr.cell? ⟨w.heap.size, 1, none⟩ = some (.int .i64 B) ∧ Below w.heap.size w wr ∧ w.heap.size < wr.heap.size) (fun v _ => (B - intOf v).toNat)
            case atStart => exact ⟨0, by omega, by omega, rfl, fun _ => by omega, c0, c1, hbel, hsz⟩
            case round =>
              clear c0 c1 hbel hsz
              obtain ⟨b, hb1, hb2, rfl, hbk, c0, c1, hbel, hsz⟩ := hrel
              have HBk := Lib.hid hbk
              clear hbk
              by_cases hlt2 : b < B
              · have hkey := keyB_in HR.out hb1 hlt2
                have hc := rblock_any I B b wr (by omega)
                rw [hkey] at hc
                have HC := Lib.hid hc
                clear hc hkey
                by_cases heq : b + I + 2 = k
                · have tb : (b + I + 2 == k) = true := by simpa using heq
                  obtain ⟨e1, e2⟩ := kp_B HR.out hge (by omega)
                  have E1 := Lib.hid e1
                  have E2 := Lib.hid e2
                  have HE := Lib.hid heq
                  clear e1 e2 heq
                  go_wp2_with (go_at_call 14; refine (HC.out).mono ?_; rintro e w2 ⟨rfl, hb2⟩)
                  go_ret2
                  exact ⟨ret_two E1.out.symm (by rw [E2.out]; have := HE.out; omega), hbel.trans (hb2.mono hbel.size)⟩
                · have tb : (b + I + 2 == k) = false := by simpa using heq
                  have hn : k < I + B + 2 → b + 1 ≤ k - I - 2 := fun h => by have := HBk.out h; omega
                  have HN := Lib.hid hn
                  clear hn heq
                  go_wp2_with (go_at_call 14; refine (HC.out).mono ?_; rintro e w2 ⟨rfl, hb2⟩)
                  go_roundw
                  case rel => exact ⟨b + 1, by omega, by omega, by go_num, HN.out, by rw [hb2.cell (p := ⟨w.heap.size, 0, none⟩) hsz]; exact c0, by rw [hb2.cell (p := ⟨w.heap.size, 1, none⟩) hsz]; exact c1, hbel.trans (hb2.mono hbel.size), Nat.lt_of_lt_of_le hsz hb2.size⟩
                  case measure => simp [intOf]; omega
              · have hbig : I + B + 2 ≤ k := by
                  rcases Int.lt_or_le k (I + B + 2) with h | h
                  · have := HBk.out h; omega
                  · exact h
                obtain ⟨e1, e2⟩ := kp_none (I := I) (B := B) (.inr hbig)
                have E1 := Lib.hid e1
                have E2 := Lib.hid e2
                clear e1 e2
                go_wp2
                go_ret2
                exact ⟨ret_two E1.out.symm E2.out.symm, hbel⟩
  · obtain ⟨e1, e2⟩ := kp_none (B := B) (k := k) (.inl hr)
    rw [e1, e2]
    have HR := Lib.hid hr
    clear hr e1 e2
    go_enter Try.func8, Try.ntmps8
    go_wp2_with (go_at_call 10; refine (rright_not _ HR.out).mono ?_; rintro e w1 ⟨rfl, hB1⟩; obtain ⟨c0, c1, hB2⟩ := boxed2 hB1)
    go_ret2
    exact ⟨rfl, hB2⟩
end Go.Proofs.Ytjdpljhhlmcbaaa
