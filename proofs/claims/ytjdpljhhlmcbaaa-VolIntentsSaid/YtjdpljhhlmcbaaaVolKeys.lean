/- The contracts of the volume's keys (vol.Right, Inode, Block, What) and of the references'. No condition. -/
import Derived.Test.YtjdpljhhlmcbaaaProg
import Derived.Test.YtjdpljhhlmcbaaaLib
import Derived.Test.YtjdpljhhlmcbaaaApp
namespace Go.Cat.Vol
def rightP (I B : Int) : Prop := 1 ≤ I ∧ I ≤ 64 ∧ 1 ≤ B ∧ B ≤ 96
def rightB (I B : Int) : Bool := decide (1 ≤ I ∧ I ≤ 64 ∧ 1 ≤ B ∧ B ≤ 96)
theorem right_yes {I B : Int} (h : rightP I B) : rightB I B = true := by unfold rightP at h; simp [rightB, h]
theorem right_no {I B : Int} (h : ¬ rightP I B) : rightB I B = false := by unfold rightP at h; unfold rightB; exact decide_eq_false h
open Classical in
/-- An inode's key, a block's key, what a key is. -/
noncomputable def keyI (I B i : Int) : Int := if rightP I B ∧ 1 ≤ i ∧ i ≤ I then i + 1 else 0
open Classical in
noncomputable def keyB (I B b : Int) : Int := if rightP I B ∧ 0 ≤ b ∧ b < B then b + I + 2 else 0
open Classical in
noncomputable def kind (I B k : Int) : Int := if ¬ rightP I B ∨ I + B + 2 ≤ k then 0 else if k = 0 then 1 else if k = 1 then 2 else if k < I + 2 then 3 else 4
open Classical in
noncomputable def place (I B k : Int) : Int := if ¬ rightP I B ∨ I + B + 2 ≤ k then 0 else if k = 0 then 0 else if k = 1 then 0 else if k < I + 2 then k - 1 else k - 2 - I
end Go.Cat.Vol
namespace Go.Proofs.Ytjdpljhhlmcbaaa
open Go.RowKit Go.Cat Go.Cat.Vol

theorem vright_any (I B : Int) (w : World) :
    Calls Try.prog 9 #[.agg #[.int .i64 I, .int .i64 B]] w fun e w' => e = .returned (.bool (rightB I B)) ∧ Below w.heap.size w w' := by
  have hB0 : Below w.heap.size w (w.alloc (.cells #[.int .i64 I, .int .i64 B] 25)) := (Below.refl _ _).alloc (Nat.le_refl _) _
  by_cases h1 : 1 ≤ I
  · have d1 : decide (1 ≤ I) = true := by simpa using h1
    by_cases h2 : I ≤ 64
    · have d2 : decide (I ≤ 64) = true := by simpa using h2
      by_cases h3 : 1 ≤ B
      · have d3 : decide (1 ≤ B) = true := by simpa using h3
        by_cases h4 : B ≤ 96
        · rw [right_yes ⟨h1, h2, h3, h4⟩]
          go_enter Try.func9, Try.ntmps9
          go_wp2
          go_ret
          exact ⟨rfl, hB0⟩
        · rw [right_no (fun e => h4 e.2.2.2)]
          have d4 : decide (B ≤ 96) = false := by simpa using h4
          go_enter Try.func9, Try.ntmps9
          go_wp2
          go_ret
          exact ⟨rfl, hB0⟩
      · rw [right_no (fun e => h3 e.2.2.1)]
        have d3 : decide (1 ≤ B) = false := by simpa using h3
        go_enter Try.func9, Try.ntmps9
        go_wp2
        go_ret
        exact ⟨rfl, hB0⟩
    · rw [right_no (fun e => h2 e.2.1)]
      have d2 : decide (I ≤ 64) = false := by simpa using h2
      go_enter Try.func9, Try.ntmps9
      go_wp2
      go_ret
      exact ⟨rfl, hB0⟩
  · rw [right_no (fun e => h1 e.1)]
    have d1 : decide (1 ≤ I) = false := by simpa using h1
    go_enter Try.func9, Try.ntmps9
    go_wp2
    go_ret
    exact ⟨rfl, hB0⟩

theorem vright_yes {I B : Int} (w : World) (h : rightP I B) :
    Calls Try.prog 9 #[.agg #[.int .i64 I, .int .i64 B]] w fun e w' => e = .returned (.bool true) ∧ Below w.heap.size w w' := by
  have := vright_any I B w
  rwa [right_yes h] at this
theorem vright_not {I B : Int} (w : World) (h : ¬ rightP I B) :
    Calls Try.prog 9 #[.agg #[.int .i64 I, .int .i64 B]] w fun e w' => e = .returned (.bool false) ∧ Below w.heap.size w w' := by
  have := vright_any I B w
  rwa [right_no h] at this

theorem rright_any (I B : Int) (w : World) :
    Calls Try.prog 10 #[.agg #[.int .i64 I, .int .i64 B]] w fun e w' => e = .returned (.bool (rightB I B)) ∧ Below w.heap.size w w' := by
  have hB0 : Below w.heap.size w (w.alloc (.cells #[.int .i64 I, .int .i64 B] 23)) := (Below.refl _ _).alloc (Nat.le_refl _) _
  by_cases h1 : 1 ≤ I
  · have d1 : decide (1 ≤ I) = true := by simpa using h1
    by_cases h2 : I ≤ 64
    · have d2 : decide (I ≤ 64) = true := by simpa using h2
      by_cases h3 : 1 ≤ B
      · have d3 : decide (1 ≤ B) = true := by simpa using h3
        by_cases h4 : B ≤ 96
        · rw [right_yes ⟨h1, h2, h3, h4⟩]
          go_enter Try.func10, Try.ntmps10
          go_wp2
          go_ret
          exact ⟨rfl, hB0⟩
        · rw [right_no (fun e => h4 e.2.2.2)]
          have d4 : decide (B ≤ 96) = false := by simpa using h4
          go_enter Try.func10, Try.ntmps10
          go_wp2
          go_ret
          exact ⟨rfl, hB0⟩
      · rw [right_no (fun e => h3 e.2.2.1)]
        have d3 : decide (1 ≤ B) = false := by simpa using h3
        go_enter Try.func10, Try.ntmps10
        go_wp2
        go_ret
        exact ⟨rfl, hB0⟩
    · rw [right_no (fun e => h2 e.2.1)]
      have d2 : decide (I ≤ 64) = false := by simpa using h2
      go_enter Try.func10, Try.ntmps10
      go_wp2
      go_ret
      exact ⟨rfl, hB0⟩
  · rw [right_no (fun e => h1 e.1)]
    have d1 : decide (1 ≤ I) = false := by simpa using h1
    go_enter Try.func10, Try.ntmps10
    go_wp2
    go_ret
    exact ⟨rfl, hB0⟩

theorem rright_yes {I B : Int} (w : World) (h : rightP I B) :
    Calls Try.prog 10 #[.agg #[.int .i64 I, .int .i64 B]] w fun e w' => e = .returned (.bool true) ∧ Below w.heap.size w w' := by
  have := rright_any I B w
  rwa [right_yes h] at this
theorem rright_not {I B : Int} (w : World) (h : ¬ rightP I B) :
    Calls Try.prog 10 #[.agg #[.int .i64 I, .int .i64 B]] w fun e w' => e = .returned (.bool false) ∧ Below w.heap.size w w' := by
  have := rright_any I B w
  rwa [right_no h] at this

theorem ret_key {a b : Int} (h : a = b) : Ending.returned (.int .u32 a) = .returned (.int .u32 b) := by rw [h]

/-- A boxed struct of two ints, behind a call that leaves it. -/
theorem boxed2 {w w1 : World} {a b : Value} {t : TypeId} (h : Below (w.alloc (.cells #[a, b] t)).heap.size (w.alloc (.cells #[a, b] t)) w1) :
    w1.cell? ⟨w.heap.size, 0, none⟩ = some a ∧ w1.cell? ⟨w.heap.size, 1, none⟩ = some b ∧ Below w.heap.size w w1 := by
  have h0 := heap_alloc_new w (.cells #[a, b] t)
  refine ⟨?_, ?_, ((Below.refl _ _).alloc (Nat.le_refl _) _).trans (h.mono (by simp))⟩
  · rw [h.cell (p := ⟨w.heap.size, 0, none⟩) (by simp), cell_of_row _ _ _ _ _ _ h0]; rfl
  · rw [h.cell (p := ⟨w.heap.size, 1, none⟩) (by simp), cell_of_row _ _ _ _ _ _ h0]; rfl

theorem vinode_any (I B i : Int) (w : World) (hi : -9223372036854775808 ≤ i ∧ i ≤ 9223372036854775807) :
    Calls Try.prog 11 #[.agg #[.int .i64 I, .int .i64 B], .int .i64 i] w fun e w' => e = .returned (.int .u32 (keyI I B i)) ∧ Below w.heap.size w w' := by
  by_cases hr : rightP I B
  · have hI := hr.2.1
    by_cases h1 : i < 1
    · have hk : keyI I B i = 0 := by unfold keyI; rw [if_neg (by omega)]
      rw [hk]
      have d1 : decide (i < 1) = true := by simpa using h1
      go_enter Try.func11, Try.ntmps11
      go_wp2_with (go_at_call 9; refine (vright_yes _ hr).mono ?_; rintro e w1 ⟨rfl, hB1⟩; obtain ⟨c0, c1, hB2⟩ := boxed2 hB1)
      go_ret
      exact ⟨rfl, hB2⟩
    · have d1 : decide (i < 1) = false := by simpa using h1
      by_cases h2 : I < i
      · have hk : keyI I B i = 0 := by unfold keyI; rw [if_neg (by omega)]
        rw [hk]
        have d2 : decide (I < i) = true := by simpa using h2
        go_enter Try.func11, Try.ntmps11
        go_wp2_with (go_at_call 9; refine (vright_yes _ hr).mono ?_; rintro e w1 ⟨rfl, hB1⟩; obtain ⟨c0, c1, hB2⟩ := boxed2 hB1)
        go_ret
        exact ⟨rfl, hB2⟩
      · have hk : keyI I B i = i + 1 := by unfold keyI; rw [if_pos ⟨hr, by omega, by omega⟩]
        rw [hk]
        have d2 : decide (I < i) = false := by simpa using h2
        go_enter Try.func11, Try.ntmps11
        go_wp2_with (go_at_call 9; refine (vright_yes _ hr).mono ?_; rintro e w1 ⟨rfl, hB1⟩; obtain ⟨c0, c1, hB2⟩ := boxed2 hB1)
        go_ret
        exact ⟨ret_key (by first | omega | (simp; omega)), hB2⟩
  · have hk : keyI I B i = 0 := by unfold keyI; rw [if_neg (fun e => hr e.1)]
    rw [hk]
    have HR := Lib.hid hr
    clear hr
    go_enter Try.func11, Try.ntmps11
    go_wp2_with (go_at_call 9; refine (vright_not _ HR.out).mono ?_; rintro e w1 ⟨rfl, hB1⟩; obtain ⟨c0, c1, hB2⟩ := boxed2 hB1)
    go_ret
    exact ⟨rfl, hB2⟩

theorem rinode_any (I B i : Int) (w : World) (hi : -9223372036854775808 ≤ i ∧ i ≤ 9223372036854775807) :
    Calls Try.prog 12 #[.agg #[.int .i64 I, .int .i64 B], .int .i64 i] w fun e w' => e = .returned (.int .u32 (keyI I B i)) ∧ Below w.heap.size w w' := by
  by_cases hr : rightP I B
  · have hI := hr.2.1
    by_cases h1 : i < 1
    · have hk : keyI I B i = 0 := by unfold keyI; rw [if_neg (by omega)]
      rw [hk]
      have d1 : decide (i < 1) = true := by simpa using h1
      go_enter Try.func12, Try.ntmps12
      go_wp2_with (go_at_call 10; refine (rright_yes _ hr).mono ?_; rintro e w1 ⟨rfl, hB1⟩; obtain ⟨c0, c1, hB2⟩ := boxed2 hB1)
      go_ret
      exact ⟨rfl, hB2⟩
    · have d1 : decide (i < 1) = false := by simpa using h1
      by_cases h2 : I < i
      · have hk : keyI I B i = 0 := by unfold keyI; rw [if_neg (by omega)]
        rw [hk]
        have d2 : decide (I < i) = true := by simpa using h2
        go_enter Try.func12, Try.ntmps12
        go_wp2_with (go_at_call 10; refine (rright_yes _ hr).mono ?_; rintro e w1 ⟨rfl, hB1⟩; obtain ⟨c0, c1, hB2⟩ := boxed2 hB1)
        go_ret
        exact ⟨rfl, hB2⟩
      · have hk : keyI I B i = i + 1 := by unfold keyI; rw [if_pos ⟨hr, by omega, by omega⟩]
        rw [hk]
        have d2 : decide (I < i) = false := by simpa using h2
        go_enter Try.func12, Try.ntmps12
        go_wp2_with (go_at_call 10; refine (rright_yes _ hr).mono ?_; rintro e w1 ⟨rfl, hB1⟩; obtain ⟨c0, c1, hB2⟩ := boxed2 hB1)
        go_ret
        exact ⟨ret_key (by first | omega | (simp; omega)), hB2⟩
  · have hk : keyI I B i = 0 := by unfold keyI; rw [if_neg (fun e => hr e.1)]
    rw [hk]
    have HR := Lib.hid hr
    clear hr
    go_enter Try.func12, Try.ntmps12
    go_wp2_with (go_at_call 10; refine (rright_not _ HR.out).mono ?_; rintro e w1 ⟨rfl, hB1⟩; obtain ⟨c0, c1, hB2⟩ := boxed2 hB1)
    go_ret
    exact ⟨rfl, hB2⟩

theorem vblock_any (I B i : Int) (w : World) (hi : -9223372036854775808 ≤ i ∧ i ≤ 9223372036854775807) :
    Calls Try.prog 13 #[.agg #[.int .i64 I, .int .i64 B], .int .i64 i] w fun e w' => e = .returned (.int .u32 (keyB I B i)) ∧ Below w.heap.size w w' := by
  by_cases hr : rightP I B
  · have hI := hr.2.2.2
    have hI2 := hr.2.1
    have hI3 := hr.1
    by_cases h1 : i < 0
    · have hk : keyB I B i = 0 := by unfold keyB; rw [if_neg (by omega)]
      rw [hk]
      have d1 : decide (i < 0) = true := by simpa using h1
      go_enter Try.func13, Try.ntmps13
      go_wp2_with (go_at_call 9; refine (vright_yes _ hr).mono ?_; rintro e w1 ⟨rfl, hB1⟩; obtain ⟨c0, c1, hB2⟩ := boxed2 hB1)
      go_ret
      exact ⟨rfl, hB2⟩
    · have d1 : decide (i < 0) = false := by simpa using h1
      by_cases h2 : B ≤ i
      · have hk : keyB I B i = 0 := by unfold keyB; rw [if_neg (by omega)]
        rw [hk]
        have d2 : decide (B ≤ i) = true := by simpa using h2
        go_enter Try.func13, Try.ntmps13
        go_wp2_with (go_at_call 9; refine (vright_yes _ hr).mono ?_; rintro e w1 ⟨rfl, hB1⟩; obtain ⟨c0, c1, hB2⟩ := boxed2 hB1)
        go_ret
        exact ⟨rfl, hB2⟩
      · have hk : keyB I B i = i + I + 2 := by unfold keyB; rw [if_pos ⟨hr, by omega, by omega⟩]
        rw [hk]
        have d2 : decide (B ≤ i) = false := by simpa using h2
        go_enter Try.func13, Try.ntmps13
        go_wp2_with (go_at_call 9; refine (vright_yes _ hr).mono ?_; rintro e w1 ⟨rfl, hB1⟩; obtain ⟨c0, c1, hB2⟩ := boxed2 hB1)
        go_ret
        exact ⟨ret_key (by first | omega | (simp; omega)), hB2⟩
  · have hk : keyB I B i = 0 := by unfold keyB; rw [if_neg (fun e => hr e.1)]
    rw [hk]
    have HR := Lib.hid hr
    clear hr
    go_enter Try.func13, Try.ntmps13
    go_wp2_with (go_at_call 9; refine (vright_not _ HR.out).mono ?_; rintro e w1 ⟨rfl, hB1⟩; obtain ⟨c0, c1, hB2⟩ := boxed2 hB1)
    go_ret
    exact ⟨rfl, hB2⟩

theorem rblock_any (I B i : Int) (w : World) (hi : -9223372036854775808 ≤ i ∧ i ≤ 9223372036854775807) :
    Calls Try.prog 14 #[.agg #[.int .i64 I, .int .i64 B], .int .i64 i] w fun e w' => e = .returned (.int .u32 (keyB I B i)) ∧ Below w.heap.size w w' := by
  by_cases hr : rightP I B
  · have hI := hr.2.2.2
    have hI2 := hr.2.1
    have hI3 := hr.1
    by_cases h1 : i < 0
    · have hk : keyB I B i = 0 := by unfold keyB; rw [if_neg (by omega)]
      rw [hk]
      have d1 : decide (i < 0) = true := by simpa using h1
      go_enter Try.func14, Try.ntmps14
      go_wp2_with (go_at_call 10; refine (rright_yes _ hr).mono ?_; rintro e w1 ⟨rfl, hB1⟩; obtain ⟨c0, c1, hB2⟩ := boxed2 hB1)
      go_ret
      exact ⟨rfl, hB2⟩
    · have d1 : decide (i < 0) = false := by simpa using h1
      by_cases h2 : B ≤ i
      · have hk : keyB I B i = 0 := by unfold keyB; rw [if_neg (by omega)]
        rw [hk]
        have d2 : decide (B ≤ i) = true := by simpa using h2
        go_enter Try.func14, Try.ntmps14
        go_wp2_with (go_at_call 10; refine (rright_yes _ hr).mono ?_; rintro e w1 ⟨rfl, hB1⟩; obtain ⟨c0, c1, hB2⟩ := boxed2 hB1)
        go_ret
        exact ⟨rfl, hB2⟩
      · have hk : keyB I B i = i + I + 2 := by unfold keyB; rw [if_pos ⟨hr, by omega, by omega⟩]
        rw [hk]
        have d2 : decide (B ≤ i) = false := by simpa using h2
        go_enter Try.func14, Try.ntmps14
        go_wp2_with (go_at_call 10; refine (rright_yes _ hr).mono ?_; rintro e w1 ⟨rfl, hB1⟩; obtain ⟨c0, c1, hB2⟩ := boxed2 hB1)
        go_ret
        exact ⟨ret_key (by first | omega | (simp; omega)), hB2⟩
  · have hk : keyB I B i = 0 := by unfold keyB; rw [if_neg (fun e => hr e.1)]
    rw [hk]
    have HR := Lib.hid hr
    clear hr
    go_enter Try.func14, Try.ntmps14
    go_wp2_with (go_at_call 10; refine (rright_not _ HR.out).mono ?_; rintro e w1 ⟨rfl, hB1⟩; obtain ⟨c0, c1, hB2⟩ := boxed2 hB1)
    go_ret
    exact ⟨rfl, hB2⟩

end Go.Proofs.Ytjdpljhhlmcbaaa
