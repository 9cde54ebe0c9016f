/- The walk of the law TreeNil: no tree answers nothing; which kinds turn one. Condition: the library's variable MaxLen holds an int. -/
import Derived.Test.YtabecceojbeomaaGreatDoorTrLaw
namespace Go.Proofs.YtabecceojbeomaaGreatDoor
open Go.RowKit Go.Cat Go.Cat.Dir Go.Cat.Tree Go.Maps

set_option maxRecDepth 100000 in
set_option maxHeartbeats 8000000 in
theorem treenil_any (c : CallV) (A : Option Addr) (cA : Nat) (kind : Int) (w : World) (hg : MaxG w) :
    Calls Tryz.prog 4 #[.agg (callC c A cA), .int .i64 kind] w fun e w' => e = .returned (.bool true) ∧ Below w.heap.size w w' := by
  have p1 := do_nil (.agg (callC c A cA)) c A cA (w.alloc (.cells (callC c A cA) 33)) rfl
  have P1 := Lib.hid p1
  have HB0 : Hid (Below w.heap.size w (w.alloc (.cells (callC c A cA) 33))) := (Below.refl _ _).alloc (Nat.le_refl _) _
  have HX0 := Lib.hid (heap_alloc_new w (.cells (callC c A cA) 33))
  have P3 := Lib.hid (fun W => rsame_eq (wrongV 2) none 0 none 0 none 0 none 0 W (.inl rfl) (.inl rfl) (.inl rfl) (.inl rfl) (by decide) (by decide))
  have P4 := Lib.hid (fun W (hB : Below w.heap.size w W) => awake_any W (hg.touch (K := fun _ => False) (Tch.of_below hB) (fun e => e)))
  have PT := Lib.hid (fun W => turns_any kind W)
  have hnp : ∀ W, (binOp .eql 25 (.pointer none) (.pointer none)).run Tryz.prog W = .ok (.bool true) W := fun W => by kernel_rfl
  obtain ⟨tv, htv⟩ : ∃ tv, tv = turnsV kind := ⟨_, rfl⟩
  rw [← htv] at PT
  unfold turnsV at htv
  have HTv := Lib.hid htv
  clear p1 hg htv
  by_cases h1 : 1 ≤ kind
  · have d1 : decide ((1 : Int) ≤ kind) = true := by simpa using h1
    by_cases h6 : kind ≤ 6
    · have d6 : decide (kind ≤ (6 : Int)) = true := by simpa using h6
      obtain rfl : tv = true := by rw [HTv.out]; exact decide_eq_true (.inl ⟨h1, h6⟩)
      clear HTv
      go_enter Tryz.func4, Tryz.ntmps4
      go_wp2_with fail
      refine (P1.out).mono ?_
      rintro e w1 ⟨rfl, hB1⟩
      have hB2 := HB0.out.trans (hB1.mono HB0.out.size)
      have hx1 := heap_alloc (heap_below HX0.out hB1) (.cells #[.int .i64 2, .slice none 0 0, .slice none 0 0, .int .i64 0, .bool false] 36)
      have hN := heap_alloc_new w1 (.cells #[.int .i64 2, .slice none 0 0, .slice none 0 0, .int .i64 0, .bool false] 36)
      have hB3 := hB2.trans (((Below.refl _ w1).alloc (Nat.le_refl _) (.cells #[.int .i64 2, .slice none 0 0, .slice none 0 0, .int .i64 0, .bool false] 36)).mono hB2.size)
      go_upto_region 3 with (fail)
      clear hB1 hB2
      generalize w1.alloc (.cells #[.int .i64 2, .slice none 0 0, .slice none 0 0, .int .i64 0, .bool false] 36) = W at hx1 hN hB3 ⊢
      generalize w1.heap.size = N at hN ⊢
      have k1 : W.cell? ⟨w.heap.size, 1, none⟩ = some (.string (bs c.path)) := cell_of_row _ _ 1 _ _ _ hx1
      have x0 : W.cell? ⟨N, 0, none⟩ = some (.int .i64 2) := cell_of_row _ _ 0 _ _ _ hN
      have x1 : W.cell? ⟨N, 1, none⟩ = some (.slice none 0 0) := cell_of_row _ _ 1 _ _ _ hN
      have x2 : W.cell? ⟨N, 2, none⟩ = some (.slice none 0 0) := cell_of_row _ _ 2 _ _ _ hN
      have x3 : W.cell? ⟨N, 3, none⟩ = some (.int .i64 0) := cell_of_row _ _ 3 _ _ _ hN
      have x4 : W.cell? ⟨N, 4, none⟩ = some (.bool false) := cell_of_row _ _ 4 _ _ _ hN
      have HB3 := Lib.hid hB3
      have PF := Lib.hid (fil_nil (bs c.path) W)
      clear hx1 hN hB3 P1 HB0 HX0
      go_wp2_with fail
      refine (PF.out).mono ?_
      rintro e w2 ⟨rfl, rfl⟩
      go_wp2_with fail
      refine (P3.out _).mono ?_
      rintro e w3 ⟨rfl, hB4⟩
      have HB4 := Lib.hid (HB3.out.trans (hB4.mono HB3.out.size))
      have PI := Lib.hid (inodes_nil w3)
      have PB := Lib.hid (blocks_nil w3)
      have PP := Lib.hid (paths_nil w3)
      have PC := Lib.hid (copy_nil w3)
      have PW := Lib.hid (P4.out w3 HB4.out)
      clear hB4 x0 x1 x2 x3 x4 k1 P3 P4
      go_wp2_with fail
      refine (PI.out).mono ?_
      rintro e w4 ⟨rfl, rfl⟩
      go_wp2_with fail
      refine (PB.out).mono ?_
      rintro e w4 ⟨rfl, rfl⟩
      go_wp2_with fail
      refine (PP.out).mono ?_
      rintro e w4 ⟨rfl, rfl⟩
      go_wp2_with fail
      refine (PC.out).mono ?_
      rintro e w4 ⟨rfl, rfl⟩
      go_wp2_with fail
      refine (PT.out _).mono ?_
      rintro e w4 ⟨rfl, rfl⟩
      go_wp2_with fail
      refine (PW.out).mono ?_
      rintro e w5 ⟨rfl, hB5⟩
      have HB5 := Lib.hid (HB4.out.trans (hB5.mono HB4.out.size))
      clear hB5
      go_wp2_with fail
      go_ret
      exact ⟨rfl, HB5.out⟩
    · have d6 : decide (kind ≤ (6 : Int)) = false := by simpa using h6
      by_cases h8 : kind = 8
      · obtain rfl : tv = true := by rw [HTv.out]; exact decide_eq_true (.inr h8)
        have d8 : (kind == 8) = true := by rw [h8]; rfl
        clear h8
        clear HTv
        go_enter Tryz.func4, Tryz.ntmps4
        go_wp2_with fail
        refine (P1.out).mono ?_
        rintro e w1 ⟨rfl, hB1⟩
        have hB2 := HB0.out.trans (hB1.mono HB0.out.size)
        have hx1 := heap_alloc (heap_below HX0.out hB1) (.cells #[.int .i64 2, .slice none 0 0, .slice none 0 0, .int .i64 0, .bool false] 36)
        have hN := heap_alloc_new w1 (.cells #[.int .i64 2, .slice none 0 0, .slice none 0 0, .int .i64 0, .bool false] 36)
        have hB3 := hB2.trans (((Below.refl _ w1).alloc (Nat.le_refl _) (.cells #[.int .i64 2, .slice none 0 0, .slice none 0 0, .int .i64 0, .bool false] 36)).mono hB2.size)
        go_upto_region 3 with (fail)
        clear hB1 hB2
        generalize w1.alloc (.cells #[.int .i64 2, .slice none 0 0, .slice none 0 0, .int .i64 0, .bool false] 36) = W at hx1 hN hB3 ⊢
        generalize w1.heap.size = N at hN ⊢
        have k1 : W.cell? ⟨w.heap.size, 1, none⟩ = some (.string (bs c.path)) := cell_of_row _ _ 1 _ _ _ hx1
        have x0 : W.cell? ⟨N, 0, none⟩ = some (.int .i64 2) := cell_of_row _ _ 0 _ _ _ hN
        have x1 : W.cell? ⟨N, 1, none⟩ = some (.slice none 0 0) := cell_of_row _ _ 1 _ _ _ hN
        have x2 : W.cell? ⟨N, 2, none⟩ = some (.slice none 0 0) := cell_of_row _ _ 2 _ _ _ hN
        have x3 : W.cell? ⟨N, 3, none⟩ = some (.int .i64 0) := cell_of_row _ _ 3 _ _ _ hN
        have x4 : W.cell? ⟨N, 4, none⟩ = some (.bool false) := cell_of_row _ _ 4 _ _ _ hN
        have HB3 := Lib.hid hB3
        have PF := Lib.hid (fil_nil (bs c.path) W)
        clear hx1 hN hB3 P1 HB0 HX0
        go_wp2_with fail
        refine (PF.out).mono ?_
        rintro e w2 ⟨rfl, rfl⟩
        go_wp2_with fail
        refine (P3.out _).mono ?_
        rintro e w3 ⟨rfl, hB4⟩
        have HB4 := Lib.hid (HB3.out.trans (hB4.mono HB3.out.size))
        have PI := Lib.hid (inodes_nil w3)
        have PB := Lib.hid (blocks_nil w3)
        have PP := Lib.hid (paths_nil w3)
        have PC := Lib.hid (copy_nil w3)
        have PW := Lib.hid (P4.out w3 HB4.out)
        clear hB4 x0 x1 x2 x3 x4 k1 P3 P4
        go_wp2_with fail
        refine (PI.out).mono ?_
        rintro e w4 ⟨rfl, rfl⟩
        go_wp2_with fail
        refine (PB.out).mono ?_
        rintro e w4 ⟨rfl, rfl⟩
        go_wp2_with fail
        refine (PP.out).mono ?_
        rintro e w4 ⟨rfl, rfl⟩
        go_wp2_with fail
        refine (PC.out).mono ?_
        rintro e w4 ⟨rfl, rfl⟩
        go_wp2_with fail
        refine (PT.out _).mono ?_
        rintro e w4 ⟨rfl, rfl⟩
        go_wp2_with fail
        refine (PW.out).mono ?_
        rintro e w5 ⟨rfl, hB5⟩
        have HB5 := Lib.hid (HB4.out.trans (hB5.mono HB4.out.size))
        clear hB5
        go_wp2_with fail
        go_ret
        exact ⟨rfl, HB5.out⟩
      · obtain rfl : tv = false := by rw [HTv.out]; exact decide_eq_false (by omega)
        have d8 : (kind == 8) = false := by rw [beq_eq_false_iff_ne]; exact h8
        clear HTv
        go_enter Tryz.func4, Tryz.ntmps4
        go_wp2_with fail
        refine (P1.out).mono ?_
        rintro e w1 ⟨rfl, hB1⟩
        have hB2 := HB0.out.trans (hB1.mono HB0.out.size)
        have hx1 := heap_alloc (heap_below HX0.out hB1) (.cells #[.int .i64 2, .slice none 0 0, .slice none 0 0, .int .i64 0, .bool false] 36)
        have hN := heap_alloc_new w1 (.cells #[.int .i64 2, .slice none 0 0, .slice none 0 0, .int .i64 0, .bool false] 36)
        have hB3 := hB2.trans (((Below.refl _ w1).alloc (Nat.le_refl _) (.cells #[.int .i64 2, .slice none 0 0, .slice none 0 0, .int .i64 0, .bool false] 36)).mono hB2.size)
        go_upto_region 3 with (fail)
        clear hB1 hB2
        generalize w1.alloc (.cells #[.int .i64 2, .slice none 0 0, .slice none 0 0, .int .i64 0, .bool false] 36) = W at hx1 hN hB3 ⊢
        generalize w1.heap.size = N at hN ⊢
        have k1 : W.cell? ⟨w.heap.size, 1, none⟩ = some (.string (bs c.path)) := cell_of_row _ _ 1 _ _ _ hx1
        have x0 : W.cell? ⟨N, 0, none⟩ = some (.int .i64 2) := cell_of_row _ _ 0 _ _ _ hN
        have x1 : W.cell? ⟨N, 1, none⟩ = some (.slice none 0 0) := cell_of_row _ _ 1 _ _ _ hN
        have x2 : W.cell? ⟨N, 2, none⟩ = some (.slice none 0 0) := cell_of_row _ _ 2 _ _ _ hN
        have x3 : W.cell? ⟨N, 3, none⟩ = some (.int .i64 0) := cell_of_row _ _ 3 _ _ _ hN
        have x4 : W.cell? ⟨N, 4, none⟩ = some (.bool false) := cell_of_row _ _ 4 _ _ _ hN
        have HB3 := Lib.hid hB3
        have PF := Lib.hid (fil_nil (bs c.path) W)
        clear hx1 hN hB3 P1 HB0 HX0
        go_wp2_with fail
        refine (PF.out).mono ?_
        rintro e w2 ⟨rfl, rfl⟩
        go_wp2_with fail
        refine (P3.out _).mono ?_
        rintro e w3 ⟨rfl, hB4⟩
        have HB4 := Lib.hid (HB3.out.trans (hB4.mono HB3.out.size))
        have PI := Lib.hid (inodes_nil w3)
        have PB := Lib.hid (blocks_nil w3)
        have PP := Lib.hid (paths_nil w3)
        have PC := Lib.hid (copy_nil w3)
        have PW := Lib.hid (P4.out w3 HB4.out)
        clear hB4 x0 x1 x2 x3 x4 k1 P3 P4
        go_wp2_with fail
        refine (PI.out).mono ?_
        rintro e w4 ⟨rfl, rfl⟩
        go_wp2_with fail
        refine (PB.out).mono ?_
        rintro e w4 ⟨rfl, rfl⟩
        go_wp2_with fail
        refine (PP.out).mono ?_
        rintro e w4 ⟨rfl, rfl⟩
        go_wp2_with fail
        refine (PC.out).mono ?_
        rintro e w4 ⟨rfl, rfl⟩
        go_wp2_with fail
        refine (PT.out _).mono ?_
        rintro e w4 ⟨rfl, rfl⟩
        go_wp2_with fail
        refine (PW.out).mono ?_
        rintro e w5 ⟨rfl, hB5⟩
        have HB5 := Lib.hid (HB4.out.trans (hB5.mono HB4.out.size))
        clear hB5
        go_wp2_with fail
        go_ret
        exact ⟨rfl, HB5.out⟩
  · have d1 : decide ((1 : Int) ≤ kind) = false := by simpa using h1
    obtain rfl : tv = false := by rw [HTv.out]; exact decide_eq_false (by omega)
    have d8 : (kind == 8) = false := by rw [beq_eq_false_iff_ne]; omega
    clear HTv
    go_enter Tryz.func4, Tryz.ntmps4
    go_wp2_with fail
    refine (P1.out).mono ?_
    rintro e w1 ⟨rfl, hB1⟩
    have hB2 := HB0.out.trans (hB1.mono HB0.out.size)
    have hx1 := heap_alloc (heap_below HX0.out hB1) (.cells #[.int .i64 2, .slice none 0 0, .slice none 0 0, .int .i64 0, .bool false] 36)
    have hN := heap_alloc_new w1 (.cells #[.int .i64 2, .slice none 0 0, .slice none 0 0, .int .i64 0, .bool false] 36)
    have hB3 := hB2.trans (((Below.refl _ w1).alloc (Nat.le_refl _) (.cells #[.int .i64 2, .slice none 0 0, .slice none 0 0, .int .i64 0, .bool false] 36)).mono hB2.size)
    go_upto_region 3 with (fail)
    clear hB1 hB2
    generalize w1.alloc (.cells #[.int .i64 2, .slice none 0 0, .slice none 0 0, .int .i64 0, .bool false] 36) = W at hx1 hN hB3 ⊢
    generalize w1.heap.size = N at hN ⊢
    have k1 : W.cell? ⟨w.heap.size, 1, none⟩ = some (.string (bs c.path)) := cell_of_row _ _ 1 _ _ _ hx1
    have x0 : W.cell? ⟨N, 0, none⟩ = some (.int .i64 2) := cell_of_row _ _ 0 _ _ _ hN
    have x1 : W.cell? ⟨N, 1, none⟩ = some (.slice none 0 0) := cell_of_row _ _ 1 _ _ _ hN
    have x2 : W.cell? ⟨N, 2, none⟩ = some (.slice none 0 0) := cell_of_row _ _ 2 _ _ _ hN
    have x3 : W.cell? ⟨N, 3, none⟩ = some (.int .i64 0) := cell_of_row _ _ 3 _ _ _ hN
    have x4 : W.cell? ⟨N, 4, none⟩ = some (.bool false) := cell_of_row _ _ 4 _ _ _ hN
    have HB3 := Lib.hid hB3
    have PF := Lib.hid (fil_nil (bs c.path) W)
    clear hx1 hN hB3 P1 HB0 HX0
    go_wp2_with fail
    refine (PF.out).mono ?_
    rintro e w2 ⟨rfl, rfl⟩
    go_wp2_with fail
    refine (P3.out _).mono ?_
    rintro e w3 ⟨rfl, hB4⟩
    have HB4 := Lib.hid (HB3.out.trans (hB4.mono HB3.out.size))
    have PI := Lib.hid (inodes_nil w3)
    have PB := Lib.hid (blocks_nil w3)
    have PP := Lib.hid (paths_nil w3)
    have PC := Lib.hid (copy_nil w3)
    have PW := Lib.hid (P4.out w3 HB4.out)
    clear hB4 x0 x1 x2 x3 x4 k1 P3 P4
    go_wp2_with fail
    refine (PI.out).mono ?_
    rintro e w4 ⟨rfl, rfl⟩
    go_wp2_with fail
    refine (PB.out).mono ?_
    rintro e w4 ⟨rfl, rfl⟩
    go_wp2_with fail
    refine (PP.out).mono ?_
    rintro e w4 ⟨rfl, rfl⟩
    go_wp2_with fail
    refine (PC.out).mono ?_
    rintro e w4 ⟨rfl, rfl⟩
    go_wp2_with fail
    refine (PT.out _).mono ?_
    rintro e w4 ⟨rfl, rfl⟩
    go_wp2_with fail
    refine (PW.out).mono ?_
    rintro e w5 ⟨rfl, hB5⟩
    have HB5 := Lib.hid (HB4.out.trans (hB5.mono HB4.out.size))
    clear hB5
    go_wp2_with fail
    go_ret
    exact ⟨rfl, HB5.out⟩
end Go.Proofs.YtabecceojbeomaaGreatDoor
