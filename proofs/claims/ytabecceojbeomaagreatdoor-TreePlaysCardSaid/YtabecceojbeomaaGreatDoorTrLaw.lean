/- The contracts of the parts TrNew, TrAwake, TrSame, TrEq, in one text. Conditions: those told at each part. -/
import Derived.Test.YtabecceojbeomaaGreatDoorTrCalls
import Derived.Test.YtabecceojbeomaaGreatDoorTrEnd
import Derived.Lib.SlBytesConst
import Derived.Test.YtabecceojbeomaaGreatDoorSame
import Derived.Test.YtabecceojbeomaaGreatDoorDirUnder
import Derived.Test.YtabecceojbeomaaGreatDoorEqual
section
/- The contracts of vol.Right and of tree.New. Condition: the library's variable MaxLen holds an int. -/
namespace Go.Cat.Tree
def rightP (I B : Int) : Prop := 1 ≤ I ∧ I ≤ 64 ∧ 1 ≤ B ∧ B ≤ 96
def rightB (I B : Int) : Bool := decide (1 ≤ I ∧ I ≤ 64 ∧ 1 ≤ B ∧ B ≤ 96)
theorem right_yes {I B : Int} (h : rightP I B) : rightB I B = true := by unfold rightP at h; simp [rightB, h]
theorem right_no {I B : Int} (h : ¬ rightP I B) : rightB I B = false := by unfold rightP at h; unfold rightB; exact decide_eq_false h
end Go.Cat.Tree
namespace Go.Proofs.YtabecceojbeomaaGreatDoor
open Go.RowKit Go.Cat Go.Cat.Dir Go.Cat.Tree Go.Maps
theorem vright_any (I B : Int) (w : World) :
    Calls Tryz.prog 24 #[.agg #[.int .i64 I, .int .i64 B]] w fun e w' => e = .returned (.bool (rightB I B)) ∧ Below w.heap.size w w' := by
  have hB0 : Below w.heap.size w (w.alloc (.cells #[.int .i64 I, .int .i64 B] 30)) := (Below.refl _ _).alloc (Nat.le_refl _) _
  by_cases h1 : 1 ≤ I
  · have d1 : decide (1 ≤ I) = true := by simpa using h1
    by_cases h2 : I ≤ 64
    · have d2 : decide (I ≤ 64) = true := by simpa using h2
      by_cases h3 : 1 ≤ B
      · have d3 : decide (1 ≤ B) = true := by simpa using h3
        by_cases h4 : B ≤ 96
        · rw [right_yes ⟨h1, h2, h3, h4⟩]
          go_enter Tryz.func24, Tryz.ntmps24
          go_wp2
          go_ret
          exact ⟨rfl, hB0⟩
        · rw [right_no (fun e => h4 e.2.2.2)]
          have d4 : decide (B ≤ 96) = false := by simpa using h4
          go_enter Tryz.func24, Tryz.ntmps24
          go_wp2
          go_ret
          exact ⟨rfl, hB0⟩
      · rw [right_no (fun e => h3 e.2.2.1)]
        have d3 : decide (1 ≤ B) = false := by simpa using h3
        go_enter Tryz.func24, Tryz.ntmps24
        go_wp2
        go_ret
        exact ⟨rfl, hB0⟩
    · rw [right_no (fun e => h2 e.2.1)]
      have d2 : decide (I ≤ 64) = false := by simpa using h2
      go_enter Tryz.func24, Tryz.ntmps24
      go_wp2
      go_ret
      exact ⟨rfl, hB0⟩
  · rw [right_no (fun e => h1 e.1)]
    have d1 : decide (1 ≤ I) = false := by simpa using h1
    go_enter Tryz.func24, Tryz.ntmps24
    go_wp2
    go_ret
    exact ⟨rfl, hB0⟩
/-- What New tells of a shape that may be. -/
def ToldNw (I J : Int) (w : World) (e : Ending) (w' : World) : Prop := ∃ (a M : Nat) (es : List (Txt × El)), e = .returned (.tuple #[.pointer (some ⟨a, 0, none⟩), .int .i64 0]) ∧ TrAt w' a I J M es ∧ ths es = newV ∧ w.heap.size ≤ a ∧ Below w.heap.size w w'

set_option maxRecDepth 100000 in
set_option maxHeartbeats 1000000 in
theorem new_not (I J : Int) (w : World) (h : ¬ rightP I J) :
    Calls Tryz.prog 8 #[.agg #[.int .i64 I, .int .i64 J]] w fun e w' => e = .returned (.tuple #[.pointer none, .int .i64 1]) ∧ Below w.heap.size w w' := by
  have p1 := vright_any I J (w.alloc (.cells #[.int .i64 I, .int .i64 J] 30))
  rw [right_no h] at p1
  have P1 := Lib.hid p1
  have HB : Hid (Below w.heap.size w (w.alloc (.cells #[.int .i64 I, .int .i64 J] 30))) := (Below.refl _ _).alloc (Nat.le_refl _) _
  clear p1 h
  go_enter Tryz.func8, Tryz.ntmps8
  go_wp2_with fail
  refine (P1.out).mono ?_
  rintro e w1 ⟨rfl, hB1⟩
  have HB1 := Lib.hid (HB.out.trans (hB1.mono HB.out.size))
  clear hB1
  go_wp2_with fail
  go_ret2
  exact ⟨rfl, HB1.out⟩

set_option maxRecDepth 100000 in
set_option maxHeartbeats 1000000 in
theorem new_ok (I J : Int) (w : World) (h : rightP I J) (hg : MaxG w) :
    Calls Tryz.prog 8 #[.agg #[.int .i64 I, .int .i64 J]] w (ToldNw I J w) := by
  have p1 := vright_any I J (w.alloc (.cells #[.int .i64 I, .int .i64 J] 30))
  rw [right_yes h] at p1
  have P1 := Lib.hid p1
  have HB : Hid (Below w.heap.size w (w.alloc (.cells #[.int .i64 I, .int .i64 J] 30))) := (Below.refl _ _).alloc (Nat.le_refl _) _
  have HG := Lib.hid hg
  have HX := Lib.hid (heap_alloc_new w (.cells #[.int .i64 I, .int .i64 J] 30))
  have hmm := @run_makeMap Tryz.prog
  clear p1 h hg
  go_enter Tryz.func8, Tryz.ntmps8
  go_wp2_with fail
  refine (P1.out).mono ?_
  rintro e w1 ⟨rfl, hB1⟩
  have hx1 := heap_below HX.out hB1
  have k0 : w1.cell? ⟨w.heap.size, 0, none⟩ = some (.int .i64 I) := cell_of_row _ _ 0 _ _ _ hx1
  have k1 : w1.cell? ⟨w.heap.size, 1, none⟩ = some (.int .i64 J) := cell_of_row _ _ 1 _ _ _ hx1
  have HB1 := Lib.hid (HB.out.trans (hB1.mono HB.out.size))
  have hT0 : TM (w1.alloc (.map #[] 0)) Tryz.prog 9 w1.heap.size [] := ⟨World.ownsMap_made w1 _ _ _, List.Pairwise.nil, fun x hx => by cases hx⟩
  obtain ⟨w3, hrun, hT3, ht3⟩ := hT0.store Tryz.underlying9 Tryz.underlying61 (by decide) (p := [47]) (by decide) (x := (⟨true, []⟩, none, 0)) ⟨.inl rfl, Nat.le_refl _, Nat.zero_le _⟩
  have hrun : (Instr.mapUpdate 61 (.map (some w1.heap.size)) (.string ⟨#[47]⟩) (.agg #[.bool true, .slice none 0 0])).run Tryz.prog (w1.alloc (.map #[] 0)) = .ok () w3 := hrun
  have hB2 : Below w.heap.size w (w1.alloc (.map #[] 0)) := HB1.out.trans (((Below.refl _ w1).alloc (Nat.le_refl _) _).mono HB1.out.size)
  have hB3 := hB2.trans ((turned_tch ht3).below hB2.size fun k e => by rw [e]; exact HB1.out.size)
  have HB3 := Lib.hid hB3
  have HT3 := Lib.hid hT3
  have HG3 : Hid (MaxG w3) := MaxG.touch (K := fun _ => False) HG.out (Tch.of_below hB3) (fun e => e)
  clear hB1 hx1 hT0 hT3 ht3 hB2 hB3
  go_wp2_with fail
  go_ret2
  have hb := (Below.refl _ w3).alloc (Nat.le_refl _) (.cells #[.int .i64 I, .int .i64 J, .map (some w1.heap.size)] 63)
  refine ⟨w3.heap.size, w1.heap.size, _, rfl, ⟨heap_alloc_new _ _, HT3.out.below hb, ?_, HG3.out.touch (K := fun _ => False) (Tch.of_below hb) (fun e => e)⟩, rfl, HB3.out.size, HB3.out.trans (hb.mono HB3.out.size)⟩
  obtain ⟨m, hm⟩ := HG3.out
  have := World.block_lt_of_cell? w3 _ hm
  intro e
  have e : w3.heap.size = 0 := e
  omega
end Go.Proofs.YtabecceojbeomaaGreatDoor
end

section
/- The contract of the law's example. Condition: the library's variable MaxLen holds an int. -/
namespace Go.Cat.Tree
open Go.Cat Go.Cat.Dir
def awC1 : CallV := ⟨1, [47, 97], [], 0, 0, []⟩
def awC2 : CallV := ⟨6, [47, 97], [], 0, 0, [97, 98, 99]⟩
def awC3 : CallV := ⟨10, [47, 97], [], 0, 0, []⟩
def awL1 : TL := [([47], ⟨true, []⟩), ([47, 97], ⟨false, []⟩)]
def awL2 : TL := [([47], ⟨true, []⟩), ([47, 97], ⟨false, [97, 98, 99]⟩)]
theorem aw1 : doV 4 4 newV awC1 = (awL1, {}) := by kernel_rfl
theorem aw2 : doV 4 4 awL1 awC2 = (awL2, {}) := by kernel_rfl
theorem aw3 : doV 4 4 awL2 awC3 = (awL2, { size := 3 }) := by kernel_rfl
theorem awB : blocksV awL2 = 2 := by kernel_rfl
theorem inv0 {I J : Int} (h1 : 1 ≤ I) (h2 : 1 ≤ J) : InvA I J newV := ⟨Inv.new, by show ((1 : Nat) : Int) ≤ I; omega, by have : blocksV newV = 0 := by kernel_rfl
                                                                                                                         omega⟩
theorem awI1 : Inv awL1 := by have := do_inv (inv0 (I := 4) (J := 4) (by decide) (by decide)) awC1; rw [aw1] at this; exact this.inv
theorem awI2 : Inv awL2 := by have := do_inv (do_inv (inv0 (I := 4) (J := 4) (by decide) (by decide)) awC1) awC2; rw [aw1, aw2] at this; exact this.inv
end Go.Cat.Tree
namespace Go.Proofs.YtabecceojbeomaaGreatDoor
open Go.RowKit Go.Cat Go.Cat.Dir Go.Cat.Tree Go.Maps
theorem sees_newM (w : World) (xs : List Value) (e : TypeId) (fr : Nat × Nat) : Sees (w.alloc (.cells xs.toArray e fr)) (some ⟨w.heap.size, 0, none⟩) xs := by
  refine .inr ⟨_, 0, rfl, fun j u hu => ?_⟩
  rw [Nat.zero_add, cell_of_row _ _ _ _ _ _ (heap_alloc_new w (.cells xs.toArray e fr))]
  simpa using hu
theorem ths_len {es : List (Txt × El)} {l : TL} (h : ths es = l) : es.length = l.length := by rw [← h, ths_length]

set_option maxRecDepth 100000 in
set_option maxHeartbeats 4000000 in
theorem awake_any (w : World) (hg : MaxG w) : Calls Tryz.prog 7 #[] w fun e w' => e = .returned (.bool true) ∧ Below w.heap.size w w' := by
  have P1 := Lib.hid (new_ok 4 4 w ⟨by decide, by decide, by decide, by decide⟩ hg)
  have P2 : Hid (∀ W a M es, TrAt W a 4 4 M es → ths es = newV → Calls Tryz.prog 10 #[.pointer (some ⟨a, 0, none⟩), .agg #[.int .i64 1, .string ⟨#[47, 97]⟩, .string ⟨#[]⟩, .int .i64 0, .int .i64 0, .slice none 0 0]] W (ToldDo (awL1, {}) W a 4 4)) := fun W a M es h he => by
    have := do_any a 4 4 M es awC1 none 0 W h (.inl rfl) (by rw [he]; exact Inv.new) (by rw [ths_len he]; decide) (by decide) (by decide)
    rw [he, aw1] at this
    exact this
  have P3 : Hid (∀ W a M es, TrAt W a 4 4 M es → ths es = awL1 → Calls Tryz.prog 10 #[.pointer (some ⟨a, 0, none⟩), .agg #[.int .i64 6, .string ⟨#[47, 97]⟩, .string ⟨#[]⟩, .int .i64 0, .int .i64 0, .slice (some ⟨W.heap.size, 0, none⟩) 3 3]] (W.alloc (.cells #[.int .u8 97, .int .u8 98, .int .u8 99] 5 (3, 4))) (ToldDo (awL2, {}) (W.alloc (.cells #[.int .u8 97, .int .u8 98, .int .u8 99] 5 (3, 4))) a 4 4)) := fun W a M es h he => by
    have := do_any a 4 4 M es awC2 (some ⟨W.heap.size, 0, none⟩) 3 (W.alloc (.cells #[.int .u8 97, .int .u8 98, .int .u8 99] 5 (3, 4))) (h.below ((Below.refl _ _).alloc (Nat.le_refl _) _)) (sees_newM W [by8 97, by8 98, by8 99] 5 (3, 4)) (by rw [he]; exact awI1) (by rw [ths_len he]; decide) (by decide) (by decide)
    rw [he, aw2] at this
    exact this
  have P4 : Hid (∀ W a M es, TrAt W a 4 4 M es → ths es = awL2 → Calls Tryz.prog 10 #[.pointer (some ⟨a, 0, none⟩), .agg #[.int .i64 10, .string ⟨#[47, 97]⟩, .string ⟨#[]⟩, .int .i64 0, .int .i64 0, .slice none 0 0]] W (ToldDo (awL2, { size := 3 }) W a 4 4)) := fun W a M es h he => by
    have := do_any a 4 4 M es awC3 none 0 W h (.inl rfl) (by rw [he]; exact awI2) (by rw [ths_len he]; decide) (by decide) (by decide)
    rw [he, aw3] at this
    exact this
  have P5 : Hid (∀ W a M es, TrAt W a 4 4 M es → ths es = awL2 → Calls Tryz.prog 17 #[.pointer (some ⟨a, 0, none⟩)] W fun e w' => e = .returned (.int .i64 2) ∧ Below W.heap.size W w') := fun W a M es h he => by
    have := blocks_any a 4 4 M es W h (keyB_inv (by rw [he]; exact awI2) (by rw [ths_len he]; decide))
    unfold ToldN at this
    rw [he, awB] at this
    exact this
  have P6 : Hid (∀ W a M es, TrAt W a 4 4 M es → ths es = awL2 → Calls Tryz.prog 16 #[.pointer (some ⟨a, 0, none⟩)] W fun e w' => e = .returned (.int .i64 2) ∧ W = w') := fun W a M es h he => by
    have := inodes_any a 4 4 M es W h
    rw [ths_len he] at this
    exact this
  have kc := fun (w : World) (C : Array Value) (n c : Nat) => Lib.run_convert_bytes_const (P := Tryz.prog) w 23 5 C n c Tryz.underlying23 Tryz.underlying5
  clear hg
  go_enter Tryz.func7, Tryz.ntmps7
  go_wp2_with fail
  refine (P1.out).mono ?_
  rintro e w1 ⟨a, M, es, rfl, hT1, he1, ha1, hB1⟩
  have HT1 := Lib.hid hT1
  have HA1 := Lib.hid ha1
  have HB1 := Lib.hid hB1
  have Q2 := Lib.hid (P2.out w1 a M es hT1 he1)
  clear hT1 he1 ha1 hB1 P1 P2
  go_wp2_with fail
  refine (Q2.out).mono ?_
  rintro e w2 ⟨M2, es2, B, cB, C, cC, rfl, _, _, hT2, he2, ht2⟩
  have hB2 := HB1.out.trans (ht2.below HB1.out.size fun k e => by rw [e]; exact HA1.out)
  have Q3 := Lib.hid (P3.out w2 a M2 es2 hT2 he2)
  have HB2 := Lib.hid (hB2.trans (((Below.refl _ w2).alloc (Nat.le_refl _) (.cells #[.int .u8 97, .int .u8 98, .int .u8 99] 5 (3, 4))).mono hB2.size))
  clear hT2 he2 ht2 hB2 Q2 HB1 P3
  go_wp2_with fail
  refine (Q3.out).mono ?_
  rintro e w3 ⟨M3, es3, B3, cB3, C3, cC3, rfl, _, _, hT3, he3, ht3⟩
  have hB3 := HB2.out.trans (ht3.below HB2.out.size fun k e => by rw [e]; exact HA1.out)
  have hb3 := (Below.refl _ w3).alloc (Nat.le_refl _) (.cells #[.int .i64 0, .slice B3 0 cB3, .slice C3 0 cC3, .int .i64 0, .bool false] 36)
  have hN3 := heap_alloc_new w3 (.cells #[.int .i64 0, .slice B3 0 cB3, .slice C3 0 cC3, .int .i64 0, .bool false] 36)
  have hT3 := hT3.below hb3
  have hB3 := hB3.trans (hb3.mono hB3.size)
  clear hb3 ht3 Q3 HB2
  go_upto_region 4 with (fail)
  generalize w3.alloc (.cells #[.int .i64 0, .slice B3 0 cB3, .slice C3 0 cC3, .int .i64 0, .bool false] 36) = W3 at hN3 hT3 hB3 ⊢
  generalize w3.heap.size = N3 at hN3 ⊢
  have hne : N3 ≠ a := fun e => by
    rw [e, hT3.blk] at hN3
    injection hN3 with hN3
    injection hN3 with _ hN3
    exact absurd hN3 (by decide)
  have Q4 := Lib.hid (P4.out W3 a M3 es3 hT3 he3)
  have HN3 := Lib.hid hN3
  have HNe := Lib.hid hne
  have HB3 := Lib.hid hB3
  clear hT3 he3 hB3 hN3 hne P4
  go_wp2_with fail
  refine (Q4.out).mono ?_
  rintro e w4 ⟨M4, es4, B4, cB4, C4, cC4, rfl, _, _, hT4, he4, ht4⟩
  have hB4 := HB3.out.trans (ht4.below HB3.out.size fun k e => by rw [e]; exact HA1.out)
  have hb4 := (Below.refl _ w4).alloc (Nat.le_refl _) (.cells #[.int .i64 0, .slice B4 0 cB4, .slice C4 0 cC4, .int .i64 3, .bool false] 36)
  have hN4 := heap_alloc_new w4 (.cells #[.int .i64 0, .slice B4 0 cB4, .slice C4 0 cC4, .int .i64 3, .bool false] 36)
  have hN3 := heap_below (heap_touch HN3.out ht4 HNe.out) hb4
  have hT4 := hT4.below hb4
  have hB4 := hB4.trans (hb4.mono hB4.size)
  clear hb4 ht4 Q4 HB3 HN3
  go_upto_region 5 with (fail)
  generalize w4.alloc (.cells #[.int .i64 0, .slice B4 0 cB4, .slice C4 0 cC4, .int .i64 3, .bool false] 36) = W4 at hN4 hN3 hT4 hB4 ⊢
  generalize w4.heap.size = N4 at hN4 ⊢
  have x0 : W4.cell? ⟨N3, 0, none⟩ = some (.int .i64 0) := cell_of_row _ _ 0 _ _ _ hN3
  have y3 : W4.cell? ⟨N4, 3, none⟩ = some (.int .i64 3) := cell_of_row _ _ 3 _ _ _ hN4
  have Q5 := Lib.hid (P5.out W4 a M4 es4 hT4 he4)
  have HT4 := Lib.hid hT4
  have HE4 := Lib.hid he4
  have HB4 := Lib.hid hB4
  clear hN3 hN4 hT4 he4 hB4 P5
  go_wp2_with fail
  refine (Q5.out).mono ?_
  rintro e w5 ⟨rfl, hB5⟩
  have Q6 := Lib.hid (P6.out w5 a M4 es4 (HT4.out.below hB5) HE4.out)
  have HB5 := Lib.hid (HB4.out.trans (hB5.mono HB4.out.size))
  clear hB5 Q5 x0 y3
  go_wp2_with fail
  refine (Q6.out).mono ?_
  rintro e w6 ⟨rfl, rfl⟩
  go_wp2_with fail
  go_ret
  exact ⟨rfl, HB5.out⟩
end Go.Proofs.YtabecceojbeomaaGreatDoor
end

section
/- The contracts of the reference's Same and of tree.Same at answers that are the same. Condition: at most 1000000 bytes, and names. -/
namespace Go.Proofs.YtabecceojbeomaaGreatDoor
open Go.RowKit Go.Cat Go.Cat.Dir Go.Cat.Tree Go.Maps
/-- An answer's value. -/
abbrev ansV (r : AnsV) (B : Option Addr) (cB : Nat) (C : Option Addr) (cC : Nat) : Value := .agg (ansC r.code B r.data.length cB C r.names.length cC r.size r.dir)

set_option maxRecDepth 100000 in
set_option maxHeartbeats 2000000 in
theorem rsame_eq (r : AnsV) (B : Option Addr) (cB : Nat) (C : Option Addr) (cC : Nat) (B' : Option Addr) (cB' : Nat) (C' : Option Addr) (cC' : Nat) (w : World) (h1 : Bytes w B r.data) (h2 : Texts w C r.names) (h3 : Bytes w B' r.data) (h4 : Texts w C' r.names) (hd : r.data.length ≤ 1000000) (hn : r.names.length ≤ 1000000) :
    Calls Tryz.prog 15 #[ansV r B cB C cC, ansV r B' cB' C' cC'] w fun e w' => e = .returned (.bool true) ∧ Below w.heap.size w w' := by
  obtain ⟨W, hW⟩ : ∃ W, W = (w.alloc (.cells (ansC r.code B r.data.length cB C r.names.length cC r.size r.dir) 36)).alloc (.cells (ansC r.code B' r.data.length cB' C' r.names.length cC' r.size r.dir) 36) := ⟨_, rfl⟩
  have hb : Below w.heap.size w W := by rw [hW]; exact ((Below.refl _ _).alloc (Nat.le_refl _) _).alloc (by simp) _
  have hx : W.heap[w.heap.size]? = some (.cells (ansC r.code B r.data.length cB C r.names.length cC r.size r.dir) 36 (0, 0)) := by rw [hW]; exact heap_alloc (heap_alloc_new w _) _
  have hy : W.heap[w.heap.size + 1]? = some (.cells (ansC r.code B' r.data.length cB' C' r.names.length cC' r.size r.dir) 36 (0, 0)) := by
    rw [hW]
    have := heap_alloc_new (w.alloc (.cells (ansC r.code B r.data.length cB C r.names.length cC r.size r.dir) 36)) (.cells (ansC r.code B' r.data.length cB' C' r.names.length cC' r.size r.dir) 36)
    simpa using this
  have p1 := same8_any B B' r.data.length r.data.length cB cB' r.data r.data W (h1.below hb) (h3.below hb) rfl rfl (by omega) (by omega)
  have p2 := fun W' (h : Below W.heap.size W W') => sametexts_any C C' r.names r.names cC cC' W' ((Sees.below h2 hb).below h) ((Sees.below h4 hb).below h) hn
  simp only [decide_true] at p1 p2
  obtain ⟨n, hn1⟩ : ∃ n, n = r.data.length := ⟨_, rfl⟩
  obtain ⟨m, hm1⟩ : ∃ m, m = r.names.length := ⟨_, rfl⟩
  rw [← hn1] at p1 hW hx hy
  rw [← hm1] at p2 hW hx hy
  unfold ansV
  rw [← hn1, ← hm1]
  have P1 := Lib.hid p1
  have P2 := Lib.hid p2
  have HW := Lib.hid hW
  have HX := Lib.hid hx
  have HY := Lib.hid hy
  have HB := Lib.hid hb
  clear h1 h2 h3 h4 hd hn p1 p2 hn1 hm1 hW hx hy hb
  go_enter Tryz.func15, Tryz.ntmps15
  go_upto_region 1 with (fail)
  rw [← HW.out]
  have x0 : W.cell? ⟨w.heap.size, 0, none⟩ = some (.int .i64 r.code) := cell_of_row _ _ 0 _ _ _ HX.out
  have x1 : W.cell? ⟨w.heap.size, 1, none⟩ = some (.slice B n cB) := cell_of_row _ _ 1 _ _ _ HX.out
  have x2 : W.cell? ⟨w.heap.size, 2, none⟩ = some (.slice C m cC) := cell_of_row _ _ 2 _ _ _ HX.out
  have x3 : W.cell? ⟨w.heap.size, 3, none⟩ = some (.int .i64 r.size) := cell_of_row _ _ 3 _ _ _ HX.out
  have x4 : W.cell? ⟨w.heap.size, 4, none⟩ = some (.bool r.dir) := cell_of_row _ _ 4 _ _ _ HX.out
  have y0 : W.cell? ⟨w.heap.size + 1, 0, none⟩ = some (.int .i64 r.code) := cell_of_row _ _ 0 _ _ _ HY.out
  have y1 : W.cell? ⟨w.heap.size + 1, 1, none⟩ = some (.slice B' n cB') := cell_of_row _ _ 1 _ _ _ HY.out
  have y2 : W.cell? ⟨w.heap.size + 1, 2, none⟩ = some (.slice C' m cC') := cell_of_row _ _ 2 _ _ _ HY.out
  have y3 : W.cell? ⟨w.heap.size + 1, 3, none⟩ = some (.int .i64 r.size) := cell_of_row _ _ 3 _ _ _ HY.out
  have y4 : W.cell? ⟨w.heap.size + 1, 4, none⟩ = some (.bool r.dir) := cell_of_row _ _ 4 _ _ _ HY.out
  have e1 : (r.code == r.code) = true := by simp
  have e2 : (r.size == r.size) = true := by simp
  have e3 : (r.dir == r.dir) = true := by simp
  go_wp2_with fail
  refine (P1.out).mono ?_
  rintro e w2 ⟨rfl, k, rfl⟩
  have P3 := Lib.hid (P2.out _ (below_drewN (Below.refl _ W) k))
  go_wp2_with fail
  refine (P3.out).mono ?_
  rintro e w3 ⟨rfl, hB3⟩
  have HB3 := Lib.hid (HB.out.trans ((below_drewN (Below.refl _ W) k).trans hB3 |>.mono HB.out.size))
  clear hB3
  go_wp2_with fail
  go_ret
  exact ⟨rfl, HB3.out⟩
set_option maxRecDepth 100000 in
set_option maxHeartbeats 2000000 in
theorem tsame_eq (r : AnsV) (B : Option Addr) (cB : Nat) (C : Option Addr) (cC : Nat) (B' : Option Addr) (cB' : Nat) (C' : Option Addr) (cC' : Nat) (w : World) (h1 : Bytes w B r.data) (h2 : Texts w C r.names) (h3 : Bytes w B' r.data) (h4 : Texts w C' r.names) (hn : r.names.length ≤ 1000000) :
    Calls Tryz.prog 22 #[ansV r B cB C cC, ansV r B' cB' C' cC'] w fun e w' => e = .returned (.bool true) ∧ Below w.heap.size w w' := by
  obtain ⟨W, hW⟩ : ∃ W, W = (w.alloc (.cells (ansC r.code B r.data.length cB C r.names.length cC r.size r.dir) 36)).alloc (.cells (ansC r.code B' r.data.length cB' C' r.names.length cC' r.size r.dir) 36) := ⟨_, rfl⟩
  have hb : Below w.heap.size w W := by rw [hW]; exact ((Below.refl _ _).alloc (Nat.le_refl _) _).alloc (by simp) _
  have hx : W.heap[w.heap.size]? = some (.cells (ansC r.code B r.data.length cB C r.names.length cC r.size r.dir) 36 (0, 0)) := by rw [hW]; exact heap_alloc (heap_alloc_new w _) _
  have hy : W.heap[w.heap.size + 1]? = some (.cells (ansC r.code B' r.data.length cB' C' r.names.length cC' r.size r.dir) 36 (0, 0)) := by
    rw [hW]
    have := heap_alloc_new (w.alloc (.cells (ansC r.code B r.data.length cB C r.names.length cC r.size r.dir) 36)) (.cells (ansC r.code B' r.data.length cB' C' r.names.length cC' r.size r.dir) 36)
    simpa using this
  have p1 := equal_any B B' cB cB' r.data r.data W (h1.below hb) (h3.below hb)
  have p2 := eqtexts_any C C' r.names r.names cC cC' W (Sees.below h2 hb) (Sees.below h4 hb) (by omega) (by omega)
  simp only [decide_true] at p1 p2
  obtain ⟨n, hn1⟩ : ∃ n, n = r.data.length := ⟨_, rfl⟩
  obtain ⟨m, hm1⟩ : ∃ m, m = r.names.length := ⟨_, rfl⟩
  rw [← hn1] at p1 hW hx hy
  rw [← hm1] at p2 hW hx hy
  unfold ansV
  rw [← hn1, ← hm1]
  have P1 := Lib.hid p1
  have P2 := Lib.hid p2
  have HW := Lib.hid hW
  have HX := Lib.hid hx
  have HY := Lib.hid hy
  have HB := Lib.hid hb
  clear h1 h2 h3 h4 hn p1 p2 hn1 hm1 hW hx hy hb
  go_enter Tryz.func22, Tryz.ntmps22
  go_upto_region 1 with (fail)
  rw [← HW.out]
  have x0 : W.cell? ⟨w.heap.size, 0, none⟩ = some (.int .i64 r.code) := cell_of_row _ _ 0 _ _ _ HX.out
  have x1 : W.cell? ⟨w.heap.size, 1, none⟩ = some (.slice B n cB) := cell_of_row _ _ 1 _ _ _ HX.out
  have x2 : W.cell? ⟨w.heap.size, 2, none⟩ = some (.slice C m cC) := cell_of_row _ _ 2 _ _ _ HX.out
  have x3 : W.cell? ⟨w.heap.size, 3, none⟩ = some (.int .i64 r.size) := cell_of_row _ _ 3 _ _ _ HX.out
  have x4 : W.cell? ⟨w.heap.size, 4, none⟩ = some (.bool r.dir) := cell_of_row _ _ 4 _ _ _ HX.out
  have y0 : W.cell? ⟨w.heap.size + 1, 0, none⟩ = some (.int .i64 r.code) := cell_of_row _ _ 0 _ _ _ HY.out
  have y1 : W.cell? ⟨w.heap.size + 1, 1, none⟩ = some (.slice B' n cB') := cell_of_row _ _ 1 _ _ _ HY.out
  have y2 : W.cell? ⟨w.heap.size + 1, 2, none⟩ = some (.slice C' m cC') := cell_of_row _ _ 2 _ _ _ HY.out
  have y3 : W.cell? ⟨w.heap.size + 1, 3, none⟩ = some (.int .i64 r.size) := cell_of_row _ _ 3 _ _ _ HY.out
  have y4 : W.cell? ⟨w.heap.size + 1, 4, none⟩ = some (.bool r.dir) := cell_of_row _ _ 4 _ _ _ HY.out
  have e1 : (r.code == r.code) = true := by simp
  have e2 : (r.size == r.size) = true := by simp
  have e3 : (r.dir == r.dir) = true := by simp
  go_wp2_with fail
  refine (P1.out).mono ?_
  rintro e w2 ⟨rfl, rfl⟩
  go_wp2_with fail
  refine (P2.out).mono ?_
  rintro e w3 ⟨rfl, hB3⟩
  have HB3 := Lib.hid (HB.out.trans (hB3.mono HB.out.size))
  clear hB3
  go_wp2_with fail
  go_ret
  exact ⟨rfl, HB3.out⟩
end Go.Proofs.YtabecceojbeomaaGreatDoor
end

section
/- The contract of the law's equal at two trees that have the same. Condition: the bounds on a tree's things. -/
namespace Go.Proofs.YtabecceojbeomaaGreatDoor
open Go.RowKit Go.Cat Go.Cat.Dir Go.Cat.Tree Go.Maps
theorem fileB_len {l : TL} {n : Nat} (h : ∀ y ∈ l, y.2.b.length ≤ n) (p : Txt) : (fileB l p).1.length ≤ n := by
  unfold fileB
  cases hg : getT p l with
  | none => exact Nat.zero_le _
  | some x =>
    simp only
    split
    · exact Nat.zero_le _
    · exact h _ (get_mem hg)
theorem keyB_ths {es : List (Txt × El)} (h : KeyB es) : ∀ y ∈ ths es, y.2.b.length ≤ 100000 := fun y hy => by
  obtain ⟨z, hz, rfl⟩ := List.mem_map.1 hy
  exact h.f z hz
theorem keyB_of {es es' : List (Txt × El)} (h : KeyB es) (he : ths es = ths es') : KeyB es' := by
  have hm : ∀ y ∈ es', ∃ z ∈ es, z.1 = y.1 ∧ z.2.1 = y.2.1 := fun y hy => by
    have h1 : (y.1, y.2.1) ∈ ths es' := List.mem_map_of_mem (f := fun y : Txt × El => (y.1, y.2.1)) hy
    rw [← he] at h1
    obtain ⟨z, hz, e⟩ := List.mem_map.1 h1
    injection e with e1 e2
    exact ⟨z, hz, e1, e2⟩
  refine ⟨by have := congrArg List.length he; rw [ths_length, ths_length] at this; have := h.n; omega, fun y hy => ?_, fun y hy => ?_⟩
  · obtain ⟨z, hz, e1, _⟩ := hm y hy; rw [← e1]; exact h.k z hz
  · obtain ⟨z, hz, _, e2⟩ := hm y hy; rw [← e2]; exact h.f z hz

set_option maxRecDepth 100000 in
set_option maxHeartbeats 4000000 in
theorem equal_eq (a : Nat) (I J : Int) (M : Nat) (es : List (Txt × El)) (b : Nat) (I' J' : Int) (M' : Nat) (es' : List (Txt × El)) (w : World) (h : TrAt w a I J M es) (h' : TrAt w b I' J' M' es') (he : ths es = ths es') (hk : KeyB es) :
    Calls Tryz.prog 12 #[.pointer (some ⟨a, 0, none⟩), .pointer (some ⟨b, 0, none⟩)] w fun e w' => e = .returned (.bool true) ∧ Below w.heap.size w w' := by
  have hk' := keyB_of hk he
  have hks : keysE es' = keysE es := by rw [← keys_ths, ← keys_ths, he]
  have hl' : es'.length = es.length := by have := congrArg List.length he; rw [ths_length, ths_length] at this; exact this.symm
  have p1 := paths_any a I J M es w h hk
  have p2 := fun W (hB : Below w.heap.size w W) => paths_any b I' J' M' es' W (h'.below hB) hk'
  unfold ToldP at p1 p2
  rw [hl'] at p2
  rw [hks] at p2
  have hkl : (keysE es).length = es.length := List.length_map _
  obtain ⟨ks, hks0⟩ : ∃ ks, ks = keysE es := ⟨_, rfl⟩
  have hkm : ∀ q ∈ ks, q.length < 4294967281 := fun q hq => by rw [hks0] at hq; obtain ⟨z, hz, e⟩ := List.mem_map.1 hq; rw [← e]; exact hk.k z hz
  obtain ⟨n, hn⟩ : ∃ n, n = es.length := ⟨_, rfl⟩
  rw [← hks0, ← hn] at p1 p2 hkl
  have hn5 : n ≤ 100000 := by rw [hn]; exact hk.n
  have p3 := fun W q (hB : Below w.heap.size w W) (hq : q.length < 4294967281) => fil_any a I J M es q W (h.below hB) hq hk.f
  have p4 := fun W q (hB : Below w.heap.size w W) (hq : q.length < 4294967281) => fil_any b I' J' M' es' q W (h'.below hB) hq hk'.f
  rw [← he] at p4
  have P1 := Lib.hid p1
  have P2 := Lib.hid p2
  have P3 := Lib.hid p3
  have P4 := Lib.hid p4
  have HKl := Lib.hid hkl
  have HKm := Lib.hid hkm
  have HFl := Lib.hid (fileB_len (keyB_ths hk))
  clear h h' he hk hk' hks hl' p1 p2 p3 p4 hkl hkm hks0 hn
  go_enter Tryz.func12, Tryz.ntmps12
  go_wp2_with fail
  refine (P1.out).mono ?_
  rintro e w1 ⟨A, cA, rfl, hA, hB1⟩
  have P5 := Lib.hid (P2.out w1 hB1)
  have HA := Lib.hid hA
  have HB1 := Lib.hid hB1
  clear hA hB1 P1 P2
  go_wp2_with fail
  refine (P5.out).mono ?_
  rintro e w2 ⟨B, cB, rfl, hT, hB2⟩
  have hA2 := Sees.below HA.out hB2
  have hB3 := HB1.out.trans (hB2.mono HB1.out.size)
  have p6 := sametexts_any A B ks ks cA cB w2 hA2 hT (by rw [HKl.out]; omega)
  simp only [decide_true] at p6
  rw [HKl.out] at p6
  have P6 := Lib.hid p6
  have HA2 := Lib.hid hA2
  have HB3 := Lib.hid hB3
  clear hT hB2 hA2 hB3 p6 P5 HA HB1
  go_wp2_with fail
  refine (P6.out).mono ?_
  rintro e w3 ⟨rfl, hB4⟩
  have HA3 := Lib.hid (Sees.below HA2.out hB4)
  have HB4 := Lib.hid (HB3.out.trans (hB4.mono HB3.out.size))
  clear hB4 P6 HA2 HB3
  go_wp2_with fail
  go_loopw [6] (fun iv wr => ∃ k : Nat, k ≤ n ∧ iv = .int .i64 k ∧ Hid (Texts wr A ks) ∧ Hid (Below w.heap.size w wr)) (fun iv _ => n - (intOf iv).toNat)
  case atStart => exact ⟨0, Nat.zero_le _, rfl, HA3, HB4⟩
  case round =>
    clear HA3 HB4
    obtain ⟨k, hk, rfl, HA, HB⟩ := hrel
    by_cases hlt : k < n
    · have hlk : k < ks.length := by rw [HKl.out]; exact hlt
      obtain ⟨bb, off, rfl, hbl, hcb⟩ := Texts.at_ HA.out hlk
      obtain ⟨q, hq⟩ : ∃ q, q = ks[k] := ⟨_, rfl⟩
      rw [← hq] at hcb
      have hql := HKm.out q (by rw [hq]; exact List.getElem_mem _)
      have Q3 := Lib.hid (P3.out wr q HB.out hql)
      obtain ⟨r, hr⟩ : ∃ r, r = fileB (ths es) q := ⟨_, rfl⟩
      have hfl := HFl.out q
      rw [← hr] at Q3 hfl
      have hr4 : ∀ W, Below w.heap.size w W → Calls Tryz.prog 13 #[.pointer (some ⟨b, 0, none⟩), .string (bs q)] W (ToldFl r W) := fun W hW => by
        have := P4.out W q hW hql
        rw [← hr] at this
        exact this
      have Q4 := Lib.hid hr4
      obtain ⟨rb, rk⟩ := r
      simp only at hfl
      have HFr := Lib.hid hfl
      clear hq hr hr4 hfl hlk
      go_wp2_with fail
      refine (Q3.out).mono ?_
      rintro e w4 ⟨X, cX, rfl, hX, hB4⟩
      have hcb4 := (hB4.cell (p := ⟨bb, off + k, none⟩) hbl).trans hcb
      have hB5 := HB.out.trans (hB4.mono HB.out.size)
      have Q5 := Lib.hid (Q4.out w4 hB5)
      have HX := Lib.hid hX
      have HA4 := Lib.hid (Sees.below HA.out hB4)
      have HB5 := Lib.hid hB5
      clear hX hB4 hB5 hcb Q3 Q4 HA HB
      go_wp2_with fail
      refine (Q5.out).mono ?_
      rintro e w5 ⟨Y, cY, rfl, hY, hB6⟩
      have p7 := same8_any X Y rb.length rb.length cX cY rb rb w5 (HX.out.below hB6) hY rfl rfl (by have h2 : rb.length ≤ 100000 := HFr.out; omega) (by have h2 : rb.length ≤ 100000 := HFr.out; omega)
      simp only [decide_true] at p7
      have P7 := Lib.hid p7
      have HA6 := Lib.hid (Sees.below HA4.out hB6)
      have HB7 := Lib.hid (HB5.out.trans (hB6.mono HB5.out.size))
      have t1 : (rk != rk) = false := by simp
      clear hY hB6 p7 Q5 HA4 HB5 hcb4
      go_wp2_with fail
      refine (P7.out).mono ?_
      rintro e w6 ⟨rfl, d, rfl⟩
      have HA7 := Lib.hid (Sees.drewN HA6.out d)
      have HB8 := Lib.hid (below_drewN HB7.out d)
      go_wp2_with fail
      exact ⟨⟨k + 1, by omega, by go_num, HA7, HB8⟩, by simp [intOf]; omega⟩
    · obtain rfl : k = n := by omega
      go_wp2_with fail
      go_ret
      exact ⟨rfl, HB.out⟩
end Go.Proofs.YtabecceojbeomaaGreatDoor
end
