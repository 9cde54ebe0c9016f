/- A picture that is taken in: its memory, and the contracts of Begin, Wants, Held, again and Take. Condition: at most 100 parts, at most 200000 bytes. -/
import Derived.Test.YtgjhcmjkdjnjfaaMoveRead
import Derived.Deep.DeepCutAuto
import Derived.OwnWalk
namespace Go.Cat
open Go.RowKit
/-- From w to w': new blocks, and other cells in the blocks of K alone. -/
structure Tch (K : Nat → Prop) (w w' : World) : Prop where
  os : w'.os = w.os
  tape : w'.tape = w.tape
  output : w'.output = w.output
  size : w.heap.size ≤ w'.heap.size
  block : ∀ k, k < w.heap.size → ¬ K k → w'.heap[k]? = w.heap[k]?
section
variable {K K' : Nat → Prop} {w w' w'' : World}
theorem Tch.refl (K : Nat → Prop) (w : World) : Tch K w w := ⟨rfl, rfl, rfl, Nat.le_refl _, fun _ _ _ => rfl⟩
theorem Tch.of_below (h : Below w.heap.size w w') : Tch K w w' := ⟨h.os, h.tape, h.output, h.size, fun k hk _ => h.block k hk⟩
theorem Tch.trans (h : Tch K w w') (h' : Tch K w' w'') : Tch K w w'' :=
  ⟨h'.os.trans h.os, h'.tape.trans h.tape, h'.output.trans h.output, Nat.le_trans h.size h'.size, fun k hk ha => (h'.block k (Nat.lt_of_lt_of_le hk h.size) ha).trans (h.block k hk ha)⟩
theorem Tch.mono (h : Tch K w w') (hK : ∀ k, k < w.heap.size → K k → K' k) : Tch K' w w' := ⟨h.os, h.tape, h.output, h.size, fun k hk hn => h.block k hk fun hx => hn (hK k hk hx)⟩
theorem Tch.below {B : Nat} (h : Tch K w w') (hB : B ≤ w.heap.size) (hK : ∀ k, K k → B ≤ k) : Below B w w' := ⟨h.os, h.tape, h.output, h.size, fun k hk => h.block k (by omega) fun hx => by have := hK k hx; omega⟩
theorem Tch.set (w : World) (g i : Nat) (v : Value) : Tch (fun k => k = g) w (w.setCell ⟨g, i, none⟩ v) := ⟨rfl, rfl, rfl, by simp [World.setCell], fun _ _ h => set_other v h⟩
theorem Tch.grown {row : Option Nat} (h : w.grownBy w' row) : Tch (fun k => row = some k) w w' := ⟨h.os, h.tape, h.output, h.size, fun k hk hn => h.block k hk fun e => hn e.symm⟩
theorem own_touch {base n size : Nat} {e : TypeId} {v : Value} {xs : List Value} (h : w.ownsRow base e size v n xs) (ht : Tch K w w') (hK : ∀ k, v.ownBlock = some k → ¬ K k) : w'.ownsRow base e size v n xs := by
  refine ⟨h.1, ?_⟩
  rcases h.2 with h2 | ⟨g, cap, cur, hv, hb, hh, r⟩
  · exact .inl h2
  · refine .inr ⟨g, cap, cur, hv, hb, ?_, r⟩
    rw [ht.block g (Array.getElem?_eq_some_iff.1 hh).1 (hK g (by rw [hv]; rfl))]
    exact hh
end
end Go.Cat
namespace Go.Cat.Move
open Go.RowKit

structure InV where
  at_ : Int
  parts : Int
  next : Nat
  b : List UInt8

/-- What Take comes to. -/
def again (at_ : Int) : InV := ⟨at_, 0, 0, []⟩
def refuses (x : InV) (at_ part parts : Int) (b : List UInt8) : Prop := parts < 1 ∨ part < 0 ∨ parts ≤ part ∨ 1024 < b.length ∨ at_ < x.at_
def turned (x : InV) (at_ parts : Int) : Prop := x.at_ < at_ ∨ (0 < x.next ∧ parts ≠ x.parts)
open Classical in
noncomputable def first (x : InV) (at_ parts : Int) : InV := if turned x at_ parts then again at_ else x
def with1 (x : InV) (parts : Int) (b : List UInt8) : InV := ⟨x.at_, parts, x.next + 1, x.b ++ b⟩
open Classical in
/-- The picture behind Take; what is told; whether it was the last part. -/
noncomputable def takeIn (x : InV) (at_ part parts : Int) (b : List UInt8) : InV × List UInt8 × Bool :=
  if refuses x at_ part parts b then (x, [], false)
  else if part ≠ (first x at_ parts).next then (first x at_ parts, [], false)
  else if ((first x at_ parts).next : Int) + 1 < parts then (with1 (first x at_ parts) parts b, [], false)
  else (again at_, (first x at_ parts).b ++ b, true)

/-- The block at g is a picture that is taken in; its bytes' row is R. -/
structure InB (t u8 : TypeId) (base g : Nat) (R : Value) (x : InV) (w : World) : Prop where
  low : base ≤ g
  cell : w.heap[g]? = some (.cells #[.int .u64 x.at_, .int .i64 x.parts, .int .i64 (x.next : Int), R] t (0, 0))
  row : w.ownsRow base u8 1 R x.b.length (x.b.map by8)
def MineI (g : Nat) (R : Value) (k : Nat) : Prop := k = g ∨ R.ownBlock = some k
section
variable {t u8 : TypeId} {base g : Nat} {R : Value} {x : InV} {w w' : World} {K : Nat → Prop}
theorem InB.lt (h : InB t u8 base g R x w) : g < w.heap.size := (Array.getElem?_eq_some_iff.1 h.cell).1
theorem InB.touch (h : InB t u8 base g R x w) (ht : Tch K w w') (hg : ¬ K g) (hR : ∀ k, R.ownBlock = some k → ¬ K k) : InB t u8 base g R x w' := ⟨h.low, (ht.block g h.lt hg).trans h.cell, own_touch h.row ht hR⟩
theorem InB.below (h : InB t u8 base g R x w) (hb : Below w.heap.size w w') : InB t u8 base g R x w' := h.touch (K := fun _ => False) (Tch.of_below hb) (fun h => h) fun _ _ h => h
theorem InB.ne (h : InB t u8 base g R x w) (ht : t ≠ u8) : R.ownBlock ≠ some g := by
  intro e
  rcases h.row.2 with ⟨rfl, _⟩ | ⟨g', cap, cur, rfl, _, hh, _⟩
  · cases e
  · simp only [Value.ownBlock, Option.some.injEq] at e
    subst e
    have := h.cell
    rw [hh] at this
    injection this with this
    injection this with _ this
    exact ht this.symm
theorem InB.mine (h : InB t u8 base g R x w) : ∀ k, MineI g R k → base ≤ k := by
  rintro k (rfl | hk)
  · exact h.low
  · exact (h.row.lt k hk).1
theorem set4_block {a b c d : Value} {fr : Nat × Nat} (p q r s : Value) (h : w.heap[g]? = some (.cells #[a, b, c, d] t fr)) :
    ((((w.setCell ⟨g, 0, none⟩ p).setCell ⟨g, 1, none⟩ q).setCell ⟨g, 2, none⟩ r).setCell ⟨g, 3, none⟩ s).heap[g]? = some (.cells #[p, q, r, s] t fr) := set_block s (set_block r (set_block q (set_block p h)))
end
end Go.Cat.Move
namespace Go.Proofs.Ytgjhcmjkdjnjfaa
open Go.RowKit Go.Cat Go.Cat.Move

abbrev InW (base g : Nat) (R : Value) (x : InV) (w : World) : Prop := InB 61 5 base g R x w

theorem InW.cells {base g : Nat} {R : Value} {x : InV} {w : World} (h : InW base g R x w) : w.cell? ⟨g, 0, none⟩ = some (.int .u64 x.at_) ∧ w.cell? ⟨g, 1, none⟩ = some (.int .i64 x.parts) ∧ w.cell? ⟨g, 2, none⟩ = some (.int .i64 (x.next : Int)) ∧ w.cell? ⟨g, 3, none⟩ = some R ∧ ∀ i, w.frozen? ⟨g, i, none⟩ = false :=
  ⟨cell_of_row w g 0 _ _ _ h.cell, cell_of_row w g 1 _ _ _ h.cell, cell_of_row w g 2 _ _ _ h.cell, cell_of_row w g 3 _ _ _ h.cell, fun i => frozen_of_row w g i _ _ h.cell⟩

theorem begin_any (w : World) : Calls Try.prog 15 #[] w fun e w' => e = .returned (.pointer (some ⟨w.heap.size, 0, none⟩)) ∧ InW w.heap.size w.heap.size (.slice none 0 0) (again 0) w' ∧ Below w.heap.size w w' := by
  go_enter Try.func15, Try.ntmps15
  go_wp2
  go_ret
  exact ⟨rfl, ⟨Nat.le_refl _, heap_alloc_new _ _, World.ownsRow_nil _ _ _ _⟩, (Below.refl _ _).alloc (Nat.le_refl _) _⟩

theorem wants_any (base g : Nat) (R : Value) (x : InV) (w : World) (h : InW base g R x w) :
    Calls Try.prog 18 #[.pointer (some ⟨g, 0, none⟩)] w fun e w' => e = .returned (.tuple #[.int .u64 x.at_, .int .i64 (x.next : Int)]) ∧ ∃ n, w' = w.drewN n := by
  obtain ⟨c0, c1, c2, c3, _⟩ := InW.cells h
  clear h
  go_enter Try.func18, Try.ntmps18
  go_wp2
  go_quiet (fail)
  go_wp2
  go_ret2
  exact ⟨rfl, _, rfl⟩
theorem wants_nil (w : World) : Calls Try.prog 18 #[.pointer none] w fun e w' => e = .returned (.tuple #[.int .u64 0, .int .i64 0]) ∧ w = w' := by
  go_enter Try.func18, Try.ntmps18
  go_wp2
  go_ret2
  exact ⟨rfl, rfl⟩
theorem held_any (base g : Nat) (R : Value) (x : InV) (w : World) (h : InW base g R x w) :
    Calls Try.prog 19 #[.pointer (some ⟨g, 0, none⟩)] w fun e w' => e = .returned (.int .i64 (x.b.length : Int)) ∧ w = w' := by
  obtain ⟨c0, c1, c2, c3, _⟩ := InW.cells h
  obtain ⟨A, c, rfl, _⟩ := own_form h.row
  clear h
  go_enter Try.func19, Try.ntmps19
  go_wp2
  go_ret
  exact ⟨rfl, rfl⟩
theorem held_nil (w : World) : Calls Try.prog 19 #[.pointer none] w fun e w' => e = .returned (.int .i64 0) ∧ w = w' := by
  go_enter Try.func19, Try.ntmps19
  go_wp2
  go_ret
  exact ⟨rfl, rfl⟩

theorem again_any (base g : Nat) (R : Value) (x : InV) (at_ : Int) (w : World) (h : InW base g R x w) :
    Calls Try.prog 24 #[.pointer (some ⟨g, 0, none⟩), .int .u64 at_] w fun e w' => (∃ v, e = .returned v) ∧ InW base g (.slice none 0 0) (again at_) w' ∧ Tch (fun k => k = g) w w' := by
  obtain ⟨c0, c1, c2, c3, f⟩ := InW.cells h
  obtain ⟨A, c, rfl, _⟩ := own_form h.row
  have f0 := f 0
  have f1 := f 1
  have f2 := f 2
  have f3 := f 3
  have H := Lib.hid h
  clear h f
  go_enter Try.func24, Try.ntmps24
  go_wp2
  refine bodyPost_end (v := .tuple #[]) (by simp [results, Try.results24, go_sem]) rfl ⟨⟨_, rfl⟩, ⟨H.out.low, set4_block _ _ _ _ H.out.cell, World.ownsRow_nil _ _ _ _⟩, ?_⟩
  exact (((Tch.set _ _ _ _).trans (Tch.set _ _ _ _)).trans (Tch.set _ _ _ _)).trans (Tch.set _ _ _ _)
end Go.Proofs.Ytgjhcmjkdjnjfaa
