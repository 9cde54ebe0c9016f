/- The contracts of the parts TrAt, TrBox, TrWrap, in one text. Conditions: those told at each part. -/
import Derived.Test.YtabecceojbeomaaGreatDoorTrBase
import Derived.Test.YtabecceojbeomaaGreatDoorDirUse
import Derived.Test.YtabecceojbeomaaGreatDoorFrame
import Derived.SizedLaws
import Derived.SliceStrings
import Derived.ChangeMaps5
import Derived.Shelf.Vars
import Derived.Handed
section
/- A Tree behind a pointer, in memory; what it lasts through. No condition. -/
namespace Go.Proofs.YtabecceojbeomaaGreatDoor
open Go.RowKit Go.Cat Go.Cat.Tree
/-- The library's variable that the path's functions look at. -/
def MaxG (w : World) : Prop := ∃ m : Int, w.cell? ⟨0, 0, none⟩ = some (.int .i64 m)
/-- Block a is a Tree of a shape I, J, over the map M of these things. -/
structure TrAt (w : World) (a : Nat) (I J : Int) (M : Nat) (es : List (Dir.Txt × El)) : Prop where
  blk : w.heap[a]? = some (.cells #[.int .i64 I, .int .i64 J, .map (some M)] 63 (0, 0))
  tm : TM w Tryz.prog 9 M es
  ne : a ≠ 0
  gl : MaxG w
variable {w w' : World} {a M : Nat} {I J : Int} {es : List (Dir.Txt × El)}
theorem MaxG.touch {K : Nat → Prop} (h : MaxG w) (ht : Tch K w w') (hK : ¬ K 0) : MaxG w' := by
  obtain ⟨m, hm⟩ := h
  exact ⟨m, (World.cell?_of_block (ht.block _ (World.block_lt_of_cell? w _ hm) hK)).trans hm⟩
theorem TrAt.below (h : TrAt w a I J M es) (hb : Below w.heap.size w w') : TrAt w' a I J M es :=
  ⟨(hb.block a (Array.getElem?_eq_some_iff.1 h.blk).1).trans h.blk, h.tm.below hb, h.ne, h.gl.touch (Tch.of_below hb) (K := fun _ => False) (fun h => h)⟩
theorem no_byte_tree {cs : Array Value} {ty : TypeId} {fr : Nat × Nat} (h : w.heap[a]? = some (.cells cs ty fr)) (hc : ∀ v ∈ cs.toList, ∀ u : UInt8, v ≠ by8 u) (o : Nat) (u : UInt8) : w.cell? ⟨a, o, none⟩ ≠ some (by8 u) := by
  intro e
  simp [World.cell?, h] at e
  obtain ⟨hl, he⟩ := Array.getElem?_eq_some_iff.1 e
  exact hc cs[o] (by simp) u he
theorem TrAt.lt (h : TrAt w a I J M es) : a < w.heap.size := (Array.getElem?_eq_some_iff.1 h.blk).1
theorem TrAt.c0 (h : TrAt w a I J M es) : w.cell? ⟨a, 0, none⟩ = some (.int .i64 I) := cell_of_row w a 0 _ _ _ h.blk
theorem TrAt.c1 (h : TrAt w a I J M es) : w.cell? ⟨a, 1, none⟩ = some (.int .i64 J) := cell_of_row w a 1 _ _ _ h.blk
theorem TrAt.c2 (h : TrAt w a I J M es) : w.cell? ⟨a, 2, none⟩ = some (.map (some M)) := cell_of_row w a 2 _ _ _ h.blk
theorem TrAt.f2 (h : TrAt w a I J M es) : w.frozen? ⟨a, 2, none⟩ = false := frozen_of_row w a 2 _ _ h.blk
end Go.Proofs.YtabecceojbeomaaGreatDoor
end

section
/- Boxes of a call's own, known whole, in later worlds; what a Tree and what it shows last through. No condition. -/
namespace Go.Cat.Tree
open Go.RowKit Go.Cat
variable {K : Nat → Prop} {w w' : World} {b g : Nat} {x : Obj}
theorem heap_lt (h : w.heap[b]? = some x) : b < w.heap.size := (Array.getElem?_eq_some_iff.1 h).1
theorem heap_below (h : w.heap[b]? = some x) (hb : Below w.heap.size w w') : w'.heap[b]? = some x := (hb.block b (heap_lt h)).trans h
theorem drew_below (h : Below w.drew.heap.size w.drew w') : Below w.heap.size w w' := by have := below_undrew h; exact this
theorem heap_touch (h : w.heap[b]? = some x) (ht : Tch K w w') (hK : ¬ K b) : w'.heap[b]? = some x := (ht.block b (heap_lt h) hK).trans h
theorem heap_alloc (h : w.heap[b]? = some x) (o : Obj) : (w.alloc o).heap[b]? = some x := heap_below h ((Below.refl _ _).alloc (Nat.le_refl _) _)
theorem sees_skip {A : Option Addr} {xs : List Value} (h : Sees w A xs) (ht : Tch K w w') (hK : ∀ k, K k → ∀ o, ∀ u ∈ xs, w.cell? ⟨k, o, none⟩ ≠ some u) : Sees w' A xs := by
  rcases h with h | ⟨g, off, hA, hc⟩
  · exact .inl h
  · refine .inr ⟨g, off, hA, fun j u hu => ?_⟩
    have h1 := hc j u hu
    have hg : ¬ K g := fun hg => hK g hg _ u (List.mem_of_getElem? hu) h1
    exact (World.cell?_of_block (ht.block g (World.block_lt_of_cell? w _ h1) hg)).trans h1
/-- What a block of these cells is not. -/
theorem no_cell {cs : Array Value} {ty : TypeId} {fr : Nat × Nat} (h : w.heap[g]? = some (.cells cs ty fr)) {u : Value} (hu : u ∉ cs.toList) (o : Nat) : w.cell? ⟨g, o, none⟩ ≠ some u := by
  intro e
  rw [cell_of_row w g o _ _ _ h] at e
  obtain ⟨hl, he⟩ := Array.getElem?_eq_some_iff.1 e
  exact hu (he ▸ by simp)
theorem set1B {u0 u1 : Value} {t : TypeId} {fr : Nat × Nat} (v : Value) (h : w.heap[g]? = some (.cells #[u0, u1] t fr)) : (w.setCell ⟨g, 0, none⟩ v).heap[g]? = some (.cells #[v, u1] t fr) := by
  have := Go.Cat.set_block v h (i := 0)
  simpa using this
theorem set2B {u0 u1 : Value} {t : TypeId} {fr : Nat × Nat} (v0 v1 : Value) (h : w.heap[g]? = some (.cells #[u0, u1] t fr)) : ((w.setCell ⟨g, 0, none⟩ v0).setCell ⟨g, 1, none⟩ v1).heap[g]? = some (.cells #[v0, v1] t fr) := by
  have := Go.Cat.set_block v1 (set1B v0 h) (i := 1)
  simpa using this
theorem tch2B (w : World) (g : Nat) (x y : Value) : Tch (fun k => k = g) w ((w.setCell ⟨g, 0, none⟩ x).setCell ⟨g, 1, none⟩ y) := (Tch.set _ _ _ _).trans (Tch.set _ _ _ _)
theorem size2B (w : World) (g : Nat) (x y : Value) : ((w.setCell ⟨g, 0, none⟩ x).setCell ⟨g, 1, none⟩ y).heap.size = w.heap.size := by simp [World.setCell]
end Go.Cat.Tree
namespace Go.Proofs.YtabecceojbeomaaGreatDoor
open Go.RowKit Go.Cat Go.Cat.Dir Go.Cat.Tree
variable {w w' : World} {a M H : Nat} {I J : Int} {es : List (Dir.Txt × El)} {K : Nat → Prop}
theorem TrAt.ne_map (h : TrAt w a I J M es) : a ≠ M := fun e => by
  obtain ⟨ms, clock, h1, _⟩ := h.tm.own
  rw [← e, h.blk] at h1
  cases h1
theorem TrAt.touch (h : TrAt w a I J M es) (ht : Tch K w w') (ha : ¬ K a) (hM : ¬ K M) (hG : ¬ K 0) (hK : ∀ k, K k → ∀ o (u : UInt8), w.cell? ⟨k, o, none⟩ ≠ some (by8 u)) : TrAt w' a I J M es :=
  ⟨heap_touch h.blk ht ha, h.tm.skip ht hM hK, h.ne, h.gl.touch ht hG⟩
/-- A store into a box of the call's own. -/
theorem TrAt.own_box (h : TrAt w a I J M es) (h' : TrAt w' a I J M es) (hH : w.heap.size ≤ H) {w2 : World} (ht : Tch (fun k => k = H) w' w2) (hK : ∀ o (u : UInt8), w'.cell? ⟨H, o, none⟩ ≠ some (by8 u)) : TrAt w2 a I J M es := by
  have h1 := h.lt
  have h2 := h.tm.lt
  obtain ⟨m, hm⟩ := h.gl
  have h3 : 0 < w.heap.size := World.block_lt_of_cell? w _ hm
  exact h'.touch ht (fun e => by omega) (fun e => by omega) (fun e => by omega) (fun k hk o u => by subst hk; exact hK o u)
/-- A boxed thing. -/
abbrev thC (x : El) : Array Value := #[.bool x.1.dir, .slice x.2.1 x.1.b.length x.2.2]
theorem no_byte_th {x : El} {t : TypeId} {fr : Nat × Nat} (h : w.heap[H]? = some (.cells (thC x) t fr)) (o : Nat) (u : UInt8) : w.cell? ⟨H, o, none⟩ ≠ some (by8 u) := no_cell h (by simp [by8]) o
theorem no_text_th {x : El} {t : TypeId} {fr : Nat × Nat} (h : w.heap[H]? = some (.cells (thC x) t fr)) (o : Nat) (s : Txt) : w.cell? ⟨H, o, none⟩ ≠ some (sv s) := no_cell h (by simp [sv]) o
theorem el_below {x : El} (h : ElAt w x) (hb : Below w.heap.size w w') : ElAt w' x := ElAt.below h hb
theorem el_skip {x : El} (h : ElAt w x) (ht : Tch K w w') (hK : ∀ k, K k → ∀ o (u : UInt8), w.cell? ⟨k, o, none⟩ ≠ some (by8 u)) : ElAt w' x := ⟨bytes_skip h.1 ht hK, h.2⟩
/-- Results that are structs: they are read out of their boxes. -/
theorem ret_tht {fn : Func} {p u : Tmp} (h : fn.results = #[.cell p 60, .tmp u]) {tmps : Array Value} {g : Nat} {x y : Value} {fr : Nat × Nat} (hp : tmps.getD p undef = .pointer (some ⟨g, 0, none⟩)) (hg : w.heap[g]? = some (.cells #[x, y] 60 fr)) :
    (results fn tmps).run Tryz.prog w = .ok (.tuple #[.agg #[x, y], tmps.getD u undef]) w := by
  have hp' : tmps[p]?.getD undef = .pointer (some ⟨g, 0, none⟩) := by simpa using hp
  simp [results, h, hp', asAddr, run_loadVar_row w g _ _ _ _ _ hg Tryz.underlying60 rfl (by kernel_rfl)]
theorem ret_ans {fn : Func} {p : Tmp} (h : fn.results = #[.cell p 36]) {tmps : Array Value} {g : Nat} {x0 x1 x2 x3 x4 : Value} {fr : Nat × Nat} (hp : tmps.getD p undef = .pointer (some ⟨g, 0, none⟩)) (hg : w.heap[g]? = some (.cells #[x0, x1, x2, x3, x4] 36 fr)) :
    (results fn tmps).run Tryz.prog w = .ok (.agg #[x0, x1, x2, x3, x4]) w := by
  have hp' : tmps[p]?.getD undef = .pointer (some ⟨g, 0, none⟩) := by simpa using hp
  simp [results, h, hp', asAddr, run_loadVar_row w g _ _ _ _ _ hg Tryz.underlying36 rfl (by kernel_rfl)]
end Go.Proofs.YtabecceojbeomaaGreatDoor
end

section
/- The frames of this seat: the plain wrap with a laid table beside the precondition and the world's shape kept; a slice of strings opened; the variable MaxLen's cell. No condition. -/
namespace Go
variable {H : Type} {enc : TypeId × Value → H}

theorem Cat.returnsInHanded_of_change_laid {a : Assume} {C : Checked} {os : Os} {f : FuncId} {fn : Func} {s : ChangeSpec} {conds : List PathCond} {apart fresh handsOn again : Bool} {X : World → Array Value → Prop}
    (own : ownKnob C.prog.godebug = none) (started : os.Started) (noInit : C.prog.inits.idxOf? f = none) (hfn : C.prog.funcs[f]? = some fn)
    (witness : ∃ (w : World) (tape : Tape) (i : Input), w.os = os ∧ (w.forCall tape i).Shaped C.prog ∧ i.vars = [] ∧ Input.okWide C.prog (w.forCall tape i) .any w.heap.size f i ∧
      ((s.pre enc C.prog fn conds apart (w.forCall tape i).memory i.args ∧ X (w.forCall tape i).memory i.args) ∧ sizedMet enc C.prog fn (OpenSpec.ofChange s) apart (w.forCall tape i).memory i.args) ∧ a.holds C.prog (lone (Frame.enter C.prog f i.args .normal) [] (w.forCall tape i)))
    (contract : ∀ (W : World) (base : Nat) (args : Array Value) (ds gs : List (DataW H)) (before : List MemPlace),
      (∀ (j : Nat) t v, fn.params[j]? = some t → args[j]? = some v → Value.okWide C.prog W .any base t v) →
      DataW.Whole enc C.prog fn.params.toList s.vars apart W args.toList ds gs before →
      conds.all (PathCond.test C.prog ⟨fn.params.toList, ds, s.plain.varTypes C.prog, gs⟩) = true →
      W.ShapedOpen C.prog →
      Calls C.prog f args W fun e W' => ∃ v, e = .returned v ∧ s.post enc C.prog fn apart fresh handsOn again W args v W') :
    ReturnsInHanded a C os f .any (fun w args => (s.pre enc C.prog fn conds apart w args ∧ X w args) ∧ sizedMet enc C.prog fn (OpenSpec.ofChange s) apart w args) (s.post enc C.prog fn apart fresh handsOn again) := by
  refine returnsInHanded_of_calls own started noInit witness ?_
  intro w tape i _ hsh _ hok hpre hholds
  obtain ⟨_, _, _, fn', hfn', _, _, _, _, hval⟩ := hok
  have e : fn' = fn := Option.some.inj (hfn'.symm.trans hfn)
  subst e
  obtain ⟨⟨⟨ds, gs, before, hw, hc⟩, hx⟩, hz⟩ := hpre
  have hw' := DataW.Whole.of_heap (w' := w.forCall tape i) (by rfl) hw
  refine (contract (w.forCall tape i) w.heap.size i.args ds gs before hval hw' hc hsh).mono fun e W' ⟨v, he, hp⟩ => ?_
  subst he
  exact ChangeSpec.post_blind hp
end Go

namespace Go.Cat
open Go.ChangeShapes Go.WideShapes Go.ChangeAt Go.RowKit Go.Joins Go.Deep Go.Cat.Dir Go.Proofs.YtabecceojbeomaaGreatDoor
section
variable {H : Type} {enc : TypeId × Value → H} {P : Program} {W : World} {base : Nat} {spare : Nat → Bool} {held : Bool} {r : Reach} {b0 : Nat}

theorem open_txt {t : TypeId} {v : Value} {d : DataW H} {ps : List MemPlace} (ht : P.underlying t = some .string) (hval : Value.okWide P W r b0 t v) (hd : DataW.Trod enc P W base spare held t v d ps) :
    ∃ s : Txt, v = .string (bs s) := by
  obtain ⟨s, rfl, _⟩ := Go.ChangeMaps.open_string ht hval hd
  exact ⟨s.data.toList, rfl⟩

/-- A slice of strings that came in, opened. -/
theorem open_txts {t e : TypeId} {v : Value} {d : DataW H} {p : List MemPlace} (ht : P.underlying t = some (.slice e)) (he : P.underlying e = some .string) (hc : P.cellsOf e = 1)
    (hv : Value.okWide P W r b0 t v) (h : DataW.Trod enc P W base spare held t v d p) :
    ∃ (A : Option Addr) (c : Nat) (ls : List Txt), v = .slice A ls.length c ∧ ls.length ≤ c ∧ c ≤ maxLen ∧ Texts W A ls := by
  obtain ⟨a, n, c, rfl⟩ := okWide_slice ht hv
  obtain ⟨fuel, hf⟩ := h
  rcases DataW.trod_slice ht hf with ⟨hcs, _⟩ | ⟨x, len, cap, elems, rest, m, _, hcs, _, _, hl, hm, hel2, hx, _, _⟩
  · simp [Value.cells] at hcs
    obtain ⟨rfl, rfl, rfl⟩ := hcs
    exact ⟨none, 0, [], rfl, Nat.le_refl _, by unfold maxLen; omega, .inl rfl⟩
  · simp [Value.cells] at hcs
    obtain ⟨rfl, rfl, rfl⟩ := hcs
    rw [hc] at hx
    have each : ∀ i, i < n → ∃ s : Txt, W.cell? (x.add i) = some (sv s) := by
      intro i hi
      have h := hx i hi
      rw [List.getElem?_eq_getElem (by omega)] at h
      obtain ⟨cs, h1, h2⟩ := Option.bind_eq_some_iff.1 h
      obtain ⟨_, hl1, hcell⟩ := World.cells?_some h1
      match cs, hl1 with
      | [u], _ =>
        obtain ⟨s, hs, _⟩ := DataW.trod_string he h2
        simp at hs
        subst hs
        have := hcell 0 (by omega)
        simp at this
        refine ⟨s.data.toList, ?_⟩
        rw [show x.add i = (x.add i).add 0 by unfold Addr.add; split <;> simp_all]
        exact this
    by_cases hlen : n = 0
    · subst hlen
      exact ⟨some x, c, [], rfl, Nat.zero_le _, hm, .inl rfl⟩
    · obtain ⟨g, hg⟩ : ∃ g : Nat → Txt, ∀ i, i < n → W.cell? (x.add i) = some (sv (g i)) := by
        refine ⟨fun i => if h : i < n then (each i h).choose else [], fun i hi => ?_⟩
        simp only [hi, dif_pos]
        exact (each i hi).choose_spec
      have hx0 : W.cell? x = some (sv (g 0)) := by
        have := hg 0 (by omega)
        simpa [Addr.add] using this
      obtain ⟨b, off, rfl⟩ := spot_none hx0
      refine ⟨some ⟨b, off, none⟩, c, (List.range n).map g, by simp, by simpa using hl, hm, ?_⟩
      right
      refine ⟨b, off, rfl, fun j u hu => ?_⟩
      by_cases hj : j < n
      · have h2 := hg j hj
        have ea : (⟨b, off, none⟩ : Addr).add j = ⟨b, off + j, none⟩ := by unfold Addr.add; split <;> simp_all
        rw [ea] at h2
        rw [h2, ← hu]
        simp [hj]
      · simp [hj] at hu
end
end Go.Cat

namespace Go.Proofs.YtabecceojbeomaaGreatDoor
theorem maxl_of {w : Go.World} (h : w.ShapedOpen Tryz.prog) : MaxG w :=
  Go.Proofs.cell_of_shapedOpen_int (g := 0) (zero := #[.int .i64 0]) (t := 3) h (of_decide_eq_true (by kernel_rfl)) (by kernel_rfl) rfl (by kernel_rfl) (by kernel_rfl) Tryz.underlying3
end Go.Proofs.YtabecceojbeomaaGreatDoor
end
