/- The words for memory that is written in place: a step that writes only blocks of some element types from some block on, and what stays shown through it. No condition. -/
import Derived.Test.YtabecceojbeomaaGreatDoorApp
namespace Go.Cat
open Go.RowKit

/-- Block k is below B, or no row of an element type in S. -/
def Apart (B : Nat) (S : List TypeId) (w : World) (k : Nat) : Prop := k < B ∨ ∀ cs e fr, w.heap[k]? = some (.cells cs e fr) → e ∉ S

/-- From w to w': new blocks, and writes to rows of element types in S from block B on. -/
structure Upd (B : Nat) (S : List TypeId) (w w' : World) : Prop where
  os : w'.os = w.os
  tape : w'.tape = w.tape
  output : w'.output = w.output
  size : w.heap.size ≤ w'.heap.size
  block : ∀ k, k < w.heap.size → Apart B S w k → w'.heap[k]? = w.heap[k]?

section
variable {B : Nat} {S : List TypeId} {w w' w'' : World}

theorem Upd.refl (B : Nat) (S : List TypeId) (w : World) : Upd B S w w := ⟨rfl, rfl, rfl, Nat.le_refl _, fun _ _ _ => rfl⟩

theorem Upd.apart (h : Upd B S w w') {k : Nat} (hk : k < w.heap.size) (ha : Apart B S w k) : Apart B S w' k := by
  rcases ha with ha | ha
  · exact .inl ha
  · right
    intro cs e fr he
    rw [h.block k hk (.inr ha)] at he
    exact ha cs e fr he

theorem Upd.trans (h : Upd B S w w') (h' : Upd B S w' w'') : Upd B S w w'' :=
  ⟨h'.os.trans h.os, h'.tape.trans h.tape, h'.output.trans h.output, Nat.le_trans h.size h'.size, fun k hk ha => (h'.block k (Nat.lt_of_lt_of_le hk h.size) (h.apart hk ha)).trans (h.block k hk ha)⟩

theorem Upd.of_below (h : Below w.heap.size w w') : Upd B S w w' := ⟨h.os, h.tape, h.output, h.size, fun k hk _ => h.block k hk⟩
theorem Upd.below (h : Upd B S w w') (hB : B ≤ w.heap.size) : Below B w w' := ⟨h.os, h.tape, h.output, h.size, fun k hk => h.block k (by omega) (.inl hk)⟩
theorem Upd.of_below' {B0 : Nat} (h : Below B0 w w') (hB : w.heap.size ≤ B0) : Upd B S w w' := Upd.of_below (h.mono hB)
theorem Upd.drew (h : Upd B S w w') : Upd B S w w'.drew := ⟨h.os, h.tape, h.output, h.size, h.block⟩
theorem Upd.drewN (h : Upd B S w w') (n : Nat) : Upd B S w (w'.drewN n) := ⟨h.os, h.tape, h.output, h.size, h.block⟩
theorem Upd.alloc (h : Upd B S w w') (o : Obj) : Upd B S w (w'.alloc o) := h.trans (Upd.of_below ((Below.refl _ _).alloc (Nat.le_refl _) o))
theorem Upd.mono {B' : Nat} {S' : List TypeId} (h : Upd B S w w') (hB : B' ≤ B) (hS : ∀ e, e ∈ S → e ∈ S') : Upd B' S' w w' :=
  ⟨h.os, h.tape, h.output, h.size, fun k hk ha => h.block k hk (by
    rcases ha with ha | ha
    · exact .inl (by omega)
    · exact .inr fun cs e fr he hm => ha cs e fr he (hS e hm))⟩

/-- One row written: its block is from B on, its element type in S. -/
theorem Upd.row {g : Nat} {cs : Array Value} {e : TypeId} {fr : Nat × Nat} (hg : w.heap[g]? = some (.cells cs e fr)) (hB : B ≤ g) (he : e ∈ S) (h : w.grownBy w' (some g)) : Upd B S w w' :=
  ⟨h.os, h.tape, h.output, h.size, fun k hk ha => h.block k hk (fun hkg => by
    injection hkg with hkg
    subst hkg
    rcases ha with ha | ha
    · omega
    · exact ha cs e fr hg he)⟩

theorem Upd.set {p : Addr} {cs : Array Value} {e : TypeId} {fr : Nat × Nat} (hg : w.heap[p.block]? = some (.cells cs e fr)) (hB : B ≤ p.block) (he : e ∈ S) (u : Value) : Upd B S w (w.setCell p u) :=
  Upd.row hg hB he ⟨rfl, rfl, rfl, by simp [World.setCell], fun k _ hne => Below.heap_setCell _ _ _ _ (fun e => hne (by rw [e]))⟩

theorem Upd.own {base n size : Nat} {e : TypeId} {v : Value} {xs : List Value} (ho : w.ownsRow base e size v n xs) (hg : w.grownBy w' v.ownBlock) (hb : B ≤ base) (he : e ∈ S) : Upd B S w w' := by
  rcases ho.2 with ⟨rfl, _⟩ | ⟨g, cap, cur, rfl, hbg, hh, _⟩
  · exact ⟨hg.os, hg.tape, hg.output, hg.size, fun k hk _ => hg.block k hk (by simp [Value.ownBlock])⟩
  · exact Upd.row hh (by omega) he hg

/-- The address shows the cells, and goes on to through every step of that kind. -/
def St (B : Nat) (S : List TypeId) (w : World) (A : Option Addr) (xs : List Value) : Prop :=
  xs = [] ∨ ∃ b off, A = some ⟨b, off, none⟩ ∧ Apart B S w b ∧ ∀ j u, xs[j]? = some u → w.cell? ⟨b, off + j, none⟩ = some u

theorem St.sees {A : Option Addr} {xs : List Value} (h : St B S w A xs) : Sees w A xs := by
  rcases h with h | ⟨b, off, hA, _, hc⟩
  · exact .inl h
  · exact .inr ⟨b, off, hA, hc⟩

theorem St.nil_ {A : Option Addr} : St B S w A [] := .inl rfl

theorem St.upd {A : Option Addr} {xs : List Value} (h : St B S w A xs) (hu : Upd B S w w') : St B S w' A xs := by
  rcases h with h | ⟨b, off, hA, ha, hc⟩
  · exact .inl h
  · by_cases hx : xs.length = 0
    · exact .inl (List.eq_nil_of_length_eq_zero hx)
    · have hb : b < w.heap.size := World.block_lt_of_cell? w _ (hc 0 _ (List.getElem?_eq_getElem (by omega)))
      exact .inr ⟨b, off, hA, hu.apart hb ha, fun j u hj => (World.cell?_of_block (hu.block b hb ha)).trans (hc j u hj)⟩

/-- What lies below B. -/
theorem St.of_low {A : Option Addr} {xs : List Value} (h : Sees w A xs) (hB : w.heap.size ≤ B) : St B S w A xs := by
  rcases h with h | ⟨b, off, hA, hc⟩
  · exact .inl h
  · by_cases hx : xs.length = 0
    · exact .inl (List.eq_nil_of_length_eq_zero hx)
    · have hb : b < w.heap.size := World.block_lt_of_cell? w _ (hc 0 _ (List.getElem?_eq_getElem (by omega)))
      exact .inr ⟨b, off, hA, .inl (by omega), hc⟩

/-- A row of the call's own, of an element type that is not written. -/
theorem St.of_own {base n c : Nat} {e : TypeId} {A : Option Addr} {xs : List Value} (h : w.ownsRow base e 1 (.slice A n c) n xs) (he : e ∉ S) : St B S w A xs := by
  rcases h.2 with ⟨hv, hn⟩ | ⟨g, cap, cur, hv, _, hh, _⟩
  · left
    have := h.1
    exact List.eq_nil_of_length_eq_zero (by omega)
  · injection hv with hA hn hc
    subst hA hc
    refine .inr ⟨g, 0, rfl, .inr fun cs e' fr hk => ?_, fun j u hu => ?_⟩
    · rw [hh] at hk
      injection hk with hk
      injection hk with _ hk
      subst hk
      exact he
    · have hj : j < xs.length := (List.getElem?_eq_some_iff.1 hu).1
      have := h.cellAt (g := g) j (by have := h.1; omega)
      rw [Nat.zero_add, this, hu]

theorem ownN_sees {base n c size : Nat} {e : TypeId} {A : Option Addr} {xs : List Value} (h : w.ownsRow base e size (.slice A n c) n xs) : Sees w A xs := by
  rcases h.2 with ⟨hv, hn⟩ | ⟨g, cap, cur, hv, _, hh, _⟩
  · left
    have := h.1
    subst hn
    exact List.eq_nil_of_length_eq_zero (by omega)
  · injection hv with hA hn hc
    subst hA hc
    refine .inr ⟨g, 0, rfl, fun j u hu => ?_⟩
    have hj : j < xs.length := (List.getElem?_eq_some_iff.1 hu).1
    have := h.cellAt (g := g) j (by have := h.1; omega)
    rw [Nat.zero_add, this, hu]

theorem St.of_ownN {base n c size : Nat} {e : TypeId} {A : Option Addr} {xs : List Value} (h : w.ownsRow base e size (.slice A n c) n xs) (he : e ∉ S) : St B S w A xs := by
  rcases h.2 with ⟨hv, hn⟩ | ⟨g, cap, cur, hv, _, hh, _⟩
  · left
    have := h.1
    subst hn
    exact List.eq_nil_of_length_eq_zero (by omega)
  · injection hv with hA hn hc
    subst hA hc
    refine .inr ⟨g, 0, rfl, .inr fun cs e' fr hk => ?_, fun j u hu => ?_⟩
    · rw [hh] at hk
      injection hk with hk
      injection hk with _ hk
      subst hk
      exact he
    · have hj : j < xs.length := (List.getElem?_eq_some_iff.1 hu).1
      have := h.cellAt (g := g) j (by have := h.1; omega)
      rw [Nat.zero_add, this, hu]

/-- A row of the call's own is kept by a step that does not write its type. -/
theorem ownsRow_upd {base n size : Nat} {e : TypeId} {v : Value} {xs : List Value} (h : w.ownsRow base e size v n xs) (hu : Upd B S w w') (he : e ∉ S) : w'.ownsRow base e size v n xs := by
  refine ⟨h.1, ?_⟩
  rcases h.2 with h2 | ⟨g, cap, cur, hv, hb, hh, r⟩
  · exact .inl h2
  · refine .inr ⟨g, cap, cur, hv, hb, ?_, r⟩
    rw [hu.block g (Array.getElem?_eq_some_iff.1 hh).1 (.inr fun cs e' fr hk => by
      rw [hh] at hk
      injection hk with hk
      injection hk with _ hk
      subst hk
      exact he)]
    exact hh

/-- A block that is known whole, behind a step that leaves it: its cells, as rules; none is frozen. -/
theorem whole_block {g : Nat} {a : Array Value} {t : TypeId} (hg : w.heap[g]? = some (.cells a t (0, 0))) (h : w'.heap[g]? = w.heap[g]?) : (∀ i, w'.cell? ⟨g, i, none⟩ = a[i]?) ∧ (∀ i, w'.frozen? ⟨g, i, none⟩ = false) :=
  ⟨fun i => cell_of_row w' g i a t (0, 0) (h.trans hg), fun i => frozen_of_row w' g i a t (h.trans hg)⟩

theorem one_box {w w1 : World} {a : Array Value} {t : TypeId} (h : Below (w.alloc (.cells a t)).heap.size (w.alloc (.cells a t)) w1) :
    (∀ i, w1.cell? ⟨w.heap.size, i, none⟩ = a[i]?) ∧ (∀ i, w1.frozen? ⟨w.heap.size, i, none⟩ = false) ∧ w.heap.size < w1.heap.size ∧ Below w.heap.size w w1 := by
  obtain ⟨a1, a2⟩ := whole_block (heap_alloc_new w (.cells a t)) (h.block w.heap.size (by simp))
  exact ⟨a1, a2, by have := h.size; simp at this; omega, ((Below.refl _ _).alloc (Nat.le_refl _) _).trans (h.mono (by simp))⟩

theorem two_boxes {w w1 : World} {a b : Array Value} {t u : TypeId} (h : Below ((w.alloc (.cells a t)).alloc (.cells b u)).heap.size ((w.alloc (.cells a t)).alloc (.cells b u)) w1) :
    (∀ i, w1.cell? ⟨w.heap.size, i, none⟩ = a[i]?) ∧ (∀ i, w1.frozen? ⟨w.heap.size, i, none⟩ = false) ∧ (∀ i, w1.cell? ⟨w.heap.size + 1, i, none⟩ = b[i]?) ∧ (∀ i, w1.frozen? ⟨w.heap.size + 1, i, none⟩ = false) ∧
      w.heap.size + 1 < w1.heap.size ∧ Below w.heap.size w w1 := by
  have hb0 : ((w.alloc (.cells a t)).alloc (.cells b u)).heap[w.heap.size]? = some (.cells a t (0, 0)) := (Below.heap_alloc _ _ _ (by simp)).trans (heap_alloc_new w _)
  have hb1 : ((w.alloc (.cells a t)).alloc (.cells b u)).heap[w.heap.size + 1]? = some (.cells b u (0, 0)) := by
    have := heap_alloc_new (w.alloc (.cells a t)) (.cells b u)
    simpa using this
  obtain ⟨a1, a2⟩ := whole_block hb0 (h.block w.heap.size (by simp; omega))
  obtain ⟨b1, b2⟩ := whole_block hb1 (h.block (w.heap.size + 1) (by simp))
  exact ⟨a1, a2, b1, b2, by have := h.size; simp at this; omega, (((Below.refl _ _).alloc (Nat.le_refl _) _).alloc (by simp) _).trans (h.mono (by simp; omega))⟩

theorem own_mono {base base' n size : Nat} {e : TypeId} {v : Value} {xs : List Value} (h : w.ownsRow base e size v n xs) (hb : base' ≤ base) : w.ownsRow base' e size v n xs := by
  refine ⟨h.1, ?_⟩
  rcases h.2 with h2 | ⟨g, cap, cur, hv, hg, r⟩
  · exact .inl h2
  · exact .inr ⟨g, cap, cur, hv, Nat.le_trans hb hg, r⟩

theorem three_boxes {w w1 : World} {a b c : Array Value} {t u v : TypeId} (h : Below (((w.alloc (.cells a t)).alloc (.cells b u)).alloc (.cells c v)).heap.size (((w.alloc (.cells a t)).alloc (.cells b u)).alloc (.cells c v)) w1) :
    (∀ i, w1.cell? ⟨w.heap.size, i, none⟩ = a[i]?) ∧ (∀ i, w1.frozen? ⟨w.heap.size, i, none⟩ = false) ∧ (∀ i, w1.cell? ⟨w.heap.size + 1, i, none⟩ = b[i]?) ∧ (∀ i, w1.frozen? ⟨w.heap.size + 1, i, none⟩ = false) ∧
      (∀ i, w1.cell? ⟨w.heap.size + 1 + 1, i, none⟩ = c[i]?) ∧ (∀ i, w1.frozen? ⟨w.heap.size + 1 + 1, i, none⟩ = false) ∧ w.heap.size + 1 + 1 < w1.heap.size ∧ Below w.heap.size w w1 := by
  have h2 : Below ((w.alloc (.cells a t)).alloc (.cells b u)).heap.size ((w.alloc (.cells a t)).alloc (.cells b u)) w1 := ((Below.refl _ _).alloc (Nat.le_refl _) _).trans (h.mono (by simp))
  obtain ⟨a1, a2, b1, b2, _, hB⟩ := two_boxes h2
  have hb2 : (((w.alloc (.cells a t)).alloc (.cells b u)).alloc (.cells c v)).heap[w.heap.size + 1 + 1]? = some (.cells c v (0, 0)) := by
    have := heap_alloc_new ((w.alloc (.cells a t)).alloc (.cells b u)) (.cells c v)
    simpa using this
  obtain ⟨c1, c2⟩ := whole_block hb2 (h.block (w.heap.size + 1 + 1) (by simp))
  exact ⟨a1, a2, b1, b2, c1, c2, by have := h.size; simp at this; omega, hB⟩
end
end Go.Cat
