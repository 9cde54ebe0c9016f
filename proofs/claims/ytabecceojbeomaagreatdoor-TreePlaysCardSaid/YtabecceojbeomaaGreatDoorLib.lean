/- The words on memory that the walks of this seat share: a slice that shows a list of cells, a slice that shows bytes or ints, and how they last. No condition. -/
import Derived.WalkKit
import Derived.WalkSmall
import Derived.Lib.Hide
import Derived.WalkLawsBesides
import Derived.WalkSpells
import Derived.BigQuiet
import Derived.Deep.QuietTactic
import Derived.BigRegion
namespace Go.Cat
open Go.RowKit

/-- The slice address A shows the cells xs. -/
def Sees (w : World) (A : Option Addr) (xs : List Value) : Prop :=
  xs = [] ∨ ∃ b off, A = some ⟨b, off, none⟩ ∧ ∀ j u, xs[j]? = some u → w.cell? ⟨b, off + j, none⟩ = some u

section
variable {w w' : World} {A : Option Addr} {xs : List Value}

theorem Sees.nil_ : Sees w A [] := .inl rfl

theorem Sees.keep (h : Sees w A xs) (hk : ∀ p : Addr, p.block < w.heap.size → w'.cell? p = w.cell? p) : Sees w' A xs := by
  rcases h with h | ⟨b, off, hA, hc⟩
  · exact .inl h
  · exact .inr ⟨b, off, hA, fun j u hu => (hk _ (World.block_lt_of_cell? w _ (hc j u hu))).trans (hc j u hu)⟩

theorem Sees.below (h : Sees w A xs) (hb : Below w.heap.size w w') : Sees w' A xs := h.keep fun _ hp => hb.cell hp
theorem Sees.drew (h : Sees w A xs) : Sees w.drew A xs := h
theorem Sees.drewN (h : Sees w A xs) (n : Nat) : Sees (w.drewN n) A xs := h
theorem Sees.alloc (h : Sees w A xs) (o : Obj) : Sees (w.alloc o) A xs := h.keep fun p hp => World.cell?_alloc_lt w o p hp

/-- What is shown, opened at a place. -/
theorem Sees.at_ (h : Sees w A xs) (hx : 0 < xs.length) : ∃ b off, A = some ⟨b, off, none⟩ ∧ b < w.heap.size ∧ ∀ j, (hj : j < xs.length) → w.cell? ⟨b, off + j, none⟩ = some xs[j] := by
  rcases h with rfl | ⟨b, off, hA, hc⟩
  · simp at hx
  · exact ⟨b, off, hA, World.block_lt_of_cell? w _ (hc 0 _ (List.getElem?_eq_getElem hx)), fun j hj => hc j _ (List.getElem?_eq_getElem hj)⟩

theorem Sees.of_own {base : Nat} {e : TypeId} {n c : Nat} (h : w.ownsRow base e 1 (.slice A n c) n xs) : Sees w A xs := by
  rcases Nat.eq_zero_or_pos n with h0 | h0
  · left
    have := h.1
    exact List.eq_nil_of_length_eq_zero (by omega)
  · right
    rcases h.2 with ⟨_, h2⟩ | ⟨g, cap, cur, hv, _⟩
    · omega
    · injection hv with hA hn hc
      subst hA hc
      refine ⟨g, 0, rfl, fun j u hu => ?_⟩
      have hj : j < xs.length := (List.getElem?_eq_some_iff.1 hu).1
      have := h.cellAt (g := g) j (by have := h.1; omega)
      rw [Nat.zero_add, this, hu]
end

/-- A byte, an int, as a cell. -/
def by8 (b : UInt8) : Value := .int .u8 (b.toNat : Int)
def i64 (z : Int) : Value := .int .i64 z

/-- The slice A (its length is the list's) shows bytes; shows ints. -/
def Bytes (w : World) (A : Option Addr) (bs : List UInt8) : Prop := Sees w A (bs.map by8)
def Ints (w : World) (A : Option Addr) (zs : List Int) : Prop := Sees w A (zs.map i64)

section
variable {w w' : World} {A : Option Addr} {bs : List UInt8} {zs : List Int}
theorem Bytes.nil_ : Bytes w A [] := .inl rfl
theorem Ints.nil_ : Ints w A [] := .inl rfl
theorem Bytes.below (h : Bytes w A bs) (hb : Below w.heap.size w w') : Bytes w' A bs := Sees.below h hb
theorem Ints.below (h : Ints w A zs) (hb : Below w.heap.size w w') : Ints w' A zs := Sees.below h hb
theorem Bytes.alloc (h : Bytes w A bs) (o : Obj) : Bytes (w.alloc o) A bs := Sees.alloc h o
theorem Ints.alloc (h : Ints w A zs) (o : Obj) : Ints (w.alloc o) A zs := Sees.alloc h o
theorem Bytes.at_ (h : Bytes w A bs) (hx : 0 < bs.length) : ∃ b off, A = some ⟨b, off, none⟩ ∧ b < w.heap.size ∧ ∀ j, j < bs.length → w.cell? ⟨b, off + j, none⟩ = some (.int .u8 ((bs.getD j 0).toNat : Int)) := by
  obtain ⟨b, off, hA, hb, hc⟩ := Sees.at_ h (by simpa using hx)
  refine ⟨b, off, hA, hb, fun j hj => ?_⟩
  rw [hc j (by simpa using hj)]
  simp [by8, List.getD_eq_getElem?_getD, hj]
theorem Ints.at_ (h : Ints w A zs) (hx : 0 < zs.length) : ∃ b off, A = some ⟨b, off, none⟩ ∧ b < w.heap.size ∧ ∀ j, j < zs.length → w.cell? ⟨b, off + j, none⟩ = some (.int .i64 (zs.getD j 0)) := by
  obtain ⟨b, off, hA, hb, hc⟩ := Sees.at_ h (by simpa using hx)
  refine ⟨b, off, hA, hb, fun j hj => ?_⟩
  rw [hc j (by simpa using hj)]
  simp [i64, List.getD_eq_getElem?_getD, hj]
end

theorem ret_bool {a b : Bool} (h : a = b) : Ending.returned (.bool a) = .returned (.bool b) := by rw [h]
theorem ret_int {k : IntKind} {a b : Int} (h : a = b) : Ending.returned (.int k a) = .returned (.int k b) := by rw [h]
theorem ret_slice {A : Option Addr} {n m c : Nat} (h : n = m) : Ending.returned (.slice A n c) = .returned (.slice A m c) := by rw [h]
theorem ret_slice2 {A : Option Addr} {n m c : Nat} {v : Value} (h : n = m) : Ending.returned (.tuple #[.slice A n c, v]) = .returned (.tuple #[.slice A m c, v]) := by rw [h]
theorem ret_slice3 {A : Option Addr} {n m c : Nat} {u v : Value} (h : n = m) : Ending.returned (.tuple #[.slice A n c, u, v]) = .returned (.tuple #[.slice A m c, u, v]) := by rw [h]
end Go.Cat
