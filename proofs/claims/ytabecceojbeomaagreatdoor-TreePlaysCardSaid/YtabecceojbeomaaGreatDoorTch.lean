/- What a call leaves as it was, but for the blocks of a set. No condition. -/
import Derived.Test.YtabecceojbeomaaGreatDoorLib
import Derived.Test.YtabecceojbeomaaGreatDoorFlat
namespace Go.Cat
open Go.RowKit
/-- From w to w': new blocks, and other cells in the blocks of K alone. -/
structure Tch (K : Nat → Prop) (w w' : World) : Prop where
  os : w'.os = w.os
  tape : w'.tape = w.tape
  output : w'.output = w.output
  size : w.heap.size ≤ w'.heap.size
  block : ∀ k, k < w.heap.size → ¬ K k → w'.heap[k]? = w.heap[k]?
section
variable {K K' : Nat → Prop} {w w' w'' : World}
theorem Tch.refl (K : Nat → Prop) (w : World) : Tch K w w := ⟨rfl, rfl, rfl, Nat.le_refl _, fun _ _ _ => rfl⟩
theorem Tch.of_below (h : Below w.heap.size w w') : Tch K w w' := ⟨h.os, h.tape, h.output, h.size, fun k hk _ => h.block k hk⟩
theorem Tch.trans (h : Tch K w w') (h' : Tch K w' w'') : Tch K w w'' :=
  ⟨h'.os.trans h.os, h'.tape.trans h.tape, h'.output.trans h.output, Nat.le_trans h.size h'.size, fun k hk ha => (h'.block k (Nat.lt_of_lt_of_le hk h.size) ha).trans (h.block k hk ha)⟩
theorem Tch.mono (h : Tch K w w') (hK : ∀ k, k < w.heap.size → K k → K' k) : Tch K' w w' := ⟨h.os, h.tape, h.output, h.size, fun k hk hn => h.block k hk fun hx => hn (hK k hk hx)⟩
theorem Tch.below {B : Nat} (h : Tch K w w') (hB : B ≤ w.heap.size) (hK : ∀ k, K k → B ≤ k) : Below B w w' := ⟨h.os, h.tape, h.output, h.size, fun k hk => h.block k (by omega) fun hx => by have := hK k hx; omega⟩
theorem Tch.set (w : World) (g i : Nat) (v : Value) : Tch (fun k => k = g) w (w.setCell ⟨g, i, none⟩ v) := ⟨rfl, rfl, rfl, by simp [World.setCell], fun _ _ h => set_other v h⟩
theorem Tch.grown {row : Option Nat} (h : w.grownBy w' row) : Tch (fun k => row = some k) w w' := ⟨h.os, h.tape, h.output, h.size, fun k hk hn => h.block k hk fun e => hn e.symm⟩
theorem own_touch {base n size : Nat} {e : TypeId} {v : Value} {xs : List Value} (h : w.ownsRow base e size v n xs) (ht : Tch K w w') (hK : ∀ k, v.ownBlock = some k → ¬ K k) : w'.ownsRow base e size v n xs := by
  refine ⟨h.1, ?_⟩
  rcases h.2 with h2 | ⟨g, cap, cur, hv, hb, hh, r⟩
  · exact .inl h2
  · refine .inr ⟨g, cap, cur, hv, hb, ?_, r⟩
    rw [ht.block g (Array.getElem?_eq_some_iff.1 hh).1 (hK g (by rw [hv]; rfl))]
    exact hh
end
theorem own_dN {w : World} {base size n : Nat} {e : TypeId} {v : Value} {xs : List Value} (h : w.ownsRow base e size v n xs) (q : Nat) : (w.drewN q).ownsRow base e size v n xs := h
theorem own_typeV {w : World} {base n size : Nat} {e : TypeId} {v : Value} {xs : List Value} {k : Nat} (h : w.ownsRow base e size v n xs) (hk : v.ownBlock = some k) : ∃ cs fr, w.heap[k]? = some (.cells cs e fr) := by
  rcases h.2 with ⟨rfl, _⟩ | ⟨g', cap, cur, rfl, _, hh, _⟩
  · cases hk
  · simp only [Value.ownBlock, Option.some.injEq] at hk
    subst hk
    exact ⟨_, _, hh⟩
theorem bytes_touch {K : Nat → Prop} {w w' : World} {A : Option Addr} {b : List UInt8} (h : Bytes w A b) (ht : Tch K w w') (hne : ∀ k o, A = some ⟨k, o, none⟩ → ¬ K k) : Bytes w' A b := by
  rcases h with h | ⟨k, o, hA, hc⟩
  · exact .inl h
  · refine .inr ⟨k, o, hA, fun j u hu => ?_⟩
    have h1 := hc j u hu
    exact (World.cell?_of_block (ht.block k (World.block_lt_of_cell? w _ h1) (hne k o hA))).trans h1
end Go.Cat
