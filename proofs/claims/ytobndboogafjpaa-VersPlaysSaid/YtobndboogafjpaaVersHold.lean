/- A block of versions as its holder has it: its cell, its row, its versions' bytes; what a step touches. No condition. -/
import Derived.Test.YtobndboogafjpaaVersRead
namespace Go.Cat
open Go.RowKit

/-- From w to w': new blocks, and other cells in the blocks of K alone. -/
structure Tch (K : Nat → Prop) (w w' : World) : Prop where
  os : w'.os = w.os
  tape : w'.tape = w.tape
  output : w'.output = w.output
  size : w.heap.size ≤ w'.heap.size
  block : ∀ k, k < w.heap.size → ¬ K k → w'.heap[k]? = w.heap[k]?

section
variable {K K' : Nat → Prop} {w w' w'' : World}
theorem Tch.refl (K : Nat → Prop) (w : World) : Tch K w w := ⟨rfl, rfl, rfl, Nat.le_refl _, fun _ _ _ => rfl⟩
theorem Tch.of_below (h : Below w.heap.size w w') : Tch K w w' := ⟨h.os, h.tape, h.output, h.size, fun k hk _ => h.block k hk⟩
theorem Tch.trans (h : Tch K w w') (h' : Tch K w' w'') : Tch K w w'' :=
  ⟨h'.os.trans h.os, h'.tape.trans h.tape, h'.output.trans h.output, Nat.le_trans h.size h'.size, fun k hk ha => (h'.block k (Nat.lt_of_lt_of_le hk h.size) ha).trans (h.block k hk ha)⟩
theorem Tch.mono (h : Tch K w w') (hK : ∀ k, k < w.heap.size → K k → K' k) : Tch K' w w' := ⟨h.os, h.tape, h.output, h.size, fun k hk hn => h.block k hk fun hx => hn (hK k hk hx)⟩
theorem Tch.below {B : Nat} (h : Tch K w w') (hB : B ≤ w.heap.size) (hK : ∀ k, K k → B ≤ k) : Below B w w' := ⟨h.os, h.tape, h.output, h.size, fun k hk => h.block k (by omega) fun hx => by have := hK k hx; omega⟩
theorem Tch.upd {B : Nat} {S : List TypeId} (h : Tch K w w') (hK : ∀ k, k < w.heap.size → K k → B ≤ k ∧ ∃ cs e fr, w.heap[k]? = some (.cells cs e fr) ∧ e ∈ S) : Upd B S w w' :=
  ⟨h.os, h.tape, h.output, h.size, fun k hk ha => h.block k hk fun hx => by
    obtain ⟨h1, cs, e, fr, h2, h3⟩ := hK k hk hx
    rcases ha with ha | ha
    · omega
    · exact ha cs e fr h2 h3⟩

/-- The address shows the bytes, in a row of bytes from block base on. -/
def Held (e : TypeId) (base : Nat) (w : World) (A : Option Addr) (bs : List UInt8) : Prop :=
  bs = [] ∨ ∃ b cs fr, base ≤ b ∧ A = some ⟨b, 0, none⟩ ∧ w.heap[b]? = some (.cells cs e fr) ∧ ∀ j u, (bs.map by8)[j]? = some u → w.cell? ⟨b, 0 + j, none⟩ = some u
theorem Held.bytes {e : TypeId} {base : Nat} {A : Option Addr} {bs : List UInt8} (h : Held e base w A bs) : Bytes w A bs := by
  rcases h with rfl | ⟨b, cs, fr, _, hA, _, hc⟩
  · exact Bytes.nil_
  · exact .inr ⟨b, 0, hA, hc⟩
theorem Held.touch {e : TypeId} {base : Nat} {A : Option Addr} {bs : List UInt8} (h : Held e base w A bs) (ht : Tch K w w') (hK : ∀ k cs fr, base ≤ k → w.heap[k]? = some (.cells cs e fr) → ¬ K k) : Held e base w' A bs := by
  rcases h with rfl | ⟨b, cs, fr, hbs, hA, hb, hc⟩
  · exact .inl rfl
  · have hlt : b < w.heap.size := (Array.getElem?_eq_some_iff.1 hb).1
    have hs := ht.block b hlt (hK b cs fr hbs hb)
    exact .inr ⟨b, cs, fr, hbs, hA, hs.trans hb, fun j u hj => (World.cell?_of_block hs).trans (hc j u hj)⟩
theorem Held.of_own {base n c : Nat} {e : TypeId} {A : Option Addr} {bs : List UInt8} (h : w.ownsRow base e 1 (.slice A n c) n (bs.map by8)) : Held e base w A bs := by
  have hs := ownN_sees h
  rcases h.2 with ⟨hv, hn⟩ | ⟨g, cap, cur, hv, hbg, hh, _⟩
  · left
    have := h.1
    subst hn
    exact List.eq_nil_of_length_eq_zero (by simpa using this)
  · injection hv with hA hn hc
    rcases hs with hs | ⟨b, off, hA', hcs⟩
    · exact .inl (by simpa using hs)
    · rw [hA] at hA'
      injection hA' with hA'
      injection hA' with h1 h2
      subst h1 h2
      exact .inr ⟨_, _, _, hbg, hA, hh, hcs⟩
theorem own_touch {base n size : Nat} {e : TypeId} {v : Value} {xs : List Value} (h : w.ownsRow base e size v n xs) (ht : Tch K w w') (hK : ∀ k, v.ownBlock = some k → ¬ K k) : w'.ownsRow base e size v n xs := by
  refine ⟨h.1, ?_⟩
  rcases h.2 with h2 | ⟨g, cap, cur, hv, hb, hh, r⟩
  · exact .inl h2
  · refine .inr ⟨g, cap, cur, hv, hb, ?_, r⟩
    rw [ht.block g (Array.getElem?_eq_some_iff.1 hh).1 (hK g (by rw [hv]; rfl))]
    exact hh
end
namespace Vers

/-- The block at g holds these versions: its row is at v. -/
structure Hold (tB tV tD : TypeId) (base g : Nat) (R : Value) (w : World) (l : List Ver) : Prop where
  low : base ≤ g
  cell : w.heap[g]? = some (.cells #[R] tB (0, 0))
  row : ∃ rs, rs.map (·.1) = l ∧ w.ownsRow base tV 3 R l.length (rows rs) ∧ ∀ r ∈ rs, Held tD base w r.2.1 r.1.data

section
variable {tB tV tD : TypeId} {base g : Nat} {R : Value} {w w' : World} {l : List Ver} {K : Nat → Prop}
theorem Hold.lt (h : Hold tB tV tD base g R w l) : g < w.heap.size := (Array.getElem?_eq_some_iff.1 h.cell).1
theorem Hold.blk (h : Hold tB tV tD base g R w l) : Blk w (some ⟨g, 0, none⟩) l := by
  obtain ⟨rs, h1, h2, h3⟩ := h.row
  obtain ⟨A, c, rfl, hnc, _⟩ := own_full h2
  exact .inr ⟨g, A, c, rfl, by rw [cell_of_row w g 0 _ tB (0, 0) h.cell]; rfl, hnc, rs, h1, ownN_sees h2, fun r hr => (h3 r hr).bytes⟩
theorem Hold.touch (h : Hold tB tV tD base g R w l) (ht : Tch K w w') (hg : ¬ K g) (hR : ∀ k, R.ownBlock = some k → ¬ K k) (hD : ∀ k cs fr, base ≤ k → w.heap[k]? = some (.cells cs tD fr) → ¬ K k) : Hold tB tV tD base g R w' l := by
  obtain ⟨rs, h1, h2, h3⟩ := h.row
  exact ⟨h.low, (ht.block g h.lt hg).trans h.cell, rs, h1, own_touch h2 ht hR, fun r hr => (h3 r hr).touch ht hD⟩
theorem Hold.below (h : Hold tB tV tD base g R w l) (hb : Below w.heap.size w w') : Hold tB tV tD base g R w' l :=
  h.touch (K := fun _ => False) (Tch.of_below hb) (fun h => h) (fun _ _ h => h) fun _ _ _ _ _ h => h
/-- What a call on the block may touch: its cell's block, its row. -/
def Mine (g : Nat) (R : Value) (k : Nat) : Prop := k = g ∨ R.ownBlock = some k
theorem Hold.mine (h : Hold tB tV tD base g R w l) : ∀ k, Mine g R k → base ≤ k ∧ ∃ cs e fr, w.heap[k]? = some (.cells cs e fr) ∧ (e = tB ∨ e = tV) := by
  intro k hk
  rcases hk with rfl | hk
  · exact ⟨h.low, _, _, _, h.cell, .inl rfl⟩
  · obtain ⟨rs, h1, h2, h3⟩ := h.row
    rcases h2.2 with ⟨rfl, _⟩ | ⟨g', cap, cur, rfl, hb, hh, _⟩
    · cases hk
    · injection hk with hk
      subst hk
      exact ⟨hb, _, _, _, hh, .inr rfl⟩
theorem Hold.data_off (h : Hold tB tV tD base g R w l) (h1 : tD ≠ tB) (h2 : tD ≠ tV) : ∀ k cs fr, base ≤ k → w.heap[k]? = some (.cells cs tD fr) → ¬ Mine g R k := by
  intro k cs fr _ hk hm
  obtain ⟨_, cs', e, fr', he, ht⟩ := h.mine k hm
  rw [hk] at he
  injection he with he
  injection he with _ he
  subst he
  rcases ht with ht | ht
  · exact h1 ht
  · exact h2 ht
end
end Vers
end Go.Cat
