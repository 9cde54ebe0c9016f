/- A picture that goes out, in memory; in plain words its parts. No condition. -/
import Derived.Test.YtgjhcmjkdjnjfaaMoveChunk
import Derived.Test.YtgjhcmjkdjnjfaaHeap
namespace Go.Cat.Move
open Go.RowKit Go.Cat

/-- The bytes, part by part. -/
def chunks (bs : List UInt8) : List (List UInt8) := if bs.length = 0 then [[]] else (List.range (ccount bs.length)).map fun k => (bs.drop (1024 * k)).take 1024
theorem chunks_length (bs : List UInt8) : (chunks bs).length = max 1 (ccount bs.length) := by
  unfold chunks ccount
  split
  · simp; omega
  · simp; omega
theorem chunks_at {bs : List UInt8} {k : Nat} (hk : k < (chunks bs).length) : (chunks bs)[k] = (bs.drop (1024 * k)).take 1024 := by
  have hl := chunks_length bs
  unfold chunks at hk ⊢
  by_cases h0 : bs.length = 0
  · simp only [h0, if_true] at hk ⊢
    simp at hk
    subst hk
    have : bs = [] := List.eq_nil_of_length_eq_zero h0
    simp [this]
  · simp [h0]

/-- The address shows the cells, in a block from base on. -/
def SeesB (base : Nat) (w : World) (A : Option Addr) (xs : List Value) : Prop := xs = [] ∨ ∃ b off, base ≤ b ∧ A = some ⟨b, off, none⟩ ∧ ∀ j u, xs[j]? = some u → w.cell? ⟨b, off + j, none⟩ = some u
section
variable {base : Nat} {w w' : World} {A : Option Addr} {xs : List Value}
theorem SeesB.sees (h : SeesB base w A xs) : Sees w A xs := by
  rcases h with h | ⟨b, off, _, hA, hc⟩
  · exact .inl h
  · exact .inr ⟨b, off, hA, hc⟩
theorem SeesB.keep (h : SeesB base w A xs) (hk : ∀ k cs t fr, base ≤ k → w.heap[k]? = some (.cells cs t fr) → w'.heap[k]? = w.heap[k]?) : SeesB base w' A xs := by
  rcases h with h | ⟨b, off, hb, hA, hc⟩
  · exact .inl h
  · refine .inr ⟨b, off, hb, hA, fun j u hj => ?_⟩
    have := hc j u hj
    obtain ⟨o, ho, hcs⟩ := cells_of_cell this
    cases o with
    | cells cs t fr => exact (World.cell?_of_block (hk b cs t fr hb ho)).trans this
    | _ => simp [Obj.isCells] at hcs
theorem SeesB.of_own {b0 e size n c : Nat} {A : Option Addr} {xs : List Value} (h : w.ownsRow b0 e size (.slice A n c) n xs) (hb : base ≤ b0) : SeesB base w A xs := by
  rcases ownN_sees h with h2 | ⟨b, off, hA, hc⟩
  · exact .inl h2
  · rcases h.2 with ⟨hv, _⟩ | ⟨g, cap, cur, hv, hbg, _⟩
    · injection hv with hv
      rw [hv] at hA
      cases hA
    · injection hv with hv
      rw [hv] at hA
      injection hA with hA
      injection hA with hA _
      subst hA
      exact .inr ⟨_, off, by omega, by rw [hv]; simp_all, hc⟩
end

def pval (x : Option Addr × Nat × List UInt8) : Value := .slice x.1 x.2.2.length x.2.1

/-- The block at g is a picture of that number, of these bytes; all that it has lies from base on. -/
def OutB (t : TypeId) (base : Nat) (at_ : Int) (bs : List UInt8) (g : Nat) (w : World) : Prop :=
  ∃ (Ao : Option Addr) (co : Nat) (ps : List (Option Addr × Nat × List UInt8)), base ≤ g ∧ w.heap[g]? = some (.cells #[.int .u64 at_, .slice Ao ps.length co] t (0, 0)) ∧ ps.length ≤ co ∧ ps.map (·.2.2) = chunks bs ∧ SeesB base w Ao (ps.map pval) ∧ ∀ x ∈ ps, SeesB base w x.1 (x.2.2.map by8)
section
variable {t : TypeId} {base : Nat} {at_ : Int} {bs : List UInt8} {g : Nat} {w w' : World}
theorem OutB.lt (h : OutB t base at_ bs g w) : g < w.heap.size := by
  obtain ⟨_, _, _, _, h, _⟩ := h
  exact (Array.getElem?_eq_some_iff.1 h).1
theorem OutB.keep (h : OutB t base at_ bs g w) (hk : ∀ k cs t fr, base ≤ k → w.heap[k]? = some (.cells cs t fr) → w'.heap[k]? = w.heap[k]?) : OutB t base at_ bs g w' := by
  obtain ⟨Ao, co, ps, h0, h1, h2, h3, h4, h5⟩ := h
  exact ⟨Ao, co, ps, h0, (hk g _ _ _ h0 h1).trans h1, h2, h3, h4.keep hk, fun x hx => (h5 x hx).keep hk⟩
theorem OutB.below (h : OutB t base at_ bs g w) (hb : Below w.heap.size w w') : OutB t base at_ bs g w' := h.keep fun k _ _ _ _ hk => hb.block k (Array.getElem?_eq_some_iff.1 hk).1

theorem out_mk {gb B0 co : Nat} {Ao : Option Addr} {e u8 : TypeId} {cs : Array Value} (h0 : 0 < bs.length) (h1 : w.heap[g]? = some (.cells #[.int .u64 at_, .slice Ao (ccount bs.length) co] t (0, 0))) (hco : ccount bs.length ≤ co)
    (h3 : w.ownsRow B0 e 1 (.slice Ao (ccount bs.length) co) (ccount bs.length) ((cupto bs.length (ccount bs.length)).map fun x => .slice (some ⟨gb, x.1, none⟩) x.2 x.2)) (_ : w.heap[gb]? = some (.cells cs u8 (0, 0)))
    (h5 : ∀ j u, (bs.map by8)[j]? = some u → w.cell? ⟨gb, 0 + j, none⟩ = some u) (hg : base ≤ g) (hgb : base ≤ gb) (hB : base ≤ B0) : OutB t base at_ bs g w := by
  have hlen : ((List.range (ccount bs.length)).map fun k => ((some ⟨gb, 1024 * k, none⟩, min 1024 (bs.length - 1024 * k), (bs.drop (1024 * k)).take 1024) : Option Addr × Nat × List UInt8)).length = ccount bs.length := by simp
  refine ⟨Ao, co, (List.range (ccount bs.length)).map fun k => (some ⟨gb, 1024 * k, none⟩, min 1024 (bs.length - 1024 * k), (bs.drop (1024 * k)).take 1024), hg, by rw [hlen]; exact h1, by rw [hlen]; exact hco, ?_, ?_, ?_⟩
  · unfold chunks
    rw [if_neg (by omega), List.map_map]
    rfl
  · have e : (((List.range (ccount bs.length)).map fun k => ((some ⟨gb, 1024 * k, none⟩, min 1024 (bs.length - 1024 * k), (bs.drop (1024 * k)).take 1024) : Option Addr × Nat × List UInt8)).map pval) = (cupto bs.length (ccount bs.length)).map fun x => .slice (some ⟨gb, x.1, none⟩) x.2 x.2 := by
      unfold cupto
      rw [List.map_map, List.map_map]
      apply List.map_congr_left
      intro k _
      simp [pval, cpart]
    rw [e]
    exact SeesB.of_own h3 hB
  · intro x hx
    obtain ⟨k, hk, rfl⟩ := List.mem_map.1 hx
    refine .inr ⟨gb, 1024 * k, hgb, rfl, fun j u hj => ?_⟩
    have hj2 : (bs.map by8)[1024 * k + j]? = some u := by
      rw [List.getElem?_map] at hj ⊢
      have h6 : ((bs.drop (1024 * k)).take 1024)[j]? = bs[1024 * k + j]? := by
        have hjl : j < ((bs.drop (1024 * k)).take 1024).length := by
          rcases Nat.lt_or_ge j ((bs.drop (1024 * k)).take 1024).length with h | h
          · exact h
          · rw [List.getElem?_eq_none h] at hj; cases hj
        rw [List.getElem?_take, if_pos (by simp at hjl; omega), List.getElem?_drop]
      rw [← h6]
      exact hj
    have := h5 _ u hj2
    rwa [Nat.zero_add] at this
end
end Go.Cat.Move
