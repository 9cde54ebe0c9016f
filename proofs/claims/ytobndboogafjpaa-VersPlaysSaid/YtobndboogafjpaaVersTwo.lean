/- Two blocks of versions held side by side: what a call on one leaves of the other. No condition. -/
import Derived.Test.YtobndboogafjpaaVersTrim
import Derived.Test.YtobndboogafjpaaVersMore
namespace Go.Proofs.Ytobndboogafjpaa
open Go.RowKit Go.Cat Go.Cat.Vers

/-- Two blocks, of one base, that share no row. -/
structure TwoV (base g h : Nat) (R S : Value) (w : World) (l m : List Ver) : Prop where
  one : HoldV base g R w l
  two : HoldV base h S w m
  ne : g ≠ h
  rows : ∀ k, R.ownBlock = some k → S.ownBlock ≠ some k

section
variable {base g h : Nat} {R S R' S' : Value} {w w' : World} {l m l' m' : List Ver}
theorem TwoV.below (t : TwoV base g h R S w l m) (hb : Below w.heap.size w w') : TwoV base g h R S w' l m := ⟨t.one.below hb, t.two.below hb, t.ne, t.rows⟩

theorem hold_row_lt (hS : HoldV base h S w m) : ∀ k, S.ownBlock = some k → k < w.heap.size := by
  intro k hk
  obtain ⟨_, cs, e, fr, hh, _⟩ := hS.mine k (.inr hk)
  exact (Array.getElem?_eq_some_iff.1 hh).1

theorem hold_apart (h1 : HoldV base g R w l) (h2 : HoldV base h S w m) (hne : g ≠ h) (hrows : ∀ k, R.ownBlock = some k → S.ownBlock ≠ some k) (ht : Tch (Mine g R) w w') : HoldV base h S w' m := by
  refine h2.touch ht ?_ ?_ (h1.data_off (by decide) (by decide))
  · rintro (e | e)
    · exact hne e.symm
    · obtain ⟨rs, _, hr, _⟩ := h1.row
      rcases hr.2 with ⟨rfl, _⟩ | ⟨g', cap, cur, rfl, _, hh, _⟩
      · cases e
      · simp only [Value.ownBlock, Option.some.injEq] at e
        subst e
        have := h2.cell
        rw [hh] at this
        injection this with this
        injection this with _ this
        exact absurd this (by decide)
  · intro k hk
    rintro (e | e)
    · subst e
      obtain ⟨rs, _, hr, _⟩ := h2.row
      rcases hr.2 with ⟨rfl, _⟩ | ⟨g', cap, cur, rfl, _, hh, _⟩
      · cases hk
      · simp only [Value.ownBlock, Option.some.injEq] at hk
        subst hk
        have := h1.cell
        rw [hh] at this
        injection this with this
        injection this with _ this
        exact absurd this (by decide)
    · exact hrows k e hk

theorem TwoV.first (t : TwoV base g h R S w l m) (h1 : HoldV base g R' w' l') (hn : R'.ownBlock = R.ownBlock ∨ ∃ k, R'.ownBlock = some k ∧ w.heap.size ≤ k) (ht : Tch (Mine g R) w w') : TwoV base g h R' S w' l' m := by
  refine ⟨h1, hold_apart t.one t.two t.ne t.rows ht, t.ne, fun k hk => ?_⟩
  rcases hn with hn | ⟨k', hn, hle⟩
  · exact t.rows k (by rw [← hn]; exact hk)
  · rw [hn] at hk
    injection hk with hk
    subst hk
    intro e
    have := hold_row_lt t.two _ e
    omega

theorem TwoV.swap (t : TwoV base g h R S w l m) : TwoV base h g S R w m l := ⟨t.two, t.one, Ne.symm t.ne, fun k hk e => t.rows k e hk⟩

theorem TwoV.second (t : TwoV base g h R S w l m) (h2 : HoldV base h S' w' m') (hn : S'.ownBlock = S.ownBlock ∨ ∃ k, S'.ownBlock = some k ∧ w.heap.size ≤ k) (ht : Tch (Mine h S) w w') : TwoV base g h R S' w' l m' :=
  (t.swap.first h2 hn ht).swap

/-- Trim's word on the new row, in Put's form. -/
theorem trim_row {R R' : Value} {w : World} (h : ∀ k, R'.ownBlock = some k → R.ownBlock = some k ∨ w.heap.size ≤ k) : R'.ownBlock = none ∨ R'.ownBlock = R.ownBlock ∨ ∃ k, R'.ownBlock = some k ∧ w.heap.size ≤ k := by
  rcases hr : R'.ownBlock with _ | k
  · exact .inl rfl
  · right
    rcases h k hr with h1 | h1
    · exact .inl h1.symm
    · exact .inr ⟨k, rfl, h1⟩

theorem TwoV.trimmed (t : TwoV base g h R S w l m) (h1 : HoldV base g R' w' l') (hn : ∀ k, R'.ownBlock = some k → R.ownBlock = some k ∨ w.heap.size ≤ k) (ht : Tch (Mine g R) w w') : TwoV base g h R' S w' l' m := by
  refine ⟨h1, hold_apart t.one t.two t.ne t.rows ht, t.ne, fun k hk => ?_⟩
  rcases hn k hk with h2 | h2
  · exact t.rows k h2
  · intro e
    have := hold_row_lt t.two _ e
    omega

theorem HoldV.low_base {b0 : Nat} (h : HoldV base g R w l) (hb : b0 ≤ base) : HoldV b0 g R w l := by
  obtain ⟨rs, h1, h2, h3⟩ := h.row
  refine ⟨Nat.le_trans hb h.low, h.cell, rs, h1, own_mono h2 hb, fun r hr => ?_⟩
  rcases h3 r hr with h | ⟨b, cs, fr, hbs, r⟩
  · exact .inl h
  · exact .inr ⟨b, cs, fr, Nat.le_trans hb hbs, r⟩

theorem mine_below (hb : HoldV base g R w l) (hB : base ≤ w.heap.size) (ht : Tch (Mine g R) w w') : Below base w w' := ht.below hB fun k hk => (hb.mine k hk).1
end

theorem cut_dirty {l : List Ver} {done d : Int} {k : Nat} (h : Cleaned l done k) : dirty (l.drop (k - 1)) d = dirty l d := by
  unfold dirty
  rw [cut_last (cut_ok h)]
  congr 1
  rw [List.length_drop]
  rcases cut_ok h with h0 | h0
  · rw [h0]; rfl
  · congr 1
    exact propext ⟨fun _ => by omega, fun _ => by omega⟩

/-- What the loop of the law keeps: versions first, first + 1, .. whose seqs rise to seq. -/
structure Grown (first seq : Int) (i : Nat) (l : List Ver) : Prop where
  len : l.length = i
  rise : Rising l
  data : ∀ v ∈ l, v.data.length ≤ 1
  last : 0 < i → (l.getLastD zero).ver = first + i - 1 ∧ (l.getLastD zero).seq = seq
theorem Grown.none {first : Int} : Grown first 0 0 [] := ⟨rfl, fun i j _ hj => by simp at hj, by simp, by omega⟩
theorem Grown.small {first seq : Int} {i : Nat} {l : List Ver} (h : Grown first seq i l) (hi : i ≤ 40) : Small l := ⟨by rw [h.len]; omega, fun v hv => by have := h.data v hv; omega⟩
theorem Grown.next {first seq : Int} {i : Nat} {l : List Ver} (h : Grown first seq i l) (g : UInt8) (s : Int) (hs : seq < s) : Grown first s (i + 1) (l ++ [⟨first + i, s, [g]⟩]) := by
  refine ⟨by simp [h.len], h.rise.put fun h0 => ?_, ?_, fun _ => ?_⟩
  · have := h.last (by rw [← h.len]; exact h0)
    simp only
    omega
  · intro v hv
    rcases List.mem_append.1 hv with hv | hv
    · exact h.data v hv
    · simp at hv; simp [hv]
  · rw [lastD_new]
    refine ⟨?_, rfl⟩
    show first + (i : Int) = first + ((i + 1 : Nat) : Int) - 1
    omega
end Go.Proofs.Ytobndboogafjpaa
