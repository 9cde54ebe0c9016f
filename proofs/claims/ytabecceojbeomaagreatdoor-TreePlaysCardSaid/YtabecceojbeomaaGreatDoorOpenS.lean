/- A slice of elements of some cells each, that came in, opened by its elements' opener. No condition. -/
import Derived.Test.YtabecceojbeomaaGreatDoorFrame
import Derived.Test.YtabecceojbeomaaGreatDoorFlat
import Derived.Deep.Slices
namespace Go.Cat
open Go.ChangeShapes Go.WideShapes Go.ChangeAt Go.RowKit Go.Joins Go.Deep

section
variable {H : Type} {enc : TypeId × Value → H} {P : Program} {W : World} {base : Nat} {spare : Nat → Bool} {held : Bool} {r : Reach} {b0 : Nat}

theorem open_slice_cells {β : Type} (f : β → List Value) (Q : β → Prop) {t e : TypeId} {k : Nat} {v : Value} {fuel : Nat} {y : DataW H × List MemPlace} (ht : P.underlying t = some (.slice e)) (hk : ∀ b, (f b).length = k) (h0 : 0 < k) (hc : P.cellsOf e = k)
    (hel : ∀ n cs y, cs.length = k → DataW.trod enc P W base spare held n e cs = some y → ∃ b, cs = f b ∧ Q b)
    (hf : DataW.trod enc P W base spare held fuel t [v] = some y) :
    ∃ (A : Option Addr) (c : Nat) (bs : List β), v = .slice A bs.length c ∧ bs.length ≤ c ∧ c ≤ maxLen ∧ Sees W A (bs.flatMap f) ∧ ∀ b ∈ bs, Q b := by
  rcases DataW.trod_slice ht hf with ⟨hcs, _⟩ | ⟨a, len, cap, elems, rest, n, _, hcs, _, _, hl, hm, hel2, hx, _, _⟩
  · simp at hcs
    subst hcs
    exact ⟨none, 0, [], rfl, Nat.le_refl _, by unfold maxLen; omega, .inl rfl, by simp⟩
  · simp at hcs
    subst hcs
    rw [hc] at hx
    have each : ∀ i, i < len → ∃ b : β, W.cells? base (a.add (i * k)) k = some (f b) ∧ Q b := by
      intro i hi
      have h := hx i hi
      rw [List.getElem?_eq_getElem (by omega)] at h
      obtain ⟨cs, h1, h2⟩ := Option.bind_eq_some_iff.1 h
      obtain ⟨b, rfl, hq⟩ := hel n cs _ (World.cells?_some h1).2.1 h2
      exact ⟨b, h1, hq⟩
    by_cases hlen : len = 0
    · subst hlen
      exact ⟨some a, cap, [], rfl, Nat.zero_le _, hm, .inl rfl, by simp⟩
    · have : Nonempty β := ⟨(each 0 (by omega)).choose⟩
      obtain ⟨g, hg⟩ : ∃ g : Nat → β, ∀ i, i < len → W.cells? base (a.add (i * k)) k = some (f (g i)) ∧ Q (g i) := by
        refine ⟨fun i => if h : i < len then (each i h).choose else Classical.choice this, fun i hi => ?_⟩
        simp only [hi, dif_pos]
        exact (each i hi).choose_spec
      have hcell : ∀ i, i < len → ∀ j, j < k → W.cell? ((a.add (i * k)).add j) = (f (g i))[j]? := fun i hi => (World.cells?_some (hg i hi).1).2.2
      have hx0 : W.cell? a = (f (g 0))[0]? := by
        have := hcell 0 (by omega) 0 h0
        simpa [Addr.add] using this
      rw [List.getElem?_eq_getElem (by rw [hk]; exact h0)] at hx0
      obtain ⟨b, off, rfl⟩ := spot_none hx0
      refine ⟨some ⟨b, off, none⟩, cap, (List.range len).map g, by simp, by simpa using hl, hm, ?_, fun x hx => ?_⟩
      · refine Sees.flat_mk hk h0 fun i hi j hj => ?_
        have hi' : i < len := by simpa using hi
        have := hcell i hi' j hj
        have e : ((⟨b, off, none⟩ : Addr).add (i * k)).add j = ⟨b, off + (i * k + j), none⟩ := by
          unfold Addr.add
          split <;> split <;> simp_all <;> omega
        rw [e] at this
        rw [this]
        simp
      · obtain ⟨i, hi, rfl⟩ := List.mem_map.1 hx
        exact (hg i (List.mem_range.1 hi)).2

theorem open_slice_of {β : Type} (f : β → List Value) (Q : β → Prop) {t e : TypeId} {k : Nat} {v : Value} {d : DataW H} {p : List MemPlace} (ht : P.underlying t = some (.slice e)) (hk : ∀ b, (f b).length = k) (h0 : 0 < k) (hc : P.cellsOf e = k)
    (hel : ∀ n cs y, cs.length = k → DataW.trod enc P W base spare held n e cs = some y → ∃ b, cs = f b ∧ Q b)
    (hv : Value.okWide P W r b0 t v) (h : DataW.Trod enc P W base spare held t v d p) :
    ∃ (A : Option Addr) (c : Nat) (bs : List β), v = .slice A bs.length c ∧ bs.length ≤ c ∧ c ≤ maxLen ∧ Sees W A (bs.flatMap f) ∧ ∀ b ∈ bs, Q b := by
  obtain ⟨a, n, c, rfl⟩ := okWide_slice ht hv
  obtain ⟨fuel, hf⟩ := h
  exact open_slice_cells f Q ht hk h0 hc hel (by simpa [Value.cells] using hf)
end
end Go.Cat
