/- The frames of this seat: the plain wrap with a laid table beside the precondition and the world's shape kept; a slice of strings opened; the variable MaxLen's cell. No condition. -/
import Derived.Test.YtjilejmchaejiaaDoorFrame
import Derived.Test.YtjilejmchaejiaaDoorDirsPaths
import Derived.SizedLaws
import Derived.SliceStrings
import Derived.ChangeMaps5
import Derived.Shelf.Vars
import Derived.Handed
namespace Go
variable {H : Type} {enc : TypeId × Value → H}

theorem Cat.returnsInHanded_of_change_laid {a : Assume} {C : Checked} {os : Os} {f : FuncId} {fn : Func} {s : ChangeSpec} {conds : List PathCond} {apart fresh handsOn again : Bool} {X : World → Array Value → Prop}
    (own : ownKnob C.prog.godebug = none) (started : os.Started) (noInit : C.prog.inits.idxOf? f = none) (hfn : C.prog.funcs[f]? = some fn)
    (witness : ∃ (w : World) (tape : Tape) (i : Input), w.os = os ∧ (w.forCall tape i).Shaped C.prog ∧ i.vars = [] ∧ Input.okWide C.prog (w.forCall tape i) .any w.heap.size f i ∧
      ((s.pre enc C.prog fn conds apart (w.forCall tape i).memory i.args ∧ X (w.forCall tape i).memory i.args) ∧ sizedMet enc C.prog fn (OpenSpec.ofChange s) apart (w.forCall tape i).memory i.args) ∧ a.holds C.prog (lone (Frame.enter C.prog f i.args .normal) [] (w.forCall tape i)))
    (contract : ∀ (W : World) (base : Nat) (args : Array Value) (ds gs : List (DataW H)) (before : List MemPlace),
      (∀ (j : Nat) t v, fn.params[j]? = some t → args[j]? = some v → Value.okWide C.prog W .any base t v) →
      DataW.Whole enc C.prog fn.params.toList s.vars apart W args.toList ds gs before →
      conds.all (PathCond.test C.prog ⟨fn.params.toList, ds, s.plain.varTypes C.prog, gs⟩) = true →
      W.ShapedOpen C.prog →
      Calls C.prog f args W fun e W' => ∃ v, e = .returned v ∧ s.post enc C.prog fn apart fresh handsOn again W args v W') :
    ReturnsInHanded a C os f .any (fun w args => (s.pre enc C.prog fn conds apart w args ∧ X w args) ∧ sizedMet enc C.prog fn (OpenSpec.ofChange s) apart w args) (s.post enc C.prog fn apart fresh handsOn again) := by
  refine returnsInHanded_of_calls own started noInit witness ?_
  intro w tape i _ hsh _ hok hpre hholds
  obtain ⟨_, _, _, fn', hfn', _, _, _, _, hval⟩ := hok
  have e : fn' = fn := Option.some.inj (hfn'.symm.trans hfn)
  subst e
  obtain ⟨⟨⟨ds, gs, before, hw, hc⟩, hx⟩, hz⟩ := hpre
  have hw' := DataW.Whole.of_heap (w' := w.forCall tape i) (by rfl) hw
  refine (contract (w.forCall tape i) w.heap.size i.args ds gs before hval hw' hc hsh).mono fun e W' ⟨v, he, hp⟩ => ?_
  subst he
  exact ChangeSpec.post_blind hp
end Go

namespace Go.Cat
open Go.ChangeShapes Go.WideShapes Go.ChangeAt Go.RowKit Go.Joins Go.Deep Go.Cat.Dir Go.Proofs.YtjilejmchaejiaaDoor
section
variable {H : Type} {enc : TypeId × Value → H} {P : Program} {W : World} {base : Nat} {spare : Nat → Bool} {held : Bool} {r : Reach} {b0 : Nat}

theorem open_txt {t : TypeId} {v : Value} {d : DataW H} {ps : List MemPlace} (ht : P.underlying t = some .string) (hval : Value.okWide P W r b0 t v) (hd : DataW.Trod enc P W base spare held t v d ps) :
    ∃ s : Txt, v = .string (bs s) := by
  obtain ⟨s, rfl, _⟩ := Go.ChangeMaps.open_string ht hval hd
  exact ⟨s.data.toList, rfl⟩

/-- A slice of strings that came in, opened. -/
theorem open_txts {t e : TypeId} {v : Value} {d : DataW H} {p : List MemPlace} (ht : P.underlying t = some (.slice e)) (he : P.underlying e = some .string) (hc : P.cellsOf e = 1)
    (hv : Value.okWide P W r b0 t v) (h : DataW.Trod enc P W base spare held t v d p) :
    ∃ (A : Option Addr) (c : Nat) (ls : List Txt), v = .slice A ls.length c ∧ ls.length ≤ c ∧ c ≤ maxLen ∧ Texts W A ls := by
  obtain ⟨a, n, c, rfl⟩ := okWide_slice ht hv
  obtain ⟨fuel, hf⟩ := h
  rcases DataW.trod_slice ht hf with ⟨hcs, _⟩ | ⟨x, len, cap, elems, rest, m, _, hcs, _, _, hl, hm, hel2, hx, _, _⟩
  · simp [Value.cells] at hcs
    obtain ⟨rfl, rfl, rfl⟩ := hcs
    exact ⟨none, 0, [], rfl, Nat.le_refl _, by unfold maxLen; omega, .inl rfl⟩
  · simp [Value.cells] at hcs
    obtain ⟨rfl, rfl, rfl⟩ := hcs
    rw [hc] at hx
    have each : ∀ i, i < n → ∃ s : Txt, W.cell? (x.add i) = some (sv s) := by
      intro i hi
      have h := hx i hi
      rw [List.getElem?_eq_getElem (by omega)] at h
      obtain ⟨cs, h1, h2⟩ := Option.bind_eq_some_iff.1 h
      obtain ⟨_, hl1, hcell⟩ := World.cells?_some h1
      match cs, hl1 with
      | [u], _ =>
        obtain ⟨s, hs, _⟩ := DataW.trod_string he h2
        simp at hs
        subst hs
        have := hcell 0 (by omega)
        simp at this
        refine ⟨s.data.toList, ?_⟩
        rw [show x.add i = (x.add i).add 0 by unfold Addr.add; split <;> simp_all]
        exact this
    by_cases hlen : n = 0
    · subst hlen
      exact ⟨some x, c, [], rfl, Nat.zero_le _, hm, .inl rfl⟩
    · obtain ⟨g, hg⟩ : ∃ g : Nat → Txt, ∀ i, i < n → W.cell? (x.add i) = some (sv (g i)) := by
        refine ⟨fun i => if h : i < n then (each i h).choose else [], fun i hi => ?_⟩
        simp only [hi, dif_pos]
        exact (each i hi).choose_spec
      have hx0 : W.cell? x = some (sv (g 0)) := by
        have := hg 0 (by omega)
        simpa [Addr.add] using this
      obtain ⟨b, off, rfl⟩ := spot_none hx0
      refine ⟨some ⟨b, off, none⟩, c, (List.range n).map g, by simp, by simpa using hl, hm, ?_⟩
      right
      refine ⟨b, off, rfl, fun j u hu => ?_⟩
      by_cases hj : j < n
      · have h2 := hg j hj
        have ea : (⟨b, off, none⟩ : Addr).add j = ⟨b, off + j, none⟩ := by unfold Addr.add; split <;> simp_all
        rw [ea] at h2
        rw [h2, ← hu]
        simp [hj]
      · simp [hj] at hu
end
end Go.Cat

namespace Go.Proofs.YtjilejmchaejiaaDoor
theorem maxl_of {w : World} (h : w.ShapedOpen Tryd.prog) : ∃ m, MaxL m w :=
  Go.Proofs.cell_of_shapedOpen_int (g := 0) (zero := #[.int .i64 0]) (t := 3) h (of_decide_eq_true (by kernel_rfl)) (by kernel_rfl) rfl (by kernel_rfl) (by kernel_rfl) Tryd.underlying3
end Go.Proofs.YtjilejmchaejiaaDoor
