/- The arguments of the tree's laws, opened: a call, a slice of calls, a shape. No condition. -/
import Derived.Test.YtabecceojbeomaaGreatDoorTrBoxes
import Derived.Test.YtabecceojbeomaaGreatDoorOpenS
import Derived.Test.YtabecceojbeomaaGreatDoorTrCalls
namespace Go.Cat
open Go.ChangeShapes Go.WideShapes Go.ChangeAt Go.RowKit Go.Joins Go.Deep Go.Cat.Dir Go.Cat.Tree
/-- A call, and where its bytes lie. -/
abbrev Cl := CallV × Option Addr × Nat
def clC (x : Cl) : List Value := [.int .i64 x.1.kind, .string (bs x.1.path), .string (bs x.1.to), .int .i64 x.1.off, .int .i64 x.1.n, .slice x.2.1 x.1.data.length x.2.2]
def clOk (W : World) (x : Cl) : Prop := Bytes W x.2.1 x.1.data
section
variable {H : Type} {enc : TypeId × Value → H} {P : Program} {W : World} {base : Nat} {spare : Nat → Bool} {held : Bool} {r : Reach} {b0 : Nat}
theorem trod_struct6 {t : TypeId} {f0 f1 f2 f3 f4 f5 : Field} {fuel : Nat} {cs : List Value} {x : DataW H × List MemPlace} (ht : P.underlying t = some (.struct #[f0, f1, f2, f3, f4, f5])) (h : DataW.trod enc P W base spare held fuel t cs = some x) :
    ∃ y0 y1 y2 y3 y4 y5 n, DataW.trod enc P W base spare held n f0.type ((cs.drop f0.offset).take (P.cellsOf f0.type)) = some y0 ∧
      DataW.trod enc P W base spare held n f1.type ((cs.drop f1.offset).take (P.cellsOf f1.type)) = some y1 ∧ DataW.trod enc P W base spare held n f2.type ((cs.drop f2.offset).take (P.cellsOf f2.type)) = some y2 ∧
      DataW.trod enc P W base spare held n f3.type ((cs.drop f3.offset).take (P.cellsOf f3.type)) = some y3 ∧ DataW.trod enc P W base spare held n f4.type ((cs.drop f4.offset).take (P.cellsOf f4.type)) = some y4 ∧
      DataW.trod enc P W base spare held n f5.type ((cs.drop f5.offset).take (P.cellsOf f5.type)) = some y5 := by
  obtain ⟨xs, n, _, rfl, hl, hlen, hf⟩ := DataW.trod_struct ht h
  match xs, hlen with
  | [y0, y1, y2, y3, y4, y5], _ => exact ⟨y0, y1, y2, y3, y4, y5, n, by simpa using hf 0 f0 rfl, by simpa using hf 1 f1 rfl, by simpa using hf 2 f2 rfl, by simpa using hf 3 f3 rfl, by simpa using hf 4 f4 rfl, by simpa using hf 5 f5 rfl⟩
theorem pflat_one {α β : Type} (f : α → β) : ∀ l : List α, l.flatMap (fun b => [f b]) = l.map f
  | [] => rfl
  | x :: xs => by rw [List.flatMap_cons, List.map_cons, pflat_one f xs]; rfl
theorem topen_bytes1 {t e : TypeId} {v : Value} {fuel : Nat} {y : DataW H × List MemPlace} (ht : P.underlying t = some (.slice e)) (he : P.underlying e = some (.int .u8)) (hc : P.cellsOf e = 1)
    (hf : DataW.trod enc P W base spare held fuel t [v] = some y) :
    ∃ (A : Option Addr) (c : Nat) (bs : List UInt8), v = .slice A bs.length c ∧ bs.length ≤ c ∧ c ≤ maxLen ∧ Bytes W A bs := by
  obtain ⟨A, c, bs, rfl, h1, h2, hs, _⟩ := open_slice_cells (fun b : UInt8 => [by8 b]) (fun _ => True) ht (k := 1) (fun _ => rfl) (by omega) hc (fun n cs y hl hf => by
    match cs, hl with
    | [c0], _ =>
      obtain ⟨a, ha, _, wa⟩ := DataW.trod_int he hf
      simp at ha
      subst ha
      refine ⟨UInt8.ofNat a.toNat, ?_, trivial⟩
      simp [Lit.wf, IntKind.min, IntKind.max, IntKind.signed, IntKind.bits] at wa
      simp [by8]
      omega) hf
  refine ⟨A, c, bs, rfl, h1, h2, ?_⟩
  rw [pflat_one] at hs
  exact hs
/-- What api.Call is, in the program's table. -/
structure CallT (P : Program) (t : TypeId) : Prop where
  ok : ∃ f0 f1 f2 f3 f4 f5 tb, P.underlying t = some (.struct #[f0, f1, f2, f3, f4, f5]) ∧ P.cellsOf t = 6 ∧ (f0.offset, P.cellsOf f0.type) = (0, 1) ∧ (f1.offset, P.cellsOf f1.type) = (1, 1) ∧ (f2.offset, P.cellsOf f2.type) = (2, 1) ∧ (f3.offset, P.cellsOf f3.type) = (3, 1) ∧ (f4.offset, P.cellsOf f4.type) = (4, 1) ∧ (f5.offset, P.cellsOf f5.type) = (5, 1) ∧
    P.underlying f0.type = some (.int .i64) ∧ P.underlying f1.type = some .string ∧ P.underlying f2.type = some .string ∧ P.underlying f3.type = some (.int .i64) ∧ P.underlying f4.type = some (.int .i64) ∧ P.underlying f5.type = some (.slice tb) ∧ P.underlying tb = some (.int .u8) ∧ P.cellsOf tb = 1
theorem open_cl {t : TypeId} (T : CallT P t) {n : Nat} {cs : List Value} {y : DataW H × List MemPlace} (hl : cs.length = 6) (hf : DataW.trod enc P W base spare held n t cs = some y) : ∃ x : Cl, cs = clC x ∧ clOk W x := by
  obtain ⟨f0, f1, f2, f3, f4, f5, tb, hT, hC, o0, o1, o2, o3, o4, o5, i0, i1, i2, i3, i4, i5, ib, ic⟩ := T.ok
  match cs, hl with
  | [c0, c1, c2, c3, c4, c5], _ =>
    obtain ⟨y0, y1, y2, y3, y4, y5, n, a0, a1, a2, a3, a4, a5⟩ := trod_struct6 hT hf
    simp only [Prod.mk.injEq] at o0 o1 o2 o3 o4 o5
    rw [o0.1, o0.2] at a0
    rw [o1.1, o1.2] at a1
    rw [o2.1, o2.2] at a2
    rw [o3.1, o3.2] at a3
    rw [o4.1, o4.2] at a4
    rw [o5.1, o5.2] at a5
    obtain ⟨x0, h0, _⟩ := DataW.trod_int i0 a0
    obtain ⟨x1, h1, _⟩ := DataW.trod_string i1 a1
    obtain ⟨x2, h2, _⟩ := DataW.trod_string i2 a2
    obtain ⟨x3, h3, _⟩ := DataW.trod_int i3 a3
    obtain ⟨x4, h4, _⟩ := DataW.trod_int i4 a4
    obtain ⟨A, c, b, rfl, _, _, z3⟩ := topen_bytes1 i5 ib ic (show DataW.trod enc P W base spare held n f5.type [c5] = some y5 from a5)
    simp at h0 h1 h2 h3 h4
    subst h0 h1 h2 h3 h4
    exact ⟨(⟨x0, x1.data.toList, x2.data.toList, x3, x4, b⟩, A, c), rfl, z3⟩
theorem open_call {t : TypeId} (T : CallT P t) {v : Value} {d : DataW H} {p : List MemPlace} (hv : Value.okWide P W r b0 t v) (h : DataW.Trod enc P W base spare held t v d p) :
    ∃ (c : CallV) (A : Option Addr) (cA : Nat), v = .agg #[.int .i64 c.kind, .string (bs c.path), .string (bs c.to), .int .i64 c.off, .int .i64 c.n, .slice A c.data.length cA] ∧ Bytes W A c.data := by
  obtain ⟨f0, f1, f2, f3, f4, f5, tb, hT, hC, _⟩ := T.ok
  obtain ⟨cs, rfl, hsz⟩ := okWide_struct hT hv
  obtain ⟨fuel, hf⟩ := h
  obtain ⟨l⟩ := cs
  obtain ⟨x, hx, ho⟩ := open_cl T (hsz.trans hC) (show DataW.trod enc P W base spare held fuel t l = some _ from hf)
  subst hx
  exact ⟨x.1, x.2.1, x.2.2, rfl, ho⟩
theorem open_calls {s t : TypeId} (T : CallT P t) {v : Value} {d : DataW H} {p : List MemPlace} (hs : P.underlying s = some (.slice t)) (hv : Value.okWide P W r b0 s v) (h : DataW.Trod enc P W base spare held s v d p) :
    ∃ (A : Option Addr) (c : Nat) (xs : List Cl), v = .slice A xs.length c ∧ xs.length ≤ c ∧ c ≤ maxLen ∧ Sees W A (xs.flatMap clC) ∧ ∀ x ∈ xs, clOk W x := by
  obtain ⟨f0, f1, f2, f3, f4, f5, tb, hT, hC, _⟩ := T.ok
  exact open_slice_of clC (clOk W) hs (k := 6) (fun _ => rfl) (by omega) hC (fun n cs y hl hf => open_cl T hl hf) hv h
end
end Go.Cat
namespace Go.Proofs.YtabecceojbeomaaGreatDoor
open Go.RowKit Go.Cat
theorem callT : CallT Tryz.prog 33 := ⟨_, _, _, _, _, _, _, Tryz.underlying33, by kernel_rfl, by kernel_rfl, by kernel_rfl, by kernel_rfl, by kernel_rfl, by kernel_rfl, by kernel_rfl, Tryz.underlying3, Tryz.underlying9, Tryz.underlying9, Tryz.underlying3, Tryz.underlying3, Tryz.underlying23, Tryz.underlying5, by kernel_rfl⟩
end Go.Proofs.YtabecceojbeomaaGreatDoor
