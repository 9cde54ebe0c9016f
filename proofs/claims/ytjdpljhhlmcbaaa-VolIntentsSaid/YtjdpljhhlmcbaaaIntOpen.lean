/- The argument of the law VolIntents, opened: a slice of patches. No condition. -/
import Derived.Test.YtjdpljhhlmcbaaaVolIntents
import Derived.Test.YtjdpljhhlmcbaaaOpenS
namespace Go.Cat
open Go.ChangeShapes Go.WideShapes Go.ChangeAt Go.RowKit Go.Joins Go.Deep Go.Cat.Vol
section
variable {H : Type} {enc : TypeId × Value → H} {P : Program} {W : World} {base : Nat} {spare : Nat → Bool} {held : Bool} {r : Reach} {b0 : Nat}

theorem pflat_one {α β : Type} (f : α → β) : ∀ l : List α, l.flatMap (fun b => [f b]) = l.map f
  | [] => rfl
  | x :: xs => by rw [List.flatMap_cons, List.map_cons, pflat_one f xs]; rfl

theorem popen_bytes1 {t e : TypeId} {v : Value} {fuel : Nat} {y : DataW H × List MemPlace} (ht : P.underlying t = some (.slice e)) (he : P.underlying e = some (.int .u8)) (hc : P.cellsOf e = 1)
    (hf : DataW.trod enc P W base spare held fuel t [v] = some y) :
    ∃ (A : Option Addr) (c : Nat) (bs : List UInt8), v = .slice A bs.length c ∧ bs.length ≤ c ∧ c ≤ maxLen ∧ Bytes W A bs := by
  obtain ⟨A, c, bs, rfl, h1, h2, hs, _⟩ := open_slice_cells (fun b : UInt8 => [by8 b]) (fun _ => True) ht (k := 1) (fun _ => rfl) (by omega) hc (fun n cs y hl hf => by
    match cs, hl with
    | [c0], _ =>
      obtain ⟨a, ha, _, wa⟩ := DataW.trod_int he hf
      simp at ha
      subst ha
      refine ⟨UInt8.ofNat a.toNat, ?_, trivial⟩
      simp [Lit.wf, IntKind.min, IntKind.max, IntKind.signed, IntKind.bits] at wa
      simp [by8]
      omega) hf
  refine ⟨A, c, bs, rfl, h1, h2, ?_⟩
  rw [pflat_one] at hs
  exact hs

theorem open_pats {s t : TypeId} {g0 g1 g2 : Field} {v : Value} {d : DataW H} {p : List MemPlace} {tb : TypeId} (hs : P.underlying s = some (.slice t)) (hT : P.underlying t = some (.struct #[g0, g1, g2])) (i0 : P.underlying g0.type = some (.int .u32)) (i1 : P.underlying g1.type = some (.int .u64))
    (k0 : (g0.offset, P.cellsOf g0.type) = (0, 1)) (k1 : (g1.offset, P.cellsOf g1.type) = (1, 1)) (k2 : (g2.offset, P.cellsOf g2.type) = (2, 1)) (hC : P.cellsOf t = 3)
    (h3 : P.underlying g2.type = some (.slice tb)) (hb : P.underlying tb = some (.int .u8)) (hcb : P.cellsOf tb = 1)
    (hv : Value.okWide P W r b0 s v) (h : DataW.Trod enc P W base spare held s v d p) :
    ∃ (A : Option Addr) (c : Nat) (rs : List Pr), v = .slice A rs.length c ∧ rs.length ≤ c ∧ c ≤ maxLen ∧ Pats W A rs ∧ ∀ r ∈ rs, PvK r.1 := by
  obtain ⟨A, c, rs, q1, q2, q3, q4, q5⟩ := open_slice_of pcells (fun r => Bytes W r.2.1 r.1.b ∧ PvK r.1) hs (k := 3) (fun _ => rfl) (by omega) hC (fun n cs y hl hf => by
    match cs, hl with
    | [c0, c1, c2], _ =>
      obtain ⟨y0, y1, y2, n, _, _, a0, a1, a2⟩ := trod_struct3 hT hf
      simp only [Prod.mk.injEq] at k0 k1 k2
      rw [k0.1, k0.2] at a0
      rw [k1.1, k1.2] at a1
      rw [k2.1, k2.2] at a2
      obtain ⟨x0, h0, _, w0⟩ := DataW.trod_int i0 a0
      obtain ⟨x1, h1, _, w1⟩ := DataW.trod_int i1 a1
      obtain ⟨A, c, bs, rfl, z1, z2, z3⟩ := popen_bytes1 h3 hb hcb (show DataW.trod enc P W base spare held n g2.type [c2] = some y2 from a2)
      simp at h0 h1
      subst h0 h1
      simp [Lit.wf, IntKind.min, IntKind.max, IntKind.signed, IntKind.bits] at w0 w1
      exact ⟨(⟨x0, x1, bs⟩, A, c), rfl, z3, ⟨by dsimp only; omega, by dsimp only; omega, by dsimp only; omega, by dsimp only; omega, Nat.le_trans z1 z2⟩⟩) hv h
  exact ⟨A, c, rs, q1, q2, q3, ⟨q4, fun r hr => (q5 r hr).1⟩, fun r hr => (q5 r hr).2⟩
end
end Go.Cat
