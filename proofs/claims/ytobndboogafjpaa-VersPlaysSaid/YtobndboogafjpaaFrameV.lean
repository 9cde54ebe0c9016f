/- A version, and a call of the law's, that came in by value, opened into the words that the walks take. No condition. -/
import Derived.Test.YtobndboogafjpaaFrame
import Derived.Test.YtobndboogafjpaaVersPure
namespace Go.Cat
open Go.ChangeShapes Go.WideShapes Go.ChangeAt Go.RowKit Go.Joins Go.Deep

section
variable {H : Type} {enc : TypeId × Value → H} {P : Program} {W : World} {base : Nat} {spare : Nat → Bool} {held : Bool} {r : Reach} {b0 : Nat}

/-- A slice of numbers in a cell, opened. -/
theorem open_nums1 {t e : TypeId} {k : IntKind} {v : Value} {fuel : Nat} {y : DataW H × List MemPlace} (ht : P.underlying t = some (.slice e)) (he : P.underlying e = some (.int k)) (hc : P.cellsOf e = 1)
    (hf : DataW.trod enc P W base spare held fuel t [v] = some y) :
    ∃ (A : Option Addr) (n c : Nat) (zs : List Int), v = .slice A n c ∧ n = zs.length ∧ n ≤ c ∧ c ≤ maxLen ∧ Sees W A (zs.map (Value.int k)) ∧ ∀ z ∈ zs, (Lit.int k z).wf = true := by
  rcases open_ints ht he hc hf with ⟨hcs, _⟩ | ⟨x, l, c', zs, hcs, _, hl, hm, hz, _, hcell, hwz⟩
  · simp at hcs
    subst hcs
    exact ⟨none, 0, 0, [], rfl, rfl, Nat.le_refl _, by unfold maxLen; omega, .inl rfl, fun z hz => by simp at hz⟩
  · simp at hcs
    subst hcs
    have hzl : l ≤ zs.length := by rw [hz]; split <;> omega
    refine ⟨some x, l, c', zs.take l, rfl, by rw [List.length_take]; omega, hl, hm, ?_, fun z hz' => hwz z (List.mem_of_mem_take hz')⟩
    by_cases h0 : l = 0
    · left; simp [h0]
    · right
      have h1 := hcell 0 (by omega)
      have hx : W.cell? x = some (.int k (zs.getD 0 0)) := by simpa [Addr.add] using h1
      obtain ⟨b, off, rfl⟩ := spot_none hx
      refine ⟨b, off, rfl, fun j u hu => ?_⟩
      rw [List.getElem?_map, List.getElem?_take] at hu
      by_cases hj : j < l
      · rw [if_pos hj] at hu
        have hjz : j < zs.length := by omega
        have h2 := hcell j hjz
        have ea : (⟨b, off, none⟩ : Addr).add j = ⟨b, off + j, none⟩ := by unfold Addr.add; split <;> simp_all
        rw [ea] at h2
        rw [h2, ← hu]
        simp [List.getD_eq_getElem?_getD, hjz]
      · rw [if_neg hj] at hu; simp at hu

theorem open_bytes1 {t e : TypeId} {v : Value} {fuel : Nat} {y : DataW H × List MemPlace} (ht : P.underlying t = some (.slice e)) (he : P.underlying e = some (.int .u8)) (hc : P.cellsOf e = 1)
    (hf : DataW.trod enc P W base spare held fuel t [v] = some y) :
    ∃ (A : Option Addr) (c : Nat) (bs : List UInt8), v = .slice A bs.length c ∧ bs.length ≤ c ∧ c ≤ maxLen ∧ Bytes W A bs := by
  obtain ⟨A, n, c, zs, rfl, rfl, h1, h2, hs, hw⟩ := open_nums1 ht he hc hf
  have e : (zs.map fun z => UInt8.ofNat z.toNat).map by8 = zs.map (Value.int .u8) := by
    rw [List.map_map]
    apply List.map_congr_left
    intro z hz
    have := hw z hz
    simp [Lit.wf, IntKind.min, IntKind.max, IntKind.signed, IntKind.bits] at this
    simp [by8]
    omega
  exact ⟨A, c, zs.map fun z => UInt8.ofNat z.toNat, by simp, by simpa using h1, h2, by unfold Bytes; rw [e]; exact hs⟩

/-- A number of that kind, as 64 bits. -/
structure VerIn (v : Vers.Ver) (c : Nat) : Prop where
  v0 : 0 ≤ v.ver
  v1 : v.ver ≤ 18446744073709551615
  s0 : 0 ≤ v.seq
  s1 : v.seq ≤ 18446744073709551615
  cap : v.data.length ≤ c
  max : c ≤ maxLen

theorem open_cells {t : TypeId} {f0 f1 f2 : Field} {c0 c1 c2 : Value} {fuel : Nat} {y : DataW H × List MemPlace} {tb : TypeId} (ht : P.underlying t = some (.struct #[f0, f1, f2])) (h0 : P.underlying f0.type = some (.int .u64)) (h1 : P.underlying f1.type = some (.int .u64))
    (h2 : P.underlying f2.type = some (.slice tb)) (hb : P.underlying tb = some (.int .u8)) (hcb : P.cellsOf tb = 1) (hone : oneCellFields P #[f0, f1, f2] = true) (hf : DataW.trod enc P W base spare held fuel t [c0, c1, c2] = some y) :
    ∃ (v : Vers.Ver) (A : Option Addr) (c : Nat), c0 = .int .u64 v.ver ∧ c1 = .int .u64 v.seq ∧ c2 = .slice A v.data.length c ∧ Bytes W A v.data ∧ VerIn v c := by
  obtain ⟨y0, y1, y2, n, _, _, g0, g1, g2⟩ := trod_struct3 ht hf
  obtain ⟨o0, k0⟩ := hone_of hone 0 f0 rfl
  obtain ⟨o1, k1⟩ := hone_of hone 1 f1 rfl
  obtain ⟨o2, k2⟩ := hone_of hone 2 f2 rfl
  rw [o0, k0] at g0
  rw [o1, k1] at g1
  rw [o2, k2] at g2
  obtain ⟨a, ha, _, wa⟩ := DataW.trod_int h0 g0
  obtain ⟨b, hb', _, wb⟩ := DataW.trod_int h1 g1
  obtain ⟨A, c, bs, hs, hcap, hmax, hby⟩ := open_bytes1 h2 hb hcb g2
  simp at ha hb'
  exact ⟨⟨a, b, bs⟩, A, c, ha, hb', hs, hby, ⟨(wf_u64 wa).1, (wf_u64 wa).2, (wf_u64 wb).1, (wf_u64 wb).2, hcap, hmax⟩⟩

theorem open_ver {t : TypeId} {f0 f1 f2 : Field} {v : Value} {d : DataW H} {p : List MemPlace} {tb : TypeId} (ht : P.underlying t = some (.struct #[f0, f1, f2])) (h0 : P.underlying f0.type = some (.int .u64)) (h1 : P.underlying f1.type = some (.int .u64))
    (h2 : P.underlying f2.type = some (.slice tb)) (hb : P.underlying tb = some (.int .u8)) (hcb : P.cellsOf tb = 1) (hone : oneCellFields P #[f0, f1, f2] = true) (hC : P.cellsOf t = 3)
    (hv : Value.okWide P W r b0 t v) (h : DataW.Trod enc P W base spare held t v d p) :
    ∃ (x : Vers.Ver) (A : Option Addr) (c : Nat), v = .agg #[.int .u64 x.ver, .int .u64 x.seq, .slice A x.data.length c] ∧ Bytes W A x.data ∧ VerIn x c := by
  obtain ⟨cs, rfl, hsz⟩ := okWide_struct ht hv
  obtain ⟨c0, c1, c2, rfl⟩ := array3 (hsz.trans hC)
  obtain ⟨fuel, hf⟩ := h
  obtain ⟨x, A, c, rfl, rfl, rfl, h5, h6⟩ := open_cells ht h0 h1 h2 hb hcb hone hf
  exact ⟨x, A, c, rfl, h5, h6⟩

theorem array6 {α : Type} {cs : Array α} (h : cs.size = 6) : ∃ c0 c1 c2 c3 c4 c5, cs = #[c0, c1, c2, c3, c4, c5] := by
  obtain ⟨l⟩ := cs
  match l, h with
  | [c0, c1, c2, c3, c4, c5], _ => exact ⟨c0, c1, c2, c3, c4, c5, rfl⟩

/-- A call of the law's. -/
theorem open_op {t : TypeId} {g0 g1 g2 g3 f0 f1 f2 : Field} {v : Value} {d : DataW H} {p : List MemPlace} {tb : TypeId} (hT : P.underlying t = some (.struct #[g0, g1, g2, g3])) (i0 : P.underlying g0.type = some (.int .i64)) (i2 : P.underlying g2.type = some (.int .u64)) (i3 : P.underlying g3.type = some (.int .u64))
    (k0 : (g0.offset, P.cellsOf g0.type) = (0, 1)) (k1 : (g1.offset, P.cellsOf g1.type) = (1, 3)) (k2 : (g2.offset, P.cellsOf g2.type) = (4, 1)) (k3 : (g3.offset, P.cellsOf g3.type) = (5, 1)) (hC : P.cellsOf t = 6)
    (ht : P.underlying g1.type = some (.struct #[f0, f1, f2])) (h0 : P.underlying f0.type = some (.int .u64)) (h1 : P.underlying f1.type = some (.int .u64))
    (h2 : P.underlying f2.type = some (.slice tb)) (hb : P.underlying tb = some (.int .u8)) (hcb : P.cellsOf tb = 1) (hone : oneCellFields P #[f0, f1, f2] = true)
    (hv : Value.okWide P W r b0 t v) (h : DataW.Trod enc P W base spare held t v d p) :
    ∃ (kind ver done : Int) (x : Vers.Ver) (A : Option Addr) (c : Nat), v = .agg #[.int .i64 kind, .int .u64 x.ver, .int .u64 x.seq, .slice A x.data.length c, .int .u64 ver, .int .u64 done] ∧ Bytes W A x.data ∧ VerIn x c ∧ (0 ≤ ver ∧ ver ≤ 18446744073709551615) ∧ (0 ≤ done ∧ done ≤ 18446744073709551615) := by
  obtain ⟨cs, rfl, hsz⟩ := okWide_struct hT hv
  obtain ⟨c0, c1, c2, c3, c4, c5, rfl⟩ := array6 (hsz.trans hC)
  obtain ⟨fuel, hf⟩ := h
  obtain ⟨y0, y1, y2, y3, n, _, _, a0, a1, a2, a3⟩ := trod_struct4 hT hf
  simp only [Prod.mk.injEq] at k0 k1 k2 k3
  rw [k0.1, k0.2] at a0
  rw [k1.1, k1.2] at a1
  rw [k2.1, k2.2] at a2
  rw [k3.1, k3.2] at a3
  obtain ⟨kind, hk, _, _⟩ := DataW.trod_int i0 a0
  obtain ⟨ver, hver, _, wver⟩ := DataW.trod_int i2 a2
  obtain ⟨done, hdone, _, wdone⟩ := DataW.trod_int i3 a3
  obtain ⟨x, A, c, rfl, rfl, rfl, h5, h6⟩ := open_cells ht h0 h1 h2 hb hcb hone (show DataW.trod enc P W base spare held n g1.type [c1, c2, c3] = some y1 from a1)
  simp [Value.cells] at hk hver hdone
  exact ⟨kind, ver, done, x, A, c, by rw [hk, hver, hdone], h5, h6, wf_u64 wver, wf_u64 wdone⟩

/-- An array of two numbers, by value. -/
theorem open_twoK {t e : TypeId} {k : IntKind} {v : Value} {d : DataW H} {p : List MemPlace} (ht : P.underlying t = some (.array 2 e)) (he : P.underlying e = some (.int k)) (hc : P.cellsOf e = 1) (hc2 : P.cellsOf t = 2)
    (hv : Value.okWide P W r b0 t v) (h : DataW.Trod enc P W base spare held t v d p) : ∃ a b, v = .agg #[.int k a, .int k b] ∧ (Lit.int k a).wf = true ∧ (Lit.int k b).wf = true := by
  unfold Value.okWide at hv
  rw [ht] at hv
  obtain ⟨cs, rfl, hsz, _⟩ := hv
  obtain ⟨c0, c1, rfl⟩ := Joins.array2 (hsz.trans hc2)
  obtain ⟨fuel, hf⟩ := h
  obtain ⟨xs, m, rfl, _, _, hl, hi⟩ := DataW.trod_array ht hf
  have g0 := hi 0 (by omega)
  have g1 := hi 1 (by omega)
  rw [hc] at g0 g1
  have hx0 : xs[0]? = some (xs[0]'(by omega)) := List.getElem?_eq_getElem _
  have hx1 : xs[1]? = some (xs[1]'(by omega)) := List.getElem?_eq_getElem _
  rw [hx0] at g0
  rw [hx1] at g1
  obtain ⟨a, ha, _, wa⟩ := DataW.trod_int he g0
  obtain ⟨b, hb, _, wb⟩ := DataW.trod_int he g1
  simp [Value.cells] at ha hb
  exact ⟨a, b, by rw [ha, hb], wa, wb⟩
end
end Go.Cat
