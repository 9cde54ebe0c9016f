/- The contract of the law's ours. Condition: at most 1000000 extents. -/
import Derived.Test.YtkeebkackbkfhaaInoCheckA
import Derived.Test.YtkeebkackbkfhaaInoExtW
import Derived.Deep.RegionWith
namespace Go.Cat.Ino
open Go.RowKit Go.Cat
/-- Three boxes: the argument, an empty result, the copy that is being built. -/
structure OurS (w : World) (TR TI E : TypeId) (mode size : Int) (A : Option Addr) (n c : Nat) (A2 : Option Addr) (k c2 : Nat) (acc : List Ext) (wr : World) : Prop where
  xx : wr.heap[w.heap.size]? = some (.cells #[.int .i64 mode, .int .i64 size, .slice A n c] TR (0, 0))
  rr : wr.heap[w.heap.size + 1]? = some (.cells #[.int .i64 0, .int .i64 0, .slice none 0 0] TI (0, 0))
  oo : wr.heap[w.heap.size + 2]? = some (.cells #[.int .i64 mode, .int .i64 size, .slice A2 k c2] TI (0, 0))
  own : wr.ownsRow (w.heap.size + 3) E 2 (.slice A2 k c2) k (erows acc)
  bel : Below w.heap.size w wr
section
variable {w wr w1 w2 : World} {TR TI E : TypeId} {mode size : Int} {A A2 A4 : Option Addr} {n c k c2 c4 : Nat} {acc : List Ext} {p : Ext}
theorem OurS.lt (h : OurS w TR TI E mode size A n c A2 k c2 acc wr) : w.heap.size + 3 ≤ wr.heap.size := by
  have := (Array.getElem?_eq_some_iff.1 h.oo).1
  omega
theorem OurS.new (w : World) (TR TI E : TypeId) (mode size : Int) (A : Option Addr) (n c : Nat) : OurS w TR TI E mode size A n c none 0 0 [] (((w.alloc (.cells #[.int .i64 mode, .int .i64 size, .slice A n c] TR)).alloc (.cells #[.int .i64 0, .int .i64 0, .slice none 0 0] TI)).alloc (.cells #[.int .i64 mode, .int .i64 size, .slice none 0 0] TI)) := by
  obtain ⟨W2, hW2⟩ : ∃ W2, W2 = (w.alloc (.cells #[.int .i64 mode, .int .i64 size, .slice A n c] TR)).alloc (.cells #[.int .i64 0, .int .i64 0, .slice none 0 0] TI) := ⟨_, rfl⟩
  have hs : W2.heap.size = w.heap.size + 2 := by rw [hW2]; simp
  have h1 : W2.heap[w.heap.size]? = some (.cells #[.int .i64 mode, .int .i64 size, .slice A n c] TR (0, 0)) := by rw [hW2]; exact heap21i _ _ _
  have h2 : W2.heap[w.heap.size + 1]? = some (.cells #[.int .i64 0, .int .i64 0, .slice none 0 0] TI (0, 0)) := by rw [hW2]; exact heap2i _ _ _
  have hb : Below w.heap.size w W2 := by rw [hW2]; exact below2i _ _ _
  rw [← hW2]
  have hb3 : Below W2.heap.size W2 (W2.alloc (.cells #[.int .i64 mode, .int .i64 size, .slice none 0 0] TI)) := (Below.refl _ _).alloc (Nat.le_refl _) _
  refine ⟨(hb3.block _ (by omega)).trans h1, (hb3.block _ (by omega)).trans h2, ?_, World.ownsRow_nil _ _ _ _, hb.trans (hb3.mono (by omega))⟩
  rw [← hs]
  exact heap_alloc_new _ _
theorem OurS.below (h : OurS w TR TI E mode size A n c A2 k c2 acc wr) (hb : Below wr.heap.size wr w1) : OurS w TR TI E mode size A n c A2 k c2 acc w1 :=
  ⟨(hb.block _ (by have := h.lt; omega)).trans h.xx, (hb.block _ (by have := h.lt; omega)).trans h.rr, (hb.block _ (by have := h.lt; omega)).trans h.oo, own_below h.own hb, h.bel.trans (hb.mono h.bel.size)⟩
theorem OurS.apped (h : OurS w TR TI E mode size A n c A2 k c2 acc w1) (ho : w2.ownsRow (w.heap.size + 3) E 2 (.slice A4 (k + 1) c4) (k + 1) (erows acc ++ ecells p)) (hg : w1.grownBy w2 (Value.slice A2 k c2).ownBlock) :
    OurS w TR TI E mode size A n c A4 (k + 1) c4 (acc ++ [p]) (w2.setCell ⟨w.heap.size + 2, 2, none⟩ (.slice A4 (k + 1) c4)) ∧ w2.cell? ⟨w.heap.size + 2, 2, none⟩ = some (.slice A2 k c2) ∧ w2.frozen? ⟨w.heap.size + 2, 2, none⟩ = false ∧ w.heap.size + 2 < w2.heap.size := by
  have hB : Below (w.heap.size + 3) w1 w2 := (Below.refl _ _).own h.own hg h.lt (Nat.le_refl _)
  have hx := (hB.block _ (by omega)).trans h.oo
  have hl : w.heap.size + 2 < w2.heap.size := (Array.getElem?_eq_some_iff.1 hx).1
  refine ⟨⟨?_, ?_, ?_, ?_, (h.bel.trans (hB.mono (by omega))).setCell (by show w.heap.size ≤ w.heap.size + 2; omega) _⟩, cell_of_row _ _ 2 _ _ _ hx, frozen_of_row _ _ 2 _ _ hx, hl⟩
  · rw [set_other _ (by omega)]; exact (hB.block _ (by omega)).trans h.xx
  · rw [set_other _ (by omega)]; exact (hB.block _ (by omega)).trans h.rr
  · have := set_block (i := 2) (.slice A4 (k + 1) c4) hx
    simpa using this
  · rw [erows_snoc]
    exact own_touch ho (Tch.set _ _ _ _) (fun j hk e => by have := own_lowB ho hk; omega)
end
end Go.Cat.Ino
namespace Go.Proofs.Ytkeebkackbkfhaa
open Go.RowKit Go.Shelf Go.Cat Go.Cat.Ino

theorem ret_i1 {fn : Func} {p : Tmp} (h : fn.results = #[.cell p 26]) {tmps : Array Value} {w : World} {g : Nat} {a b c : Value} {fr : Nat × Nat} (hp : tmps.getD p undef = .pointer (some ⟨g, 0, none⟩)) (hg : w.heap[g]? = some (.cells #[a, b, c] 26 fr)) :
    (results fn tmps).run Try.prog w = .ok (.agg #[a, b, c]) w := by
  have hp' : tmps[p]?.getD undef = .pointer (some ⟨g, 0, none⟩) := by simpa using hp
  simp [results, h, hp', asAddr, run_loadVar_row w g _ _ _ _ _ hg Try.underlying26 rfl (by kernel_rfl)]

/-- What tells an inode alone. -/
def ToldO (x : InV) (w : World) (e : Ending) (w' : World) : Prop :=
  ∃ A c, e = .returned (iv x.1 x.2.1 A x.2.2.length c) ∧ Sees w' A (erows x.2.2) ∧ Below w.heap.size w w'

set_option maxRecDepth 100000 in
set_option maxHeartbeats 4000000 in
theorem ours_any (mode size : Int) (A : Option Addr) (xs : List Ext) (c : Nat) (w : World) (hs : Sees w A (erows xs)) (hn : xs.length ≤ 1000000) :
    Calls Try.prog 17 #[iv mode size A xs.length c] w (ToldO (mode, size, xs) w) := by
  obtain ⟨n, hnn⟩ : ∃ n, n = xs.length := ⟨_, rfl⟩
  rw [← hnn] at hn ⊢
  have HN := Lib.hid hnn
  have HS := Lib.hid hs
  clear hnn hs
  go_enter Try.func17, Try.ntmps17
  go_wp2_with fail
  go_loopw [4] (fun iv' wr => ∃ (k : Nat) (A2 : Option Addr) (c2 : Nat), k ≤ n ∧ iv' = .int .i64 k ∧ Hid (OurS w 32 26 70 mode size A n c A2 k c2 (xs.take k) wr)) (fun iv' _ => n - (intOf iv').toNat)
  case atStart => exact ⟨0, none, 0, Nat.zero_le _, rfl, OurS.new _ _ _ _ _ _ _ _ _⟩
  case round =>
    obtain ⟨k, A2, c2, hk, rfl, HO⟩ := hrel
    have a2 := cell_of_row wr _ 2 _ _ _ HO.out.xx
    simp at a2
    by_cases hlt : k < n
    · have t1 : decide ((k : Int) < (n : Int)) = true := by simp; omega
      have hkx : k < xs.length := by rw [← HN.out]; exact hlt
      obtain ⟨b, off, rfl, hbl, e0, e1⟩ := erows_at HS.out hkx
      have htk : xs.take (k + 1) = xs.take k ++ [xs[k]] := List.take_succ_eq_append_getElem hkx
      obtain ⟨p, hp⟩ : ∃ p, p = xs[k] := ⟨_, rfl⟩
      rw [← hp] at e0 e1 htk
      have hkI : (k : Int) < (n : Int) := by omega
      have hk0 : (0 : Int) ≤ (k : Int) := by omega
      have HTk := Lib.hid htk
      clear hp htk hkx
      go_wp2_with fail
      obtain ⟨wq, hwq⟩ : ∃ wq, wq = wr := ⟨_, rfl⟩
      have HQ := Lib.hid HO.out
      have x2 := cell_of_row wr _ 2 _ _ _ HO.out.oo
      have xf := frozen_of_row wr _ 2 _ _ HO.out.oo
      simp at x2
      have qX : w.heap.size + 2 < wr.heap.size := by have := HO.out.lt; omega
      have qb : b < wr.heap.size := Nat.lt_of_lt_of_le hbl (HO.out.bel.size)
      have q0 := (HO.out.bel.cell (p := ⟨b, off + k * 2, none⟩) hbl).trans e0
      have q1 := (HO.out.bel.cell (p := ⟨b, off + k * 2 + 1, none⟩) hbl).trans e1
      have x3 := fun o => (World.cell?_alloc_lt wr o ⟨w.heap.size + 2, 2, none⟩ qX).trans x2
      have x4 := fun o => (World.cell?_alloc_lt wr.drew o ⟨w.heap.size + 2, 2, none⟩ qX).trans x2
      have hsz2 : w.heap.size + 3 ≤ (wr.drew.alloc (.cells #[.int .i64 p.1, .int .i64 p.2] 70)).heap.size := by simp; omega
      have HSz := Lib.hid hsz2
      have hO1 := HO.out.below (((Below.refl wr.heap.size wr).drew).alloc (Nat.le_refl _) (.cells #[.int .i64 p.1, .int .i64 p.2] 70))
      have HO1 := Lib.hid hO1
      clear hwq hsz2 hO1 e0 e1
      go_region_law (refine step_app elem_ext rfl (.tmp 18) (.tmp 32) rfl (w.heap.size + 3) (.slice A2 k c2) k (erows (xs.take k)) rfl (World.ownsRow.alloc HO.out.own _) (some ⟨_, 0, none⟩) 1 1 (ecells p) rfl (sees_new _ _ _) rfl (one_ecells _) (by omega) HSz.out ?_; intro v2 w2 hown hgr _; obtain ⟨A4, c4, rfl, _, _⟩ := own_full hown; obtain ⟨F1, F2, F3, F4⟩ := HO1.out.apped hown hgr)
      all_goals
        have HF := Lib.hid F1
        clear hown hgr F1
        go_wp2_with fail
        go_roundw
        case rel => exact ⟨k + 1, A4, c4, by omega, by go_num, by show OurS _ _ _ _ _ _ _ _ _ _ _ _ _ _; rw [HTk.out]; exact HF.out⟩
        case measure => simp [intOf]; omega
    · obtain rfl : k = n := by omega
      have t1 : decide ((k : Int) < (k : Int)) = false := by simp
      have o0 := cell_of_row wr _ 0 _ _ _ HO.out.oo
      have o1 := cell_of_row wr _ 1 _ _ _ HO.out.oo
      have o2 := cell_of_row wr _ 2 _ _ _ HO.out.oo
      have r0 := cell_of_row wr _ 0 _ _ _ HO.out.rr
      have r1 := cell_of_row wr _ 1 _ _ _ HO.out.rr
      have r2 := cell_of_row wr _ 2 _ _ _ HO.out.rr
      have g0 := frozen_of_row wr _ 0 _ _ HO.out.rr
      have g1 := frozen_of_row wr _ 1 _ _ HO.out.rr
      have g2 := frozen_of_row wr _ 2 _ _ HO.out.rr
      simp at o0 o1 o2 r0 r1 r2
      have hall : xs.take k = xs := by rw [HN.out]; exact List.take_length
      rw [hall] at HO
      clear hall
      go_wp2_with fail
      refine bodyPost_ret (ret_i1 rfl (by rfl) (set3_block _ _ _ HO.out.rr)) rfl ?_
      exact ⟨A2, c2, by rw [← HN.out], ownN_sees (own_set3 HO.out.own (by omega) _ _ _), below_set3 HO.out.bel (by omega) _ _ _⟩
end Go.Proofs.Ytkeebkackbkfhaa
