/- The contract of inode.Get. Condition: lengths within a slice's. -/
import Derived.Test.YtjdpljhhlmcbaaaInoGetV
import Derived.Test.YtjdpljhhlmcbaaaInoTold
import Derived.Test.YtjdpljhhlmcbaaaInoElem
import Derived.Test.YtjdpljhhlmcbaaaFixDone
import Derived.Deep.RegionWith
namespace Go.Cat.Ino
open Go.RowKit Go.Cat
/-- What lasts while an inode is read: the result's box, the reader, the box that is filled, its extents. -/
structure GetS (TI E tf : TypeId) (X g : Nat) (s : IS) (m z : Int) (A : Option Addr) (k c : Nat) (acc : List Ext) (w wr : World) : Prop where
  rr : wr.heap[w.heap.size]? = some (.cells #[.int .i64 0, .int .i64 0, .slice none 0 0] TI (0, 0))
  xx : wr.heap[X]? = some (.cells #[.int .i64 m, .int .i64 z, .slice A k c] TI (0, 0))
  inf : InS tf g s wr
  own : wr.ownsRow (X + 1) E 2 (.slice A k c) k (erows acc)
  bel : Below w.heap.size w wr
  gH : w.heap.size < g
  gX : g < X
section
variable {w wr w1 w2 : World} {TI E tf : TypeId} {X g : Nat} {s s' : IS} {m z : Int} {A A4 : Option Addr} {k c c4 : Nat} {acc : List Ext} {p : Ext}
theorem GetS.lt (h : GetS TI E tf X g s m z A k c acc w wr) : X < wr.heap.size := (Array.getElem?_eq_some_iff.1 h.xx).1
theorem GetS.step (h : GetS TI E tf X g s m z A k c acc w wr) (hi : InS tf g s' w1) (ht : Tch (fun j => j = g) wr w1) : GetS TI E tf X g s' m z A k c acc w w1 :=
  ⟨(ht.block _ (by have := h.lt; have := h.gH; have := h.gX; omega) (fun e => by have := h.gH; omega)).trans h.rr, (ht.block _ h.lt (fun e => by have := h.gX; omega)).trans h.xx, hi,
    own_touch h.own ht (fun j hj e => by have := own_lowB h.own hj; have := h.gX; omega), h.bel.trans (ht.below h.bel.size (fun j e => by rw [e]; exact Nat.le_of_lt h.gH)), h.gH, h.gX⟩
theorem GetS.below (h : GetS TI E tf X g s m z A k c acc w wr) (hb : Below wr.heap.size wr w1) : GetS TI E tf X g s m z A k c acc w w1 :=
  ⟨(hb.block _ (by have := h.lt; have := h.gH; have := h.gX; omega)).trans h.rr, (hb.block _ h.lt).trans h.xx, h.inf.touch hb, own_below h.own hb, h.bel.trans (hb.mono h.bel.size), h.gH, h.gX⟩
theorem GetS.size (h : GetS TI E tf X g s m z none 0 0 [] w wr) (z' : Int) : GetS TI E tf X g s m z' none 0 0 [] w (wr.setCell ⟨X, 1, none⟩ (.int .i64 z')) := by
  refine ⟨?_, ?_, h.inf.keep (Tch.set _ _ _ _) (fun j hj e => by have := h.gX; omega), World.ownsRow_nil _ _ _ _, h.bel.setCell (by have := h.gH; have := h.gX; show w.heap.size ≤ X; omega) _, h.gH, h.gX⟩
  · rw [set_other _ (by have := h.gH; have := h.gX; omega)]; exact h.rr
  · have := set_block (i := 1) (.int .i64 z') h.xx
    simpa using this
theorem GetS.apped (h : GetS TI E tf X g s m z A k c acc w w1) (ho : w2.ownsRow (X + 1) E 2 (.slice A4 (k + 1) c4) (k + 1) (erows acc ++ ecells p)) (hg : w1.grownBy w2 (Value.slice A k c).ownBlock) :
    GetS TI E tf X g s m z A4 (k + 1) c4 (acc ++ [p]) w (w2.setCell ⟨X, 2, none⟩ (.slice A4 (k + 1) c4)) ∧ w2.cell? ⟨X, 2, none⟩ = some (.slice A k c) ∧ w2.frozen? ⟨X, 2, none⟩ = false ∧ X < w2.heap.size := by
  have hlt := h.lt
  have hgH := h.gH
  have hgX := h.gX
  have hB : Below (X + 1) w1 w2 := (Below.refl _ _).own h.own hg hlt (Nat.le_refl _)
  have hx := (hB.block X (by omega)).trans h.xx
  have hl : X < w2.heap.size := (Array.getElem?_eq_some_iff.1 hx).1
  have hinf : InS tf g s w2 := h.inf.keep (Tch.grown hg) (fun j hj e => by have := own_lowB h.own e; omega)
  refine ⟨⟨?_, ?_, hinf.keep (Tch.set _ _ _ _) (fun j hj e => by omega), ?_, (h.bel.trans (hB.mono (by omega))).setCell (by show w.heap.size ≤ X; omega) _, hgH, hgX⟩, cell_of_row _ _ 2 _ _ _ hx, frozen_of_row _ _ 2 _ _ hx, hl⟩
  · rw [set_other _ (by omega)]; exact (hB.block _ (by omega)).trans h.rr
  · have := set_block (i := 2) (.slice A4 (k + 1) c4) hx
    simpa using this
  · rw [erows_snoc]
    exact own_touch ho (Tch.set _ _ _ _) (fun j hj e => by have := own_lowB ho hj; omega)
end
end Go.Cat.Ino
namespace Go.Proofs.Ytjdpljhhlmcbaaa
open Go.RowKit Go.Shelf Go.Cat Go.Cat.Ino

theorem iget_nil (A : Option Addr) (c : Nat) (w : World) :
    Calls Try.prog 55 #[.slice A 0 c] w fun e w' => e = .returned (.tuple #[iv 0 0 none 0 0, .int .i64 0]) ∧ Below w.heap.size w w' := by
  go_enter Try.func55, Try.ntmps55
  go_wp2_with fail
  refine bodyPost_ret (ret_ii rfl (by rfl) (heap_alloc_new _ _)) rfl ?_
  exact ⟨rfl, (Below.refl _ _).alloc (Nat.le_refl _) _⟩

set_option maxRecDepth 100000 in
set_option maxHeartbeats 8000000 in
theorem iget_some (A : Option Addr) (c : Nat) (bs : List UInt8) (w : World) (hb : Bytes w A bs) (hbm : bs.length ≤ 140737488355328) (h0 : bs ≠ []) :
    Calls Try.prog 55 #[.slice A bs.length c] w (ToldW (getI bs).1 (getI bs).2 w) := by
  obtain ⟨V, hV⟩ : ∃ V, V = getI bs := ⟨_, rfl⟩
  rw [← hV]
  obtain ⟨n0, hn0⟩ : ∃ n0, n0 = bs.length := ⟨_, rfl⟩
  have hpos : 0 < n0 := by rw [hn0]; exact List.length_pos_iff.2 h0
  have t0 : ((n0 : Int) == 0) = false := by simp; omega
  have hb0 : Below w.heap.size w (w.alloc (.cells #[.int .i64 0, .int .i64 0, .slice none 0 0] 59)) := (Below.refl _ _).alloc (Nat.le_refl _) _
  have p0 := of_any A c bs (w.alloc (.cells #[.int .i64 0, .int .i64 0, .slice none 0 0] 59)) (hb.below hb0) hbm
  rw [← hn0] at p0 ⊢
  obtain ⟨⟨m0, m2⟩, ⟨n00, n8⟩, ⟨z0, z1⟩⟩ := rd_bounds bs
  have hEl := rdE_in bs
  obtain ⟨sM, hsM⟩ : ∃ s, s = (rdM bs).1 := ⟨_, rfl⟩
  obtain ⟨m, hm⟩ : ∃ m, m = (rdM bs).2 := ⟨_, rfl⟩
  obtain ⟨sN, hsN⟩ : ∃ s, s = (rdN bs).1 := ⟨_, rfl⟩
  obtain ⟨n, hn⟩ : ∃ n : Nat, (n : Int) = (rdN bs).2 := ⟨(rdN bs).2.toNat, by omega⟩
  obtain ⟨sZ, hsZ⟩ : ∃ s, s = (rdZ bs).1 := ⟨_, rfl⟩
  obtain ⟨z, hz⟩ : ∃ z, z = (rdZ bs).2 := ⟨_, rfl⟩
  have eM : (⟨bs, 0⟩ : IS).upto 1 2 = (sM, m) := by rw [hsM, hm]; rfl
  have eN : sM.upto 1 8 = (sN, (n : Int)) := by rw [hsM, hsN, hn]; rfl
  have eZ : sN.upto 4 18446744073709551615 = (sZ, z) := by rw [hsN, hsZ, hz]; rfl
  have hrd : rdE bs = parseE sZ n := by unfold rdE; rw [← hsZ, ← hn]; rfl
  have p1 := fun g W (h : InF g ⟨bs, 0⟩ W) => upto_any g ⟨bs, 0⟩ 1 2 W h (by omega) (by omega)
  have p2 := fun g W (h : InF g sM W) => upto_any g sM 1 8 W h (by omega) (by omega)
  have p3 := fun g W (h : InF g sN W) => get_any g sN 4 W h (by omega) (by omega)
  rw [eM] at p1
  rw [eN] at p2
  rw [eZ] at p3
  rw [← hm] at m0 m2
  rw [← hz] at z0 z1
  rw [← hn] at n8
  have hn8 : n ≤ 8 := by omega
  have hdone : (parseE sZ n).1.done ≠ 0 → V = ((0, 0, []), (parseE sZ n).1.done) := fun h => by rw [hV, getI_done h0 (by rw [hrd]; exact h), hrd]
  have hform : (parseE sZ n).1.done = 0 → checkI m z (parseE sZ n).2 ≠ 0 → V = ((0, 0, []), 4) := fun h h2 => by rw [hV, getI_form h0 (by rw [hrd]; exact h) (by rw [hrd, ← hm, ← hz]; exact h2)]
  have hok : (parseE sZ n).1.done = 0 → checkI m z (parseE sZ n).2 = 0 → V = ((m, z, (parseE sZ n).2), 0) := fun h h2 => by rw [hV, getI_ok h0 (by rw [hrd]; exact h) (by rw [hrd, ← hm, ← hz]; exact h2), hrd, ← hm, ← hz]
  rw [hrd] at hEl
  have hxl := parseE_length sZ n
  have wm : IntKind.i64.wrap m = m := IntWalk.i64_in _ (by omega)
  have wz : IntKind.i64.wrap z = z := IntWalk.i64_in _ (by omega)
  have P0 := Lib.hid p0
  have P1 := Lib.hid p1
  have P2 := Lib.hid p2
  have P3 := Lib.hid p3
  have HDone := Lib.hid hdone
  have HForm := Lib.hid hform
  have HOk := Lib.hid hok
  have HEl := Lib.hid hEl
  have HXl := Lib.hid hxl
  have HB0 := Lib.hid hb0
  clear hV hn0 hpos hb hbm h0 hsM hm hsN hn hsZ hz eM eN eZ hrd p0 p1 p2 p3 hdone hform hok hEl hxl n00 n8 hb0
  go_enter Try.func55, Try.ntmps55
  go_wp2_with fail
  refine (P0.out).mono ?_
  rintro e w1 ⟨g, rfl, hg, hi1, hB1⟩
  have hgH : w.heap.size < g := by simp at hg; omega
  have hr1 : w1.heap[w.heap.size]? = some (.cells #[.int .i64 0, .int .i64 0, .slice none 0 0] 59 (0, 0)) := (hB1.block _ (by simp)).trans (heap_alloc_new _ _)
  have hB1w : Below w.heap.size w w1 := HB0.out.trans (hB1.mono (by simp))
  have P1' := Lib.hid (P1.out g w1 hi1)
  have HR1 := Lib.hid hr1
  have HB1 := Lib.hid hB1w
  have hg1 : g < w1.heap.size := hi1.lt
  clear hi1 hB1 hr1 hB1w hg P0 P1 HB0
  go_wp2_with fail
  refine (P1'.out).mono ?_
  rintro e w2 ⟨rfl, hi2, ht2⟩
  have hr2 : w2.heap[w.heap.size]? = some (.cells #[.int .i64 0, .int .i64 0, .slice none 0 0] 59 (0, 0)) := (ht2.block _ (by omega) (by omega)).trans HR1.out
  have hB2 : Below w.heap.size w w2 := HB1.out.trans (ht2.below HB1.out.size (fun j e => by omega))
  have hg2 : g < w2.heap.size := hi2.lt
  obtain ⟨X, hX⟩ : ∃ X, X = w2.heap.size := ⟨_, rfl⟩
  obtain ⟨W3, hW3⟩ : ∃ W3, W3 = w2.alloc (.cells #[.int .i64 m, .int .i64 0, .slice none 0 0] 59) := ⟨_, rfl⟩
  have hb3 : Below w2.heap.size w2 W3 := by rw [hW3]; exact (Below.refl _ _).alloc (Nat.le_refl _) _
  have hG3 : GetS 59 69 106 X g sM m 0 none 0 0 [] w W3 := by
    refine ⟨(hb3.block _ (by omega)).trans hr2, ?_, hi2.touch hb3, World.ownsRow_nil _ _ _ _, hB2.trans (hb3.mono (by omega)), hgH, by omega⟩
    rw [hW3, hX]; exact heap_alloc_new _ _
  have P2' := Lib.hid (P2.out g W3 hG3.inf)
  have HG3 := Lib.hid hG3
  have HX := Lib.hid hX
  have HW3 := Lib.hid hW3
  clear hi2 ht2 hr2 hB2 hb3 hG3 hX hW3 hg1 hg2 P1' P2 HR1 HB1
  go_upto_region 5 with (fail)
  rw [← HW3.out, ← HX.out]
  clear HX HW3
  go_wp2_with fail
  refine (P2'.out).mono ?_
  rintro e w4 ⟨rfl, hi4, ht4⟩
  have hG4 := HG3.out.step hi4 ht4
  have P3' := Lib.hid (P3.out g w4 hi4)
  have HG4 := Lib.hid hG4
  clear hi4 ht4 hG4 P2' P3 HG3
  go_wp2_with fail
  refine (P3'.out).mono ?_
  rintro e w5 ⟨rfl, hi5, ht5⟩
  have hG5 := HG4.out.step hi5 ht5
  have x1 := cell_of_row w5 X 1 _ _ _ hG5.xx
  have xf := frozen_of_row w5 X 1 _ _ hG5.xx
  simp at x1
  have HG6 := Lib.hid (hG5.size z)
  clear hi5 ht5 hG5 P3' HG4
  go_wp2_with fail
  go_loopw [25] (fun iv' wr => ∃ (k : Nat) (A2 : Option Addr) (c2 : Nat), k ≤ n ∧ iv' = .int .u64 k ∧ Hid (GetS 59 69 106 X g (parseE sZ k).1 m z A2 k c2 (parseE sZ k).2 w wr)) (fun iv' _ => n - (intOf iv').toNat)
  case atStart => exact ⟨0, none, 0, Nat.zero_le _, rfl, HG6.out⟩
  case round =>
    clear HG6 x1 xf
    obtain ⟨k, A2, c2, hk, rfl, HG⟩ := hrel
    by_cases hlt : k < n
    · have t1 : decide ((k : Int) < (n : Int)) = true := by simp; omega
      have hpar : parseE sZ (k + 1) = ((oneE (parseE sZ k).1).1, (parseE sZ k).2 ++ [(oneE (parseE sZ k).1).2]) := rfl
      have hin := oneE_in (parseE sZ k).1
      obtain ⟨sk, hsk⟩ : ∃ sk, sk = (parseE sZ k).1 := ⟨_, rfl⟩
      obtain ⟨acc, hacc⟩ : ∃ acc, acc = (parseE sZ k).2 := ⟨_, rfl⟩
      rw [← hsk] at hpar hin HG
      rw [← hacc] at hpar HG
      obtain ⟨sa, hsa⟩ : ∃ sa, sa = (sk.upto 2 18446744073709551615).1 := ⟨_, rfl⟩
      obtain ⟨a, ha⟩ : ∃ a, a = (sk.upto 2 18446744073709551615).2 := ⟨_, rfl⟩
      have e1 : sk.upto 2 18446744073709551615 = (sa, a) := by rw [hsa, ha]
      obtain ⟨sb, hsb⟩ : ∃ sb, sb = (sa.upto 2 18446744073709551615).1 := ⟨_, rfl⟩
      obtain ⟨b, hbb⟩ : ∃ b, b = (sa.upto 2 18446744073709551615).2 := ⟨_, rfl⟩
      have e2 : sa.upto 2 18446744073709551615 = (sb, b) := by rw [hsb, hbb]
      have hone : oneE sk = (sb, (a, b)) := by unfold oneE; rw [e1]; show ((sa.upto 2 18446744073709551615).1, (a, (sa.upto 2 18446744073709551615).2)) = _; rw [e2]
      rw [hone] at hpar hin
      obtain ⟨i1, i2, i3, i4⟩ := hin
      replace i1 : 0 ≤ a := i1
      replace i2 : a < 65536 := i2
      replace i3 : 0 ≤ b := i3
      replace i4 : b < 65536 := i4
      have wa : IntKind.i64.wrap a = a := IntWalk.i64_in _ (by omega)
      have wb : IntKind.i64.wrap b = b := IntWalk.i64_in _ (by omega)
      have wk : IntKind.u64.wrap ((k : Int) + 1) = (k : Int) + 1 := IntWalk.u64_in _ (by omega)
      have P4 := Lib.hid (fun W (h : InF g sk W) => (e1 ▸ get_any g sk 2 W h (by omega) (by omega) : Calls Try.prog 36 #[.pointer (some ⟨g, 0, none⟩), .int .i64 ((2 : Nat) : Int)] W (ToldU g (sa, a) W)))
      have P5 := Lib.hid (fun W (h : InF g sa W) => (e2 ▸ get_any g sa 2 W h (by omega) (by omega) : Calls Try.prog 36 #[.pointer (some ⟨g, 0, none⟩), .int .i64 ((2 : Nat) : Int)] W (ToldU g (sb, b) W)))
      have HPar := Lib.hid hpar
      have hXl := HG.out.lt
      have x2 := cell_of_row wr X 2 _ _ _ HG.out.xx
      simp at x2
      have HGd := Lib.hid (HG.out.below (Below.refl _ _).drew)
      clear hpar hsk hacc hsa ha e1 hsb hbb e2 hone
      go_wp2_with fail
      go_region_law (first
        | (go_simp; go_at_call 36; refine (P5.out _ HG7.out.inf).mono ?_; rintro e w8 ⟨rfl, hi8, ht8⟩; have HG8 := Lib.hid (HG7.out.step hi8 ht8); have hx8 := HG8.out.lt; have x8 := cell_of_row w8 X 2 _ _ _ HG8.out.xx; simp at x8; have y8 := fun o => (World.cell?_alloc_lt w8 o ⟨X, 2, none⟩ hx8).trans x8; clear hi8 ht8)
        | (go_simp; go_at_call 36; refine (P4.out _ HGd.out.inf).mono ?_; rintro e w7 ⟨rfl, hi7, ht7⟩; have HG7 := Lib.hid (HGd.out.step hi7 ht7); have x7 := cell_of_row w7 X 2 _ _ _ HG7.out.xx; simp at x7; clear hi7 ht7)
        | (refine step_app elem_ext rfl (.tmp 28) (.tmp 36) rfl (X + 1) (.slice A2 k c2) k (erows acc) rfl (World.ownsRow.alloc HG8.out.own _) (some ⟨_, 0, none⟩) 1 1 (ecells (a, b)) rfl (sees_new _ _ _) rfl (one_ecells _) (by omega) (by simp; omega) ?_; intro v2 w9 hown hgr _; obtain ⟨A4, c4, rfl, _, _⟩ := own_full hown; obtain ⟨F1, F2, F3, F4⟩ := (HG8.out.below ((Below.refl w8.heap.size w8).alloc (Nat.le_refl _) (.cells #[.int .i64 a, .int .i64 b] 69))).apped hown hgr)
        | fail)
      all_goals
        have HF := Lib.hid F1
        clear hown hgr F1
        go_wp2_with fail
        go_roundw
        case rel => exact ⟨k + 1, A4, c4, by omega, by go_num, by show GetS _ _ _ _ _ _ _ _ _ _ _ _ _ _; rw [HPar.out]; exact HF.out⟩
        case measure => simp [intOf]; omega
    · obtain rfl : k = n := by omega
      have t1 : decide ((k : Int) < (k : Int)) = false := by simp
      obtain ⟨s9, hs9⟩ : ∃ s9, s9 = (parseE sZ k).1 := ⟨_, rfl⟩
      obtain ⟨xs, hxs⟩ : ∃ xs, xs = (parseE sZ k).2 := ⟨_, rfl⟩
      have hdone := HDone.out
      have hform := HForm.out
      have hok := HOk.out
      have hEl := HEl.out
      have hxl := HXl.out
      rw [← hs9] at hdone hform hok HG
      rw [← hxs] at hform hok HG hEl hxl
      have P4 := Lib.hid (indone_any g s9 wr HG.out.inf)
      have P5 : Hid (∀ W, Sees W A2 (erows xs) → Calls Try.prog 57 #[iv m z A2 k c2] W fun e w' => e = .returned (.int .i64 (checkI m z xs)) ∧ Below W.heap.size W w') := by
        rw [← hxl]; exact fun W h => icheck_any m z A2 xs c2 W h hEl (by omega)
      have HDone := Lib.hid hdone
      have HForm := Lib.hid hform
      have HOk := Lib.hid hok
      have HXl := Lib.hid hxl
      obtain ⟨d, hd⟩ : ∃ d, d = s9.done := ⟨_, rfl⟩
      rw [← hd] at P4 HDone HForm HOk
      obtain ⟨V9, hV9⟩ : ∃ V9, V9 = checkI m z xs := ⟨_, rfl⟩
      rw [← hV9] at P5 HForm HOk
      have m0 := cell_of_row wr X 0 _ _ _ HG.out.xx
      have m1 := cell_of_row wr X 1 _ _ _ HG.out.xx
      have m2' := cell_of_row wr X 2 _ _ _ HG.out.xx
      have r0 := cell_of_row wr _ 0 _ _ _ HG.out.rr
      have r1 := cell_of_row wr _ 1 _ _ _ HG.out.rr
      have r2 := cell_of_row wr _ 2 _ _ _ HG.out.rr
      have g0 := frozen_of_row wr _ 0 _ _ HG.out.rr
      have g1 := frozen_of_row wr _ 1 _ _ HG.out.rr
      have g2 := frozen_of_row wr _ 2 _ _ HG.out.rr
      simp at m0 m1 m2' r0 r1 r2
      clear hs9 hxs hdone hform hok hEl hxl hd hV9 HEl
      by_cases hd0 : d = 0
      · have d0 : (d != 0) = false := by simpa using hd0
        go_wp2_with fail
        refine (P4.out).mono ?_
        rintro e w6 ⟨rfl, rfl⟩
        go_wp2_with fail
        refine (P5.out _ (ownN_sees HG.out.own)).mono ?_
        rintro e w7 ⟨rfl, hb7⟩
        have HG7 := Lib.hid (HG.out.below hb7)
        clear m0 m1 m2' r0 r1 r2 g0 g1 g2 hb7 P4 P5
        have m0 := cell_of_row w7 X 0 _ _ _ HG7.out.xx
        have m1 := cell_of_row w7 X 1 _ _ _ HG7.out.xx
        have m2' := cell_of_row w7 X 2 _ _ _ HG7.out.xx
        have r0 := cell_of_row w7 _ 0 _ _ _ HG7.out.rr
        have r1 := cell_of_row w7 _ 1 _ _ _ HG7.out.rr
        have r2 := cell_of_row w7 _ 2 _ _ _ HG7.out.rr
        have g0 := frozen_of_row w7 _ 0 _ _ HG7.out.rr
        have g1 := frozen_of_row w7 _ 1 _ _ HG7.out.rr
        have g2 := frozen_of_row w7 _ 2 _ _ HG7.out.rr
        simp at m0 m1 m2' r0 r1 r2
        have hgH7 := HG7.out.gH
        have hgX7 := HG7.out.gX
        by_cases hv : V9 = 0
        · have dv : (V9 != 0) = false := by simpa using hv
          have HE := Lib.hid (HOk.out hd0 hv)
          clear hv hd0
          go_wp2_with fail
          refine bodyPost_ret (ret_ii rfl (by rfl) (set3_block _ _ _ HG7.out.rr)) rfl ?_
          rw [HE.out]
          exact ⟨A2, c2, by rw [HXl.out]; rfl, ownN_sees (own_set3 HG7.out.own (by omega) _ _ _), fun a ha => by have := own_addr HG7.out.own a ha; omega, below_set3 HG7.out.bel (Nat.le_refl _) _ _ _⟩
        · have dv : (V9 != 0) = true := by simpa using hv
          have HE := Lib.hid (HForm.out hd0 hv)
          clear hv hd0
          go_wp2_with fail
          refine bodyPost_ret (ret_ii rfl (by rfl) (set3_block _ _ _ HG7.out.rr)) rfl ?_
          rw [HE.out]
          exact ToldW.none_ _ (below_set3 HG7.out.bel (Nat.le_refl _) _ _ _)
      · have d0 : (d != 0) = true := by simpa using hd0
        have HE := Lib.hid (HDone.out hd0)
        clear hd0
        go_wp2_with fail
        refine (P4.out).mono ?_
        rintro e w6 ⟨rfl, rfl⟩
        go_wp2_with fail
        refine bodyPost_ret (ret_ii rfl (by rfl) (set3_block _ _ _ HG.out.rr)) rfl ?_
        rw [HE.out]
        exact ToldW.none_ _ (below_set3 HG.out.bel (Nat.le_refl _) _ _ _)

theorem iget_any (A : Option Addr) (c : Nat) (bs : List UInt8) (w : World) (hb : Bytes w A bs) (hbm : bs.length ≤ 140737488355328) :
    Calls Try.prog 55 #[.slice A bs.length c] w (ToldW (getI bs).1 (getI bs).2 w) := by
  by_cases h0 : bs = []
  · subst h0
    rw [getI_nil]
    exact (iget_nil A c w).mono fun e w' ⟨h1, h2⟩ => by rw [h1]; exact ToldW.none_ 0 h2
  · exact iget_some A c bs w hb hbm h0
end Go.Proofs.Ytjdpljhhlmcbaaa
