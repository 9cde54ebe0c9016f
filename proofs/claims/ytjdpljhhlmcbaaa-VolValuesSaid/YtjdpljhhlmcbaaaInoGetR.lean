/- The contract of the reference's Get of inodes. Condition: lengths within a slice's. -/
import Derived.Test.YtjdpljhhlmcbaaaInoGetV
import Derived.Test.YtjdpljhhlmcbaaaInoElem
import Derived.Test.YtjdpljhhlmcbaaaInoTold
import Derived.Test.YtjdpljhhlmcbaaaRefRead
import Derived.Deep.DeepCutAuto
namespace Go.Cat.Ino
open Go.RowKit Go.Cat
/-- The result's box, the box of what is left. -/
structure RHead (TR TN : TypeId) (H : Nat) (s : IS) (w wr : World) : Prop where
  box : ∃ A c, wr.heap[H]? = some (.cells #[.slice A s.b.length c, .int .i64 s.e] TN (0, 0)) ∧ RI s A c w
  rr : wr.heap[w.heap.size]? = some (.cells #[.int .i64 0, .int .i64 0, .slice none 0 0] TR (0, 0))
  bel : Below w.heap.size w wr
  hH : w.heap.size < H
/-- These, and the inode's box with its extents. -/
structure RGetS (TR TE TN : TypeId) (H X : Nat) (s : IS) (m z : Int) (A2 : Option Addr) (k c2 : Nat) (acc : List Ext) (w wr : World) : Prop where
  head : RHead TR TN H s w wr
  xx : wr.heap[X]? = some (.cells #[.int .i64 m, .int .i64 z, .slice A2 k c2] TR (0, 0))
  own : wr.ownsRow (X + 1) TE 2 (.slice A2 k c2) k (erows acc)
  hX : H < X
section
variable {TR TE TN : TypeId} {H X : Nat} {s s' : IS} {m z : Int} {A A2 A4 : Option Addr} {c k c2 c4 : Nat} {acc : List Ext} {p : Ext} {w wr w' : World}
theorem RHead.lt (h : RHead TR TN H s w wr) : H < wr.heap.size := by obtain ⟨A, c, h1, _⟩ := h.box; exact (Array.getElem?_eq_some_iff.1 h1).1
theorem RHead.below (h : RHead TR TN H s w wr) (hb : Below wr.heap.size wr w') : RHead TR TN H s w w' := by
  obtain ⟨A, c, h1, h2⟩ := h.box
  exact ⟨⟨A, c, (hb.block H (Array.getElem?_eq_some_iff.1 h1).1).trans h1, h2⟩, (hb.block _ (Array.getElem?_eq_some_iff.1 h.rr).1).trans h.rr, h.bel.trans (hb.mono h.bel.size), h.hH⟩
theorem RHead.store {K : Nat → Prop} (h : RHead TR TN H s w wr) (hr : RI s' A c w) (ht : Tch K wr w') (hK : ∀ j, K j → w.heap.size < j) (hb : w'.heap[H]? = some (.cells #[.slice A s'.b.length c, .int .i64 s'.e] TN (0, 0))) : RHead TR TN H s' w w' :=
  ⟨⟨A, c, hb, hr⟩, (ht.block _ (Array.getElem?_eq_some_iff.1 h.rr).1 (fun e => by have := hK _ e; omega)).trans h.rr, h.bel.trans (ht.below h.bel.size (fun j e => Nat.le_of_lt (hK j e))), h.hH⟩
theorem RHead.set2 (h : RHead TR TN H s w wr) (hr : RI s' A c w) : RHead TR TN H s' w ((wr.setCell ⟨H, 0, none⟩ (.slice A s'.b.length c)).setCell ⟨H, 1, none⟩ (.int .i64 s'.e)) := by
  obtain ⟨A1, c1, h1, _⟩ := h.box
  exact h.store hr ((Tch.set _ _ _ _).trans (Tch.set _ _ _ _)) (fun j e => by rw [e]; exact h.hH) (set_block _ (set_block _ h1))
theorem RGetS.lt (h : RGetS TR TE TN H X s m z A2 k c2 acc w wr) : X < wr.heap.size := (Array.getElem?_eq_some_iff.1 h.xx).1
theorem RGetS.below (h : RGetS TR TE TN H X s m z A2 k c2 acc w wr) (hb : Below wr.heap.size wr w') : RGetS TR TE TN H X s m z A2 k c2 acc w w' :=
  ⟨h.head.below hb, (hb.block _ h.lt).trans h.xx, own_below h.own hb, h.hX⟩
theorem RGetS.store {K : Nat → Prop} (h : RGetS TR TE TN H X s m z A2 k c2 acc w wr) (hr : RI s' A c w) (ht : Tch K wr w') (hne : TE ≠ TN) (hK : ∀ j, K j → w.heap.size < j ∧ j ≠ X ∧ ∃ cs fr, wr.heap[j]? = some (.cells cs TN fr)) (hb : w'.heap[H]? = some (.cells #[.slice A s'.b.length c, .int .i64 s'.e] TN (0, 0))) : RGetS TR TE TN H X s' m z A2 k c2 acc w w' :=
  ⟨h.head.store hr ht (fun j e => (hK j e).1) hb, (ht.block _ h.lt (fun e => (hK _ e).2.1 rfl)).trans h.xx, own_touch h.own ht (fun j hj e => by
    obtain ⟨cs, fr, hc⟩ := own_typeV h.own hj
    obtain ⟨_, _, cs', fr', hc'⟩ := hK j e
    rw [hc] at hc'
    injection hc' with hc'
    injection hc' with _ hc'
    exact hne hc'), h.hX⟩
theorem RGetS.apped (h : RGetS TR TE TN H X s m z A2 k c2 acc w wr) (ho : w'.ownsRow (X + 1) TE 2 (.slice A4 (k + 1) c4) (k + 1) (erows acc ++ ecells p)) (hg : wr.grownBy w' (Value.slice A2 k c2).ownBlock) :
    RGetS TR TE TN H X s m z A4 (k + 1) c4 (acc ++ [p]) w (w'.setCell ⟨X, 2, none⟩ (.slice A4 (k + 1) c4)) ∧ w'.cell? ⟨X, 2, none⟩ = some (.slice A2 k c2) ∧ w'.frozen? ⟨X, 2, none⟩ = false ∧ X < w'.heap.size := by
  have hlt := h.lt
  have hgH := h.head.hH
  have hgX := h.hX
  have hB : Below (X + 1) wr w' := (Below.refl _ _).own h.own hg hlt (Nat.le_refl _)
  have hx := (hB.block X (by omega)).trans h.xx
  have hl : X < w'.heap.size := (Array.getElem?_eq_some_iff.1 hx).1
  obtain ⟨A1, c1, h1, h2⟩ := h.head.box
  refine ⟨⟨⟨⟨A1, c1, ?_, h2⟩, ?_, (h.head.bel.trans (hB.mono (by omega))).setCell (by show w.heap.size ≤ X; omega) _, hgH⟩, ?_, ?_, hgX⟩, cell_of_row _ _ 2 _ _ _ hx, frozen_of_row _ _ 2 _ _ hx, hl⟩
  · rw [set_other _ (by omega)]; exact (hB.block _ (by omega)).trans h1
  · rw [set_other _ (by omega)]; exact (hB.block _ (by omega)).trans h.head.rr
  · have := set_block (i := 2) (.slice A4 (k + 1) c4) hx
    simpa using this
  · rw [erows_snoc]
    exact own_touch ho (Tch.set _ _ _ _) (fun j hj e => by have := own_lowB ho hj; omega)
theorem set2B {w : World} {g : Nat} {a b : Value} {t : TypeId} {fr : Nat × Nat} (x y : Value) (h : w.heap[g]? = some (.cells #[a, b] t fr)) :
    ((w.setCell ⟨g, 0, none⟩ x).setCell ⟨g, 1, none⟩ y).heap[g]? = some (.cells #[x, y] t fr) := set_block y (set_block x h)
theorem tch2B (w : World) (g : Nat) (x y : Value) : Tch (fun k => k = g) w ((w.setCell ⟨g, 0, none⟩ x).setCell ⟨g, 1, none⟩ y) := (Tch.set _ _ _ _).trans (Tch.set _ _ _ _)
end
end Go.Cat.Ino
namespace Go.Proofs.Ytjdpljhhlmcbaaa
open Go.RowKit Go.Shelf Go.Cat Go.Cat.Ino

theorem riget_nil (A : Option Addr) (c : Nat) (w : World) :
    Calls Try.prog 56 #[.slice A 0 c] w fun e w' => e = .returned (.tuple #[iv 0 0 none 0 0, .int .i64 0]) ∧ Below w.heap.size w w' := by
  go_enter Try.func56, Try.ntmps56
  go_wp2_with fail
  refine bodyPost_ret (ret_rii rfl (by rfl) (heap_alloc_new _ _)) rfl ?_
  exact ⟨rfl, (Below.refl _ _).alloc (Nat.le_refl _) _⟩

set_option maxRecDepth 100000 in
set_option maxHeartbeats 8000000 in
theorem riget_some (A : Option Addr) (c : Nat) (bs : List UInt8) (w : World) (hb : Bytes w A bs) (hbm : bs.length ≤ c) (hcm : c ≤ maxLen) (hnil : A = none → c = 0) (h0 : bs ≠ []) :
    Calls Try.prog 56 #[.slice A bs.length c] w (ToldW (getI bs).1 (getI bs).2 w) := by
  obtain ⟨V, hV⟩ : ∃ V, V = getI bs := ⟨_, rfl⟩
  rw [← hV]
  obtain ⟨n0, hn0⟩ : ∃ n0, n0 = bs.length := ⟨_, rfl⟩
  have hpos : 0 < n0 := by rw [hn0]; exact List.length_pos_iff.2 h0
  have t0 : ((n0 : Int) == 0) = false := by simp; omega
  have hb0 : Below w.heap.size w (w.alloc (.cells #[.int .i64 0, .int .i64 0, .slice none 0 0] 64)) := (Below.refl _ _).alloc (Nat.le_refl _) _
  have hri : RI ⟨bs, 0⟩ A c w := ⟨fun h => absurd rfl h, hb, hbm, hcm, hnil⟩
  obtain ⟨⟨m0, m2⟩, ⟨n00, n8⟩, ⟨z0, z1⟩⟩ := rd_bounds bs
  have hEl := rdE_in bs
  obtain ⟨sM, hsM⟩ : ∃ s, s = (rdM bs).1 := ⟨_, rfl⟩
  obtain ⟨m, hm⟩ : ∃ m, m = (rdM bs).2 := ⟨_, rfl⟩
  obtain ⟨sN, hsN⟩ : ∃ s, s = (rdN bs).1 := ⟨_, rfl⟩
  obtain ⟨n, hn⟩ : ∃ n : Nat, (n : Int) = (rdN bs).2 := ⟨(rdN bs).2.toNat, by omega⟩
  obtain ⟨sZ, hsZ⟩ : ∃ s, s = (rdZ bs).1 := ⟨_, rfl⟩
  obtain ⟨z, hz⟩ : ∃ z, z = (rdZ bs).2 := ⟨_, rfl⟩
  have eM : (⟨bs, 0⟩ : IS).upto 1 2 = (sM, m) := by rw [hsM, hm]; rfl
  have eN : sM.upto 1 8 = (sN, (n : Int)) := by rw [hsM, hsN, hn]; rfl
  have eZ : sN.upto 4 18446744073709551615 = (sZ, z) := by rw [hsN, hsZ, hz]; rfl
  have hrd : rdE bs = parseE sZ n := by unfold rdE; rw [← hsZ, ← hn]; rfl
  have p1 := rupto_any ⟨bs, 0⟩ A c 1 2 w (w.alloc (.cells #[.int .i64 0, .int .i64 0, .slice none 0 0] 64)) hri hb0 (by omega) (by omega)
  have p2 := fun A c W (h : RI sM A c w) (hB : Below w.heap.size w W) => rupto_any sM A c 1 8 w W h hB (by omega) (by omega)
  have p3 := fun A c W (h : RI sN A c w) (hB : Below w.heap.size w W) => rget_any sN A c 4 w W h hB (by omega) (by omega)
  rw [eM] at p1
  rw [eN] at p2
  rw [eZ] at p3
  change Calls Try.prog 39 #[ri A bs.length c 0, .int .i64 ((1 : Nat) : Int), .int .u64 2] (w.alloc (.cells #[.int .i64 0, .int .i64 0, .slice none 0 0] 64)) (ToldRU (sM, m) w (w.alloc (.cells #[.int .i64 0, .int .i64 0, .slice none 0 0] 64))) at p1
  rw [← hn0] at p1 ⊢
  rw [← hm] at m0 m2
  rw [← hz] at z0 z1
  rw [← hn] at n8
  have hn8 : n ≤ 8 := by omega
  have hdone : (parseE sZ n).1.done ≠ 0 → V = ((0, 0, []), (parseE sZ n).1.done) := fun h => by rw [hV, getI_done h0 (by rw [hrd]; exact h), hrd]
  have hform : (parseE sZ n).1.done = 0 → checkI m z (parseE sZ n).2 ≠ 0 → V = ((0, 0, []), 4) := fun h h2 => by rw [hV, getI_form h0 (by rw [hrd]; exact h) (by rw [hrd, ← hm, ← hz]; exact h2)]
  have hok : (parseE sZ n).1.done = 0 → checkI m z (parseE sZ n).2 = 0 → V = ((m, z, (parseE sZ n).2), 0) := fun h h2 => by rw [hV, getI_ok h0 (by rw [hrd]; exact h) (by rw [hrd, ← hm, ← hz]; exact h2), hrd, ← hm, ← hz]
  rw [hrd] at hEl
  have hxl := parseE_length sZ n
  have wm : IntKind.i64.wrap m = m := IntWalk.i64_in _ (by omega)
  have wz : IntKind.i64.wrap z = z := IntWalk.i64_in _ (by omega)
  have P1 := Lib.hid p1
  have P2 := Lib.hid p2
  have P3 := Lib.hid p3
  have HDone := Lib.hid hdone
  have HForm := Lib.hid hform
  have HOk := Lib.hid hok
  have HEl := Lib.hid hEl
  have HXl := Lib.hid hxl
  have HB0 := Lib.hid hb0
  clear hV hn0 hpos hb hbm hcm hnil hri h0 hsM hm hsN hn hsZ hz eM eN eZ hrd p1 p2 p3 hdone hform hok hEl hxl n00 n8 hb0
  go_enter Try.func56, Try.ntmps56
  go_wp2_with fail
  refine (P1.out).mono ?_
  rintro e w1 ⟨A1, c1, rfl, hr1, hB1⟩
  obtain ⟨H, hH⟩ : ∃ H, H = w1.heap.size := ⟨_, rfl⟩
  obtain ⟨W2, hW2⟩ : ∃ W2, W2 = w1.alloc (.cells #[.slice A1 sM.b.length c1, .int .i64 sM.e] 83) := ⟨_, rfl⟩
  have hb2 : Below w1.heap.size w1 W2 := by rw [hW2]; exact (Below.refl _ _).alloc (Nat.le_refl _) _
  have hrr1 : w1.heap[w.heap.size]? = some (.cells #[.int .i64 0, .int .i64 0, .slice none 0 0] 64 (0, 0)) := (hB1.block _ (by simp)).trans (heap_alloc_new _ _)
  have hlt1 : w.heap.size < w1.heap.size := (Array.getElem?_eq_some_iff.1 hrr1).1
  have hbox2 : W2.heap[H]? = some (.cells #[.slice A1 sM.b.length c1, .int .i64 sM.e] 83 (0, 0)) := by rw [hW2, hH]; exact heap_alloc_new _ _
  have hG2 : RHead 64 83 H sM w W2 := ⟨⟨A1, c1, hbox2, hr1⟩, (hb2.block _ hlt1).trans hrr1, (HB0.out.trans (hB1.mono (by simp))).trans (hb2.mono (by omega)), by omega⟩
  have u0 := cell_of_row W2 H 0 _ _ _ hbox2
  have u1 := cell_of_row W2 H 1 _ _ _ hbox2
  simp at u0 u1
  have P2' := Lib.hid (P2.out A1 c1 W2 hr1 hG2.bel)
  have HG2 := Lib.hid hG2
  have HH := Lib.hid hH
  have HW2 := Lib.hid hW2
  clear hr1 hB1 hb2 hrr1 hlt1 hbox2 hG2 hH hW2 P1 P2 HB0
  go_upto_region 4 with (fail)
  rw [← HW2.out, ← HH.out]
  clear HH HW2
  go_wp2_with fail
  refine (P2'.out).mono ?_
  rintro e w3 ⟨A3, c3, rfl, hr3, hB3⟩
  have hG3 := HG2.out.below hB3
  obtain ⟨A', c', hbox3, _⟩ := hG3.box
  have v0 := cell_of_row w3 H 0 _ _ _ hbox3
  have v1 := cell_of_row w3 H 1 _ _ _ hbox3
  have f0 : w3.frozen? ⟨H, 0, none⟩ = false := frozen_of_row w3 H 0 _ _ hbox3
  have f1 : w3.frozen? ⟨H, 1, none⟩ = false := frozen_of_row w3 H 1 _ _ hbox3
  simp at v0 v1
  obtain ⟨W4, hW4⟩ : ∃ W4, W4 = (w3.setCell ⟨H, 0, none⟩ (.slice A3 sN.b.length c3)).setCell ⟨H, 1, none⟩ (.int .i64 sN.e) := ⟨_, rfl⟩
  have hG4 : RHead 64 83 H sN w W4 := by rw [hW4]; exact hG3.set2 hr3
  have hbox4 : W4.heap[H]? = some (.cells #[.slice A3 sN.b.length c3, .int .i64 sN.e] 83 (0, 0)) := by rw [hW4]; exact set2B _ _ hbox3
  have P3' := Lib.hid (P3.out A3 c3 W4 hr3 hG4.bel)
  have HG4 := Lib.hid hG4
  have HBox4 := Lib.hid hbox4
  have HW4 := Lib.hid hW4
  clear hr3 hB3 hG3 hbox3 hG4 hbox4 hW4 P2' P3 HG2 u0 u1
  go_upto_region 5 with (fail)
  rw [← HW4.out]
  have u0 := cell_of_row W4 H 0 _ _ _ HBox4.out
  have u1 := cell_of_row W4 H 1 _ _ _ HBox4.out
  simp at u0 u1
  clear v0 v1 f0 f1 HW4
  go_wp2_with fail
  refine (P3'.out).mono ?_
  rintro e w5 ⟨A5, c5, rfl, hr5, hB5⟩
  have hG5 := HG4.out.below hB5
  obtain ⟨A', c', hbox5, _⟩ := hG5.box
  have v0 := cell_of_row w5 H 0 _ _ _ hbox5
  have v1 := cell_of_row w5 H 1 _ _ _ hbox5
  have f0 : w5.frozen? ⟨H, 0, none⟩ = false := frozen_of_row w5 H 0 _ _ hbox5
  have f1 : w5.frozen? ⟨H, 1, none⟩ = false := frozen_of_row w5 H 1 _ _ hbox5
  simp at v0 v1
  obtain ⟨W6, hW6⟩ : ∃ W6, W6 = (w5.setCell ⟨H, 0, none⟩ (.slice A5 sZ.b.length c5)).setCell ⟨H, 1, none⟩ (.int .i64 sZ.e) := ⟨_, rfl⟩
  have hG6 : RHead 64 83 H sZ w W6 := by rw [hW6]; exact hG5.set2 hr5
  have HG6 := Lib.hid hG6
  have HW6 := Lib.hid hW6
  clear hr5 hB5 hG5 hbox5 hG6 hW6 P3' HG4 HBox4 u0 u1
  go_upto_region 6 with (fail)
  rw [← HW6.out]
  clear v0 v1 f0 f1 HW6
  obtain ⟨X, hX⟩ : ∃ X, X = W6.heap.size := ⟨_, rfl⟩
  obtain ⟨W7, hW7⟩ : ∃ W7, W7 = W6.alloc (.cells #[.int .i64 m, .int .i64 z, .slice none 0 0] 64) := ⟨_, rfl⟩
  have hb7 : Below W6.heap.size W6 W7 := by rw [hW7]; exact (Below.refl _ _).alloc (Nat.le_refl _) _
  have hG7 : RGetS 64 68 83 H X sZ m z none 0 0 [] w W7 := ⟨HG6.out.below hb7, by rw [hW7, hX]; exact heap_alloc_new _ _, World.ownsRow_nil _ _ _ _, by rw [hX]; exact HG6.out.lt⟩
  have HG7 := Lib.hid hG7
  have HX := Lib.hid hX
  have HW7 := Lib.hid hW7
  clear hb7 hG7 hX hW7 HG6
  go_upto_region 7 with (fail)
  rw [← HW7.out, ← HX.out]
  clear HX HW7
  go_wp2_with fail
  go_loopw [9] (fun iv' wr => ∃ (k : Nat) (A2 : Option Addr) (c2 : Nat), k ≤ n ∧ iv' = .int .u64 k ∧ Hid (RGetS 64 68 83 H X (parseE sZ k).1 m z A2 k c2 (parseE sZ k).2 w wr)) (fun iv' _ => n - (intOf iv').toNat)
  case atStart => exact ⟨0, none, 0, Nat.zero_le _, rfl, HG7.out⟩
  case round =>
    clear HG7
    obtain ⟨k, A2, c2, hk, rfl, HG⟩ := hrel
    by_cases hlt : k < n
    · have t1 : decide ((k : Int) < (n : Int)) = true := by simp; omega
      have hpar : parseE sZ (k + 1) = ((oneE (parseE sZ k).1).1, (parseE sZ k).2 ++ [(oneE (parseE sZ k).1).2]) := rfl
      have hin := oneE_in (parseE sZ k).1
      obtain ⟨sk, hsk⟩ : ∃ sk, sk = (parseE sZ k).1 := ⟨_, rfl⟩
      obtain ⟨acc, hacc⟩ : ∃ acc, acc = (parseE sZ k).2 := ⟨_, rfl⟩
      rw [← hsk] at hpar hin HG
      rw [← hacc] at hpar HG
      obtain ⟨sa, hsa⟩ : ∃ sa, sa = (sk.upto 2 18446744073709551615).1 := ⟨_, rfl⟩
      obtain ⟨a, ha⟩ : ∃ a, a = (sk.upto 2 18446744073709551615).2 := ⟨_, rfl⟩
      have e1 : sk.upto 2 18446744073709551615 = (sa, a) := by rw [hsa, ha]
      obtain ⟨sb, hsb⟩ : ∃ sb, sb = (sa.upto 2 18446744073709551615).1 := ⟨_, rfl⟩
      obtain ⟨b, hbb⟩ : ∃ b, b = (sa.upto 2 18446744073709551615).2 := ⟨_, rfl⟩
      have e2 : sa.upto 2 18446744073709551615 = (sb, b) := by rw [hsb, hbb]
      have hone : oneE sk = (sb, (a, b)) := by unfold oneE; rw [e1]; show ((sa.upto 2 18446744073709551615).1, (a, (sa.upto 2 18446744073709551615).2)) = _; rw [e2]
      rw [hone] at hpar hin
      obtain ⟨i1, i2, i3, i4⟩ := hin
      replace i1 : 0 ≤ a := i1
      replace i2 : a < 65536 := i2
      replace i3 : 0 ≤ b := i3
      replace i4 : b < 65536 := i4
      have wa : IntKind.i64.wrap a = a := IntWalk.i64_in _ (by omega)
      have wb : IntKind.i64.wrap b = b := IntWalk.i64_in _ (by omega)
      obtain ⟨A3, c3, hbx, hri⟩ := HG.out.head.box
      have p1 := fun W (hB : Below w.heap.size w W) => rget_any sk A3 c3 2 w W hri hB (by omega) (by omega)
      have p2 := fun A c W (h : RI sa A c w) (hB : Below w.heap.size w W) => rget_any sa A c 2 w W h hB (by omega) (by omega)
      rw [e1] at p1
      rw [e2] at p2
      have P1 := Lib.hid (p1 wr HG.out.head.bel)
      have P2 := Lib.hid p2
      have HPar := Lib.hid hpar
      have c0 : wr.cell? ⟨H, 0, none⟩ = some (.slice A3 sk.b.length c3) := cell_of_row wr H 0 _ _ _ hbx
      have c1 : wr.cell? ⟨H, 1, none⟩ = some (.int .i64 sk.e) := cell_of_row wr H 1 _ _ _ hbx
      clear p1 p2 hpar hsk hacc hsa ha e1 hsb hbb e2 hone hbx hri
      go_wp2_with fail
      refine (P1.out).mono ?_
      rintro e w4 ⟨A4, c4, rfl, hr4, hB4⟩
      have HG4 := Lib.hid (HG.out.below hB4)
      obtain ⟨J, hJ⟩ : ∃ J, J = w4.heap.size := ⟨_, rfl⟩
      obtain ⟨W5, hW5⟩ : ∃ W5, W5 = w4.alloc (.cells #[.slice A4 sa.b.length c4, .int .i64 sa.e] 83) := ⟨_, rfl⟩
      have hb5 : Below w4.heap.size w4 W5 := by rw [hW5]; exact (Below.refl _ _).alloc (Nat.le_refl _) _
      have HG5 := Lib.hid (HG4.out.below hb5)
      have hJ5 : W5.heap[J]? = some (.cells #[.slice A4 sa.b.length c4, .int .i64 sa.e] 83 (0, 0)) := by rw [hW5, hJ]; exact heap_alloc_new _ _
      have hXJ : X < J := by rw [hJ]; exact HG4.out.lt
      have hHJ : H < J := by have := HG4.out.hX; omega
      have x0 : W5.cell? ⟨J, 0, none⟩ = some (.slice A4 sa.b.length c4) := cell_of_row W5 J 0 _ _ _ hJ5
      have x1 : W5.cell? ⟨J, 1, none⟩ = some (.int .i64 sa.e) := cell_of_row W5 J 1 _ _ _ hJ5
      have P2' := Lib.hid (P2.out A4 c4 W5 hr4 HG5.out.head.bel)
      have HW5 := Lib.hid hW5
      have HJ := Lib.hid hJ
      have HJ5 := Lib.hid hJ5
      clear hB4 hr4 hJ hW5 hb5 hJ5 HG P1 P2 c0 c1
      go_upto_region 11 with (fail)
      rw [← HW5.out, ← HJ.out]
      clear HG4 HW5 HJ
      go_wp2_with fail
      refine (P2'.out).mono ?_
      rintro e w8 ⟨A8, c8, rfl, hr8, hB8⟩
      have hG8 := HG5.out.below hB8
      have hJ8 : w8.heap[J]? = some (.cells #[.slice A4 sa.b.length c4, .int .i64 sa.e] 83 (0, 0)) := (hB8.block J (Array.getElem?_eq_some_iff.1 HJ5.out).1).trans HJ5.out
      have y0 : w8.cell? ⟨J, 0, none⟩ = some (.slice A4 sa.b.length c4) := cell_of_row w8 J 0 _ _ _ hJ8
      have y1 : w8.cell? ⟨J, 1, none⟩ = some (.int .i64 sa.e) := cell_of_row w8 J 1 _ _ _ hJ8
      have f0 : w8.frozen? ⟨J, 0, none⟩ = false := frozen_of_row w8 J 0 _ _ hJ8
      have f1 : w8.frozen? ⟨J, 1, none⟩ = false := frozen_of_row w8 J 1 _ _ hJ8
      obtain ⟨A', c', hbx8, hri8⟩ := hG8.head.box
      have u0 := cell_of_row w8 H 0 _ _ _ hbx8
      have u1 := cell_of_row w8 H 1 _ _ _ hbx8
      simp only [List.getElem?_toArray, List.getElem?_cons_zero, List.getElem?_cons_succ] at u0 u1
      have g0 : w8.frozen? ⟨H, 0, none⟩ = false := frozen_of_row w8 H 0 _ _ hbx8
      have g1 : w8.frozen? ⟨H, 1, none⟩ = false := frozen_of_row w8 H 1 _ _ hbx8
      have hne : ¬ H = J := by omega
      have hne' : ¬ J = H := by omega
      obtain ⟨W9, hW9⟩ : ∃ W9, W9 = (((w8.setCell ⟨J, 0, none⟩ (.slice A8 sb.b.length c8)).setCell ⟨J, 1, none⟩ (.int .i64 sb.e)).setCell ⟨H, 0, none⟩ (.slice A8 sb.b.length c8)).setCell ⟨H, 1, none⟩ (.int .i64 sb.e) := ⟨_, rfl⟩
      have hG9 : RGetS 64 68 83 H X sb m z A2 k c2 acc w W9 := by
        have t1 : Tch (fun k => k = J ∨ k = H) w8 ((w8.setCell ⟨J, 0, none⟩ (.slice A8 sb.b.length c8)).setCell ⟨J, 1, none⟩ (.int .i64 sb.e)) := (tch2B _ _ _ _).mono fun k _ e => .inl e
        have hH1 : ((w8.setCell ⟨J, 0, none⟩ (.slice A8 sb.b.length c8)).setCell ⟨J, 1, none⟩ (.int .i64 sb.e)).heap[H]? = w8.heap[H]? := (tch2B _ _ _ _).block H hG8.head.lt hne
        have t2 : Tch (fun k => k = J ∨ k = H) w8 W9 := by rw [hW9]; exact t1.trans ((tch2B _ _ _ _).mono fun k _ e => .inr e)
        have hHw := hG8.head.hH
        have hHX := hG8.hX
        refine hG8.store hr8 t2 (by decide) (fun k e => ?_) (by rw [hW9]; exact set2B _ _ (hH1.trans hbx8))
        rcases e with e | e
        · rw [e]; exact ⟨by omega, by omega, _, _, hJ8⟩
        · rw [e]; exact ⟨hHw, by omega, _, _, hbx8⟩
      have x2 := cell_of_row W9 X 2 _ _ _ hG9.xx
      simp at x2
      have HG9 := Lib.hid hG9
      have HW9 := Lib.hid hW9
      clear hG8 hJ8 hW9 hG9 hr8 hB8 hbx8 hri8 HG5 HJ5 x0 x1 P2'
      go_upto_region 13 with (fail)
      rw [← HW9.out]
      clear y0 y1 f0 f1 u0 u1 g0 g1 HW9 hne hne'
      have hX9 : Below W9.heap.size W9 (W9.alloc (.cells #[.int .i64 a, .int .i64 b] 68)) := (Below.refl _ _).alloc (Nat.le_refl _) _
      have HGX := Lib.hid (HG9.out.below hX9)
      have hlt7 : X + 1 ≤ (W9.alloc (.cells #[.int .i64 a, .int .i64 b] 68)).heap.size := HGX.out.lt
      clear hX9
      go_wp2_with (at_builtin; refine wpList_app elem_rext rfl _ _ rfl (X + 1) (.slice A2 k c2) k (erows acc) rfl HGX.out.own (some ⟨_, 0, none⟩) 1 1 (ecells (a, b)) rfl (sees_new _ _ _) rfl (one_ecells _) (by omega) hlt7 ?_)
      intro v2 w10 hown hgr _
      obtain ⟨A10, c10, rfl, _, _⟩ := own_full hown
      obtain ⟨F1, F2, F3, F4⟩ := HGX.out.apped hown hgr
      have HF := Lib.hid F1
      clear hown hgr F1 x2
      go_wp2_with fail
      go_roundw
      case rel => exact ⟨k + 1, A10, c10, by omega, by go_num, by show RGetS _ _ _ _ _ _ _ _ _ _ _ _ _ _; rw [HPar.out]; exact HF.out⟩
      case measure => simp [intOf]; omega
    · obtain rfl : k = n := by omega
      have t1 : decide ((k : Int) < (k : Int)) = false := by simp
      obtain ⟨s9, hs9⟩ : ∃ s9, s9 = (parseE sZ k).1 := ⟨_, rfl⟩
      obtain ⟨xs, hxs⟩ : ∃ xs, xs = (parseE sZ k).2 := ⟨_, rfl⟩
      have hdone := HDone.out
      have hform := HForm.out
      have hok := HOk.out
      have hEl := HEl.out
      have hxl := HXl.out
      rw [← hs9] at hdone hform hok HG
      rw [← hxs] at hform hok HG hEl hxl
      obtain ⟨A3, c3, hbx, hri⟩ := HG.out.head.box
      have P4 := Lib.hid (fun W => rdone_any s9 A3 c3 W)
      have P5 : Hid (∀ W, Sees W A2 (erows xs) → Calls Try.prog 76 #[iv m z A2 k c2] W fun e w' => e = .returned (.int .i64 (checkI m z xs)) ∧ Below W.heap.size W w') := by
        rw [← hxl]; exact fun W h => richeck_any m z A2 xs c2 W h hEl (by omega)
      have HDone := Lib.hid hdone
      have HForm := Lib.hid hform
      have HOk := Lib.hid hok
      have HXl := Lib.hid hxl
      obtain ⟨d, hd⟩ : ∃ d, d = s9.done := ⟨_, rfl⟩
      rw [← hd] at P4 HDone HForm HOk
      obtain ⟨V9, hV9⟩ : ∃ V9, V9 = checkI m z xs := ⟨_, rfl⟩
      rw [← hV9] at P5 HForm HOk
      have u0 : wr.cell? ⟨H, 0, none⟩ = some (.slice A3 s9.b.length c3) := cell_of_row wr H 0 _ _ _ hbx
      have u1 : wr.cell? ⟨H, 1, none⟩ = some (.int .i64 s9.e) := cell_of_row wr H 1 _ _ _ hbx
      clear hs9 hxs hdone hform hok hEl hxl hd hV9 HEl hbx hri
      go_wp2_with fail
      refine (P4.out _).mono ?_
      rintro e w6 ⟨rfl, hb6⟩
      have HG6 := Lib.hid (HG.out.below hb6)
      clear u0 u1 hb6 HG P4
      have m0 := cell_of_row w6 X 0 _ _ _ HG6.out.xx
      have m1 := cell_of_row w6 X 1 _ _ _ HG6.out.xx
      have m2' := cell_of_row w6 X 2 _ _ _ HG6.out.xx
      have r0 := cell_of_row w6 _ 0 _ _ _ HG6.out.head.rr
      have r1 := cell_of_row w6 _ 1 _ _ _ HG6.out.head.rr
      have r2 := cell_of_row w6 _ 2 _ _ _ HG6.out.head.rr
      have g0 := frozen_of_row w6 _ 0 _ _ HG6.out.head.rr
      have g1 := frozen_of_row w6 _ 1 _ _ HG6.out.head.rr
      have g2 := frozen_of_row w6 _ 2 _ _ HG6.out.head.rr
      simp at m0 m1 m2' r0 r1 r2
      by_cases hd0 : d = 0
      · have d0 : (d != 0) = false := by simpa using hd0
        go_wp2_with fail
        refine (P5.out _ (ownN_sees HG6.out.own)).mono ?_
        rintro e w7 ⟨rfl, hb7⟩
        have HG7 := Lib.hid (HG6.out.below hb7)
        clear m0 m1 m2' r0 r1 r2 g0 g1 g2 hb7 P5
        have m0 := cell_of_row w7 X 0 _ _ _ HG7.out.xx
        have m1 := cell_of_row w7 X 1 _ _ _ HG7.out.xx
        have m2' := cell_of_row w7 X 2 _ _ _ HG7.out.xx
        have r0 := cell_of_row w7 _ 0 _ _ _ HG7.out.head.rr
        have r1 := cell_of_row w7 _ 1 _ _ _ HG7.out.head.rr
        have r2 := cell_of_row w7 _ 2 _ _ _ HG7.out.head.rr
        have g0 := frozen_of_row w7 _ 0 _ _ HG7.out.head.rr
        have g1 := frozen_of_row w7 _ 1 _ _ HG7.out.head.rr
        have g2 := frozen_of_row w7 _ 2 _ _ HG7.out.head.rr
        simp at m0 m1 m2' r0 r1 r2
        have hgH7 := HG7.out.head.hH
        have hgX7 := HG7.out.hX
        by_cases hv : V9 = 0
        · have dv : (V9 != 0) = false := by simpa using hv
          have HE := Lib.hid (HOk.out hd0 hv)
          clear hv hd0
          go_wp2_with fail
          refine bodyPost_ret (ret_rii rfl (by rfl) (set3_block _ _ _ HG7.out.head.rr)) rfl ?_
          rw [HE.out]
          exact ⟨A2, c2, by rw [HXl.out]; rfl, ownN_sees (own_set3 HG7.out.own (by omega) _ _ _), fun a ha => by have := own_addr HG7.out.own a ha; omega, below_set3 HG7.out.head.bel (Nat.le_refl _) _ _ _⟩
        · have dv : (V9 != 0) = true := by simpa using hv
          have HE := Lib.hid (HForm.out hd0 hv)
          clear hv hd0
          go_wp2_with fail
          refine bodyPost_ret (ret_rii rfl (by rfl) (set3_block _ _ _ HG7.out.head.rr)) rfl ?_
          rw [HE.out]
          exact ToldW.none_ _ (below_set3 HG7.out.head.bel (Nat.le_refl _) _ _ _)
      · have d0 : (d != 0) = true := by simpa using hd0
        have HE := Lib.hid (HDone.out hd0)
        clear hd0
        go_wp2_with fail
        refine bodyPost_ret (ret_rii rfl (by rfl) (set3_block _ _ _ HG6.out.head.rr)) rfl ?_
        rw [HE.out]
        exact ToldW.none_ _ (below_set3 HG6.out.head.bel (Nat.le_refl _) _ _ _)

theorem riget_any (A : Option Addr) (c : Nat) (bs : List UInt8) (w : World) (hb : Bytes w A bs) (hbm : bs.length ≤ c) (hcm : c ≤ maxLen) (hnil : A = none → c = 0) :
    Calls Try.prog 56 #[.slice A bs.length c] w (ToldW (getI bs).1 (getI bs).2 w) := by
  by_cases h0 : bs = []
  · subst h0
    rw [getI_nil]
    exact (riget_nil A c w).mono fun e w' ⟨h1, h2⟩ => by rw [h1]; exact ToldW.none_ 0 h2
  · exact riget_some A c bs w hb hbm hcm hnil h0
end Go.Proofs.Ytjdpljhhlmcbaaa
