/- The contract of inode.Put. Condition: at most 1000000 extents, each start and length an int. -/
import Derived.Test.YtjdpljhhlmcbaaaInoCheckA
import Derived.Test.YtjdpljhhlmcbaaaFixPut
import Derived.Deep.DeepCutAuto
namespace Go.Cat.Ino
open Go.RowKit Go.Cat
/-- The bytes of an extent, of an inode. -/
def encE (e : Ext) : List UInt8 := be e.1.toNat 2 ++ be e.2.toNat 2
def encIT (mode size : Int) (xs : List Ext) (k : Nat) : List UInt8 := be mode.toNat 1 ++ (be xs.length 1 ++ (be size.toNat 4 ++ (xs.take k).flatMap encE))
def encIv (mode size : Int) (xs : List Ext) : List UInt8 := be mode.toNat 1 ++ (be xs.length 1 ++ (be size.toNat 4 ++ xs.flatMap encE))
theorem encE_length (e : Ext) : (encE e).length = 4 := by unfold encE; rw [List.length_append, be_length, be_length]
theorem encIT_succ {mode size : Int} {xs : List Ext} {k : Nat} (h : k < xs.length) : encIT mode size xs (k + 1) = encIT mode size xs k ++ encE xs[k] := by
  unfold encIT
  rw [List.take_succ_eq_append_getElem h, List.flatMap_append]
  simp [List.append_assoc]
theorem encIT_all (mode size : Int) (xs : List Ext) : encIT mode size xs xs.length = encIv mode size xs := by unfold encIT encIv; rw [List.take_length]
theorem encIT_length {mode size : Int} {xs : List Ext} : ∀ k, k ≤ xs.length → (encIT mode size xs k).length = 6 + k * 4
  | 0, _ => by unfold encIT; simp [be_length]
  | k + 1, hk => by
    have h1 := encIT_length (mode := mode) (size := size) (xs := xs) k (by omega)
    rw [encIT_succ hk, List.length_append, encE_length]
    omega
noncomputable def putI (mode size : Int) (xs : List Ext) : List UInt8 × Int := if checkI mode size xs ≠ 0 then ([], checkI mode size xs) else (encIv mode size xs, 0)
theorem putI_no {mode size : Int} {xs : List Ext} (h : checkI mode size xs ≠ 0) : putI mode size xs = ([], checkI mode size xs) := by unfold putI; rw [if_pos h]
theorem putI_yes {mode size : Int} {xs : List Ext} (h : checkI mode size xs = 0) : putI mode size xs = (encIv mode size xs, 0) := by unfold putI; rw [if_neg (by simpa using h)]
end Go.Cat.Ino
namespace Go.Proofs.Ytjdpljhhlmcbaaa
open Go.RowKit Go.Shelf Go.Cat Go.Cat.Ino

/-- What Put tells. -/
def ToldB8 (r : List UInt8 × Int) (w : World) (e : Ending) (w' : World) : Prop := ∃ A c, e = .returned (.tuple #[.slice A r.1.length c, .int .i64 r.2]) ∧ Bytes w' A r.1 ∧ Below w.heap.size w w'

theorem IbS.up {H g : Nat} {mode size : Int} {A : Option Addr} {xs : List Ext} {c : Nat} {w wr w' : World} (h : IbS H mode size A xs c w wr) (hs : Sees w A (erows xs)) (hH : H < g) (hwg : w.heap.size ≤ g) (hb : Below g wr w') : IbS H mode size A xs c w w' := by
  have hbel := h.bel.trans (hb.mono hwg)
  exact ⟨(hb.cell (p := ⟨H, _, none⟩) hH).trans h.c0, (hb.cell (p := ⟨H, _, none⟩) hH).trans h.c1, (hb.cell (p := ⟨H, _, none⟩) hH).trans h.c2, hs.below hbel, hbel⟩
theorem upd_box2 {g H : Nat} {w w' : World} {a b : Value} (hu : OutU g w w') (h : w.heap[H]? = some (.cells #[a, b] 69 (0, 0))) : w'.heap[H]? = some (.cells #[a, b] 69 (0, 0)) := by
  refine (hu.block H (Array.getElem?_eq_some_iff.1 h).1 (.inr fun cs e fr he => ?_)).trans h
  rw [h] at he
  injection he with he
  injection he with _ he
  subst he
  decide

set_option maxRecDepth 100000 in
set_option maxHeartbeats 4000000 in
theorem iput_any (mode size : Int) (A : Option Addr) (xs : List Ext) (c : Nat) (w : World) (hs : Sees w A (erows xs)) (hin : ∀ e ∈ xs, ExK e) (hn : xs.length ≤ 1000000) :
    Calls Try.prog 31 #[iv mode size A xs.length c] w (ToldB8 (putI mode size xs) w) := by
  obtain ⟨W0, hW0⟩ : ∃ W0, W0 = w.alloc (.cells #[.int .i64 mode, .int .i64 size, .slice A xs.length c] 59) := ⟨_, rfl⟩
  have hi0 : IbS w.heap.size mode size A xs c w W0 := by rw [hW0]; exact IbS.new hs
  have p1 := icheck_any mode size A xs c W0 hi0.row hin hn
  obtain ⟨V, hV⟩ : ∃ V, V = checkI mode size xs := ⟨_, rfl⟩
  obtain ⟨n, hnn⟩ : ∃ n, n = xs.length := ⟨_, rfl⟩
  obtain ⟨H, hH⟩ : ∃ H, H = w.heap.size := ⟨_, rfl⟩
  rw [← hV, ← hnn] at p1
  rw [← hnn] at hW0 hn ⊢
  have P1 := Lib.hid p1
  have HW0 := Lib.hid hW0
  have HI0 := Lib.hid hi0
  have HS := Lib.hid hs
  have HN := Lib.hid hnn
  have HH := Lib.hid hH
  by_cases hv : V = 0
  · have t0 : (V != 0) = false := by simpa using hv
    have hc : checkI mode size xs = 0 := by rw [← hV]; exact hv
    have mb := check_zero hc
    rw [putI_yes hc]
    obtain ⟨md, hmd⟩ : ∃ md : Nat, mode = (md : Int) := ⟨mode.toNat, by have := mb.m0; omega⟩
    obtain ⟨sz, hsz⟩ : ∃ sz : Nat, size = (sz : Int) := ⟨size.toNat, by have := mb.s0; omega⟩
    have hmd2 : md ≤ 2 := by have := mb.m2; omega
    have hsz2 : sz ≤ 512 := by have := mb.s1; omega
    have hn8 : n ≤ 8 := by rw [hnn]; exact mb.len
    have hwm : IntKind.u64.wrap (md : Int) = (md : Int) := IntWalk.u64_in _ (by omega)
    have hws : IntKind.u64.wrap (sz : Int) = (sz : Int) := IntWalk.u64_in _ (by omega)
    have hwn : IntKind.u64.wrap (n : Int) = (n : Int) := IntWalk.u64_in _ (by omega)
    subst hmd hsz
    have hfine : ∀ e ∈ xs, InE e := fun e he => by
      obtain ⟨i, hi, rfl⟩ := List.getElem_of_mem he
      exact (mb.fine.1 i hi _ (List.getElem?_eq_getElem hi)).1
    have enc0 : encIT (md : Int) (sz : Int) xs 0 = (([] ++ be md 1) ++ be n 1) ++ be sz 4 := by unfold encIT; rw [hnn]; simp
    have HE0 := Lib.hid enc0
    have HFine := Lib.hid hfine
    have hall := encIT_all (md : Int) (sz : Int) xs
    rw [← hnn] at hall
    have HAll := Lib.hid hall
    subst hv
    clear hV p1 hW0 hi0 hs hnn hH hc mb enc0 hfine hall hin
    go_enter Try.func31, Try.ntmps31
    go_upto_region 1 with (fail)
    rw [← HW0.out, ← HH.out]
    rw [← HH.out] at HI0
    obtain ⟨c0, c1, c2, _, _⟩ := HI0.out
    rw [← HN.out] at c2
    go_wp2_with fail
    refine (P1.out).mono ?_
    rintro e w1 ⟨rfl, hB1⟩
    have hi1 := HI0.out.below hB1
    have P2 := Lib.hid (onew_any 64 w1 (by omega))
    have HI1 := Lib.hid hi1
    clear c0 c1 c2 hB1 hi1 HI0 P1
    go_wp2_with fail
    refine (P2.out).mono ?_
    rintro e w2 ⟨rfl, ho2, hB2⟩
    obtain ⟨g, hg⟩ : ∃ g, g = w1.heap.size := ⟨_, rfl⟩
    rw [← hg] at ho2 ⊢
    have hHg : H < g := by rw [hg]; exact World.block_lt_of_cell? _ _ HI1.out.c0
    have hwg : w.heap.size ≤ g := by rw [← HH.out]; omega
    have hi2 := HI1.out.below hB2
    obtain ⟨c0, c1, c2, _, _⟩ := hi2
    have P3 := Lib.hid (onum_ok g [] md 1 64 w2 ho2 (by omega) (by omega) (by omega) (by simp) (by omega))
    have HI2 := Lib.hid (HI1.out.below hB2)
    have hgl2 := ho2.lt
    rw [← HN.out] at c2
    clear ho2 hB2 P2 HI1 hg
    go_wp2_with fail
    refine (P3.out).mono ?_
    rintro e w3 ⟨⟨v3, rfl⟩, ho3, hu3⟩
    have hi3 := HI2.out.up HS.out hHg hwg (hu3.below (Nat.le_of_lt hgl2))
    obtain ⟨d0, d1, d2, _, _⟩ := hi3
    have P4 := Lib.hid (onum_ok g _ n 1 64 w3 ho3 (by omega) (by omega) (by omega) (by simp [be_length]) (by omega))
    have HI3 := Lib.hid (HI2.out.up HS.out hHg hwg (hu3.below (Nat.le_of_lt hgl2)))
    have hgl3 := ho3.lt
    rw [← HN.out] at d2
    clear ho3 hu3 c0 c1 c2 P3 HI2
    go_wp2_with fail
    refine (P4.out).mono ?_
    rintro e w4 ⟨⟨v4, rfl⟩, ho4, hu4⟩
    have hi4 := HI3.out.up HS.out hHg hwg (hu4.below (Nat.le_of_lt hgl3))
    obtain ⟨c0, c1, c2, _, _⟩ := hi4
    have P5 := Lib.hid (onum_ok g _ sz 4 64 w4 ho4 (by omega) (by omega) (by omega) (by simp [be_length]) (by omega))
    have HI4 := Lib.hid (HI3.out.up HS.out hHg hwg (hu4.below (Nat.le_of_lt hgl3)))
    have hgl4 := ho4.lt
    rw [← HN.out] at c2
    clear ho4 hu4 d0 d1 d2 P4 HI3
    go_wp2_with fail
    refine (P5.out).mono ?_
    rintro e w5 ⟨⟨v5, rfl⟩, ho5, hu5⟩
    have hi5 := HI4.out.up HS.out hHg hwg (hu5.below (Nat.le_of_lt hgl4))
    obtain ⟨d0, d1, d2, _, _⟩ := hi5
    have HI5 := Lib.hid (HI4.out.up HS.out hHg hwg (hu5.below (Nat.le_of_lt hgl4)))
    rw [← HN.out] at d2
    have ho5' : OutF g (encIT (md : Int) (sz : Int) xs 0) 64 w5 := by rw [HE0.out]; exact ho5
    have HO5 := Lib.hid ho5'
    clear ho5 ho5' hu5 c0 c1 c2 P5 HI4 hwm hws hwn
    go_wp2_with fail
    have HB5 := Lib.hid HI5.out.bel
    clear HI5 d0 d1 d2
    go_loopw [33] (fun iv' wr => ∃ k : Nat, k ≤ n ∧ iv' = .int .i64 k ∧ Hid (OutF g (encIT (md : Int) (sz : Int) xs k) 64 wr) ∧ Hid (Below w.heap.size w wr)) (fun iv' _ => n - (intOf iv').toNat)
    case atStart => exact ⟨0, Nat.zero_le _, rfl, HO5.out, HB5.out⟩
    case round =>
      clear HO5 HB5
      obtain ⟨k, hk, rfl, HO, HB⟩ := hrel
      have hlenk : (encIT (md : Int) (sz : Int) xs k).length = 6 + k * 4 := encIT_length k (by rw [← HN.out]; exact hk)
      by_cases hlt : k < n
      · have t1 : decide ((k : Int) < (n : Int)) = true := by simp; omega
        have hkx : k < xs.length := by rw [← HN.out]; exact hlt
        obtain ⟨b, off, hA, hbl, e0, e1⟩ := erows_at (HS.out.below HB.out) hkx
        obtain ⟨p, hp⟩ : ∃ p, p = xs[k] := ⟨_, rfl⟩
        have hpE : InE p := HFine.out p (by rw [hp]; exact List.getElem_mem _)
        have hnext : encIT (md : Int) (sz : Int) xs (k + 1) = encIT (md : Int) (sz : Int) xs k ++ encE p := by rw [encIT_succ hkx, hp]
        rw [← hp] at e0 e1
        obtain ⟨st, hst⟩ : ∃ st : Nat, p.1 = (st : Int) := ⟨p.1.toNat, by have := hpE.s0; omega⟩
        obtain ⟨ln, hln⟩ : ∃ ln : Nat, p.2 = (ln : Int) := ⟨p.2.toNat, by have := hpE.right.1; omega⟩
        have hst2 : st < 4096 := by have := hpE.s1; omega
        have hln2 : ln ≤ 8 := by have := hpE.right.2; omega
        have hee : encE p = be st 2 ++ be ln 2 := by unfold encE; rw [hst, hln]; rfl
        rw [hst] at e0
        rw [hln] at e1
        rw [hee] at hnext
        have hw1 : IntKind.u64.wrap (st : Int) = (st : Int) := IntWalk.u64_in _ (by omega)
        have hw2 : IntKind.u64.wrap (ln : Int) = (ln : Int) := IntWalk.u64_in _ (by omega)
        have hkI : (k : Int) < (n : Int) := by omega
        have hk0 : (0 : Int) ≤ (k : Int) := by omega
        obtain ⟨J, hJ⟩ : ∃ J, J = wr.heap.size := ⟨_, rfl⟩
        obtain ⟨W1, hW1⟩ : ∃ W1, W1 = wr.alloc (.cells #[.int .i64 st, .int .i64 ln] 69) := ⟨_, rfl⟩
        have hb1 : Below wr.heap.size wr W1 := by rw [hW1]; exact (Below.refl _ _).alloc (Nat.le_refl _) _
        have hJ1 : W1.heap[J]? = some (.cells #[.int .i64 st, .int .i64 ln] 69 (0, 0)) := by rw [hW1, hJ]; exact heap_alloc_new _ _
        have hB1 : Below w.heap.size w W1 := HB.out.trans (hb1.mono HB.out.size)
        have ho1 := HO.out.below hb1
        have HJ := Lib.hid hJ
        have HW1 := Lib.hid hW1
        have HJ1 := Lib.hid hJ1
        have HB1 := Lib.hid hB1
        have HO1 := Lib.hid ho1
        have HNext := Lib.hid hnext
        rw [hA]
        clear hp hpE hA hbl hkx hJ hW1 hb1 hJ1 hB1 ho1 hnext hst hln hee
        go_upto_region 11 with (fail)
        rw [← HW1.out, ← HJ.out]
        clear e0 e1 HJ HW1 HO
        have x0 : W1.cell? ⟨J, 0, none⟩ = some (.int .i64 st) := cell_of_row W1 J 0 _ _ _ HJ1.out
        have P4 := Lib.hid (onum_ok g (encIT (md : Int) (sz : Int) xs k) st 2 64 W1 HO1.out (by omega) (by omega) (by omega) (by omega) (by omega))
        go_wp2_with fail
        refine (P4.out).mono ?_
        rintro e w6 ⟨⟨v6, rfl⟩, ho6, hu6⟩
        have hJ6 := upd_box2 hu6 HJ1.out
        have hB6 : Below w.heap.size w w6 := HB1.out.trans ((hu6.below (Nat.le_of_lt HO1.out.lt)).mono hwg)
        have x1 : w6.cell? ⟨J, 1, none⟩ = some (.int .i64 ln) := cell_of_row w6 J 1 _ _ _ hJ6
        have P5 := Lib.hid (onum_ok g (encIT (md : Int) (sz : Int) xs k ++ be st 2) ln 2 64 w6 ho6 (by omega) (by omega) (by omega) (by rw [List.length_append, be_length]; omega) (by omega))
        have HB6 := Lib.hid hB6
        have hgl6 := ho6.lt
        clear ho6 hu6 hJ6 hB6 P4 HO1 HJ1 HB1
        go_wp2_with fail
        refine (P5.out).mono ?_
        rintro e w7 ⟨⟨v7, rfl⟩, ho7, hu7⟩
        have hB7 : Below w.heap.size w w7 := HB6.out.trans ((hu7.below (Nat.le_of_lt hgl6)).mono hwg)
        have ho8 : OutF g (encIT (md : Int) (sz : Int) xs (k + 1)) 64 w7 := by
          rw [HNext.out]
          simpa [List.append_assoc] using ho7
        have HO8 := Lib.hid ho8
        have HB7 := Lib.hid hB7
        clear ho7 hu7 ho8 hB7
        go_wp2_with fail
        go_roundw
        case rel => exact ⟨k + 1, by omega, by go_num, HO8.out, HB7.out⟩
        case measure => simp [intOf]; omega
      · obtain rfl : k = n := by omega
        have t1 : decide ((k : Int) < (k : Int)) = false := by simp
        have P4 := Lib.hid (odone_ok g (encIT (md : Int) (sz : Int) xs k) 64 wr HO.out (by omega))
        rw [HAll.out] at P4
        clear hlenk
        go_wp2_with fail
        refine (P4.out).mono ?_
        rintro e w9 ⟨A9, c9, rfl, ho9, hB9⟩
        have HF := Lib.hid (HB.out.trans (hB9.mono HB.out.size))
        have HS9 : Hid (Bytes w9 A9 (encIv (md : Int) (sz : Int) xs)) := Sees.of_own ho9
        clear ho9 hB9
        go_wp2_with fail
        go_ret2
        exact ⟨A9, c9, rfl, HS9.out, HF.out⟩
  · have t0 : (V != 0) = true := by simpa using hv
    rw [putI_no (by rw [← hV]; exact hv), ← hV]
    clear hV p1 hW0 hi0 hs hnn hv hin hH
    go_enter Try.func31, Try.ntmps31
    go_upto_region 1 with (fail)
    rw [← HW0.out, ← HH.out]
    rw [← HH.out] at HI0
    obtain ⟨c0, c1, c2, _, _⟩ := HI0.out
    rw [← HN.out] at c2
    go_wp2_with fail
    refine (P1.out).mono ?_
    rintro e w1 ⟨rfl, hB1⟩
    have HI1 := Lib.hid (HI0.out.below hB1)
    clear c0 c1 c2 hB1
    go_wp2
    go_ret2
    exact ⟨none, 0, rfl, .inl rfl, HI1.out.bel⟩
end Go.Proofs.Ytjdpljhhlmcbaaa
