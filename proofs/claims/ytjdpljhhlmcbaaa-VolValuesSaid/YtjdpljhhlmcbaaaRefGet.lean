/- Bytes that are read, the reference's: the contracts of Upto, Get, Read, Done. Condition: lengths within a slice's; widths 1 to 8. -/
import Derived.Test.YtjdpljhhlmcbaaaRefIn
import Derived.Test.YtjdpljhhlmcbaaaFixDone
namespace Go.Cat
open Go.RowKit
theorem alloc_keeps {w : World} {g : Nat} {x : Obj} (h : w.heap[g]? = some x) (o : Obj) : (w.alloc o).heap[g]? = some x :=
  (((Below.refl w.heap.size w).alloc (Nat.le_refl _) o).block g (Array.getElem?_eq_some_iff.1 h).1).trans h
theorem IS.next_not {s : IS} {n : Nat} (h : (s.next n).2.2 = false) : (s.next n).1.e ≠ 0 ∧ (s.next n).2.1 = [] := by
  unfold IS.next at h ⊢
  split at h
  · rename_i h1; rw [if_pos h1]; exact ⟨h1, rfl⟩
  · rename_i h1
    split at h
    · rename_i h2; rw [if_neg h1, if_pos h2]; exact ⟨by decide, rfl⟩
    · cases h
end Go.Cat
namespace Go.Proofs.Ytjdpljhhlmcbaaa
open Go.RowKit Go.Cat

/-- What the reference's reads of numbers tell. -/
def ToldRU (r : IS × Int) (w0 w : World) (e : Ending) (w' : World) : Prop :=
  ∃ A c, e = .returned (.tuple #[ri A r.1.b.length c r.1.e, .int .u64 r.2]) ∧ RI r.1 A c w0 ∧ Below w.heap.size w w'

set_option maxRecDepth 100000 in
theorem rupto_any (s : IS) (A : Option Addr) (c n : Nat) (most : Int) (w0 w : World) (h : RI s A c w0) (hw : Below w0.heap.size w0 w) (hn1 : 1 ≤ n) (hn8 : n ≤ 8) :
    Calls Try.prog 39 #[ri A s.b.length c s.e, .int .i64 (n : Int), .int .u64 most] w (ToldRU (s.upto n most) w0 w) := by
  have p1 := fun w' => rraw_any s A c n w0 w' h (by omega)
  have hu : s.upto n most = if (s.next n).2.2 = false then ((s.next n).1, 0) else if most < (num (s.next n).2.1 : Int) then (⟨[], 4⟩, 0) else ((s.next n).1, (num (s.next n).2.1 : Int)) := rfl
  have hnk := IS.next_ok (s := s) (n := n)
  have hnn := IS.next_not (s := s) (n := n)
  obtain ⟨s1, hs1⟩ : ∃ s1, s1 = (s.next n).1 := ⟨_, rfl⟩
  obtain ⟨out, hout⟩ : ∃ out, out = (s.next n).2.1 := ⟨_, rfl⟩
  obtain ⟨ok, hok⟩ : ∃ ok, ok = (s.next n).2.2 := ⟨_, rfl⟩
  rw [← hs1, ← hout, ← hok] at hnk hnn hu
  rw [← hs1, ← hout] at p1
  have P1 := Lib.hid p1
  have HU := Lib.hid hu
  have HK := Lib.hid hnk
  have HN := Lib.hid hnn
  have d1 : decide (n < 1) = false := by simp; omega
  have d1' : decide ((n : Int) < 1) = false := by simp; omega
  have d1'' : decide (n = 0) = false := by simp; omega
  have d2 : decide ((8 : Int) < (n : Int)) = false := by simp; omega
  have d2' : decide (8 < n) = false := by simp; omega
  have hB0 := below2 w (.cells #[.slice A s.b.length c, .int .i64 s.e] 83) (.cells #[.slice none 0 0, .int .i64 0] 83)
  clear p1 h hs1 hout hok hu hnk hnn
  go_enter Try.func39, Try.ntmps39
  go_wp2_with fail
  refine (P1.out _).mono ?_
  rintro e w1 ⟨A1, c1, A2, c2, rfl, hr1, hb1, hB1⟩
  have hbx : w1.heap[w.heap.size + 1]? = some (.cells #[.slice none 0 0, .int .i64 0] 83 (0, 0)) := (hB1.block _ (by simp)).trans (heap2 _ _ _)
  have m0 : w1.cell? ⟨w.heap.size + 1, 0, none⟩ = some (.slice none 0 0) := cell_of_row w1 _ 0 _ _ _ hbx
  have m1 : w1.cell? ⟨w.heap.size + 1, 1, none⟩ = some (.int .i64 0) := cell_of_row w1 _ 1 _ _ _ hbx
  have g0 : w1.frozen? ⟨w.heap.size + 1, 0, none⟩ = false := frozen_of_row w1 _ 0 _ _ hbx
  have g1 : w1.frozen? ⟨w.heap.size + 1, 1, none⟩ = false := frozen_of_row w1 _ 1 _ _ hbx
  have hlt1 : w.heap.size + 1 < w1.heap.size := (Array.getElem?_eq_some_iff.1 hbx).1
  have hlt0 : w.heap.size < w1.heap.size := by omega
  have hne1 : ¬ w.heap.size + 1 = w1.heap.size := by omega
  have hB1w : Below w.heap.size w w1 := hB0.trans (hB1.mono hB0.size)
  have HBx := Lib.hid hbx
  have HR1 := Lib.hid hr1
  have HB1 := Lib.hid hb1
  have HBw := Lib.hid hB1w
  clear hr1 hb1 hB1 hB1w hB0 hbx
  cases ok with
  | false =>
    have hk := HN.out rfl
    have e1 : (s1.e != 0) = true := by simpa using hk.1
    have hu : s.upto n most = (s1, 0) := by rw [HU.out, if_pos rfl]
    have HV := Lib.hid hu
    clear hk hu
    go_wp2_with fail
    refine bodyPost_ret (ret_ri rfl (by rfl) (alloc_keeps (set_block _ (set_block _ HBx.out)) _)) rfl ?_
    rw [HV.out]
    exact ⟨A1, c1, rfl, HR1.out, ((HBw.out.setCell (Nat.le_succ _) _).setCell (Nat.le_succ _) _).alloc (by simp; omega) _⟩
  | true =>
    have hk := HK.out rfl
    have e1 : (s1.e != 0) = false := by simpa using hk.1
    have p3 := fun w' (hB : Below w0.heap.size w0 w') => rnum_any A2 c2 out w' (HB1.out.below hB) (by omega)
    obtain ⟨z, hz⟩ : ∃ z : Int, z = (num out : Int) := ⟨_, rfl⟩
    rw [← hz] at p3
    have P3 := Lib.hid p3
    have HZ := Lib.hid hz
    have HE := Lib.hid hk.1
    clear hk hz p3
    by_cases hm : most < z
    · have t2 : decide (most < z) = true := by simpa using hm
      have hu : s.upto n most = (⟨[], 4⟩, 0) := by rw [HU.out, if_neg (by simp), if_pos (by rw [← HZ.out]; exact hm)]
      have HV := Lib.hid hu
      clear hu hm
      have hB2 : Below w0.heap.size w0 (w1.alloc (.cells #[.slice A1 s1.b.length c1, .int .i64 s1.e] 83)) := (hw.trans (HBw.out.mono hw.size)).alloc (Nat.le_trans hw.size HBw.out.size) _
      go_wp2_with fail
      refine (P3.out _ hB2).mono ?_
      rintro e w3 ⟨rfl, rfl⟩
      have PF := Lib.hid (fun w => rfail_any A1 s1.b.length c1 4 w)
      rw [HE.out]
      go_wp2_with fail
      refine (PF.out _).mono ?_
      rintro e w4 ⟨rfl, hB4⟩
      have hb4 : w4.heap[w.heap.size + 1]? = some (.cells #[.slice none 0 0, .int .i64 0] 83 (0, 0)) := (hB4.block _ (by simp; omega)).trans (alloc_keeps HBx.out _)
      have x0 : w4.cell? ⟨w.heap.size + 1, 0, none⟩ = some (.slice none 0 0) := cell_of_row w4 _ 0 _ _ _ hb4
      have x1 : w4.cell? ⟨w.heap.size + 1, 1, none⟩ = some (.int .i64 0) := cell_of_row w4 _ 1 _ _ _ hb4
      have y0 : w4.frozen? ⟨w.heap.size + 1, 0, none⟩ = false := frozen_of_row w4 _ 0 _ _ hb4
      have y1 : w4.frozen? ⟨w.heap.size + 1, 1, none⟩ = false := frozen_of_row w4 _ 1 _ _ hb4
      have hB4w : Below w.heap.size w w4 := (HBw.out.alloc (by omega) _).trans (hB4.mono (by simp; omega))
      have HB4 := Lib.hid hb4
      clear hB4 hb4
      go_wp2_with fail
      refine bodyPost_ret (ret_ri rfl (by rfl) (set_block _ (set_block _ HB4.out))) rfl ?_
      rw [HV.out]
      exact ⟨none, 0, rfl, RI.fresh _ 4, (hB4w.setCell (Nat.le_succ _) _).setCell (Nat.le_succ _) _⟩
    · have t2 : decide (most < z) = false := by simpa using hm
      have hu : s.upto n most = (s1, z) := by rw [HU.out, if_neg (by simp), if_neg (by rw [← HZ.out]; exact hm), ← HZ.out]
      have HV := Lib.hid hu
      clear hu hm
      have hB2 : Below w0.heap.size w0 (w1.alloc (.cells #[.slice A1 s1.b.length c1, .int .i64 s1.e] 83)) := (hw.trans (HBw.out.mono hw.size)).alloc (Nat.le_trans hw.size HBw.out.size) _
      go_wp2_with fail
      refine (P3.out _ hB2).mono ?_
      rintro e w3 ⟨rfl, rfl⟩
      go_wp2_with fail
      have fin : ∀ W', Below w.heap.size w W' → ToldRU (s.upto n most) w0 w (.returned (.tuple #[ri A1 s1.b.length c1 s1.e, .int .u64 z])) W' := fun W' hB => by
        rw [HV.out]
        exact ⟨A1, c1, rfl, HR1.out, hB⟩
      have HFin := Lib.hid fin
      clear fin
      first | go_region_with (go_at_call 67; refine (P3.out _ (by first | exact hB2 | exact hB2.drew)).mono ?_; rintro e w4 ⟨rfl, rfl⟩) | fail
      all_goals
        go_wp2_with fail
        refine bodyPost_ret (ret_ri rfl (by rfl) (alloc_keeps (set_block _ (set_block _ HBx.out)) _)) rfl ?_
        exact HFin.out _ (((HBw.out.setCell (Nat.le_succ _) _).setCell (Nat.le_succ _) _).alloc (by simp; omega) _).drew
end Go.Proofs.Ytjdpljhhlmcbaaa
