/- Bytes that are read, the reference's: the contract of Read. Condition: lengths within a slice's. -/
import Derived.Test.YtjdpljhhlmcbaaaRefRead
namespace Go.Proofs.Ytjdpljhhlmcbaaa
open Go.RowKit Go.Cat

set_option maxRecDepth 100000 in
theorem rread_any (s : IS) (A : Option Addr) (c : Nat) (most : Int) (w0 w : World) (h : RI s A c w0) (hw : Below w0.heap.size w0 w) :
    Calls Try.prog 41 #[ri A s.b.length c s.e, .int .i64 most] w (ToldRR (s.text most).1 (s.text most).2 w0 w) := by
  have hB0 := below2 w (.cells #[.slice A s.b.length c, .int .i64 s.e] 83) (.cells #[.slice none 0 0, .int .i64 0] 83)
  have p1 := fun w' (hB : Below w.heap.size w w') => rget_any s A c 2 w0 w' h (hw.trans (hB.mono hw.size)) (by omega) (by omega)
  have hu : s.text most = if (s.next 2).2.2 = false then ((s.next 2).1, []) else if most < (num (s.next 2).2.1 : Int) then (⟨[], 6⟩, []) else (((s.next 2).1.next (num (s.next 2).2.1)).1, ((s.next 2).1.next (num (s.next 2).2.1)).2.1) := rfl
  have hup : s.upto 2 18446744073709551615 = if (s.next 2).2.2 = false then ((s.next 2).1, 0) else if (18446744073709551615 : Int) < (num (s.next 2).2.1 : Int) then (⟨[], 4⟩, 0) else ((s.next 2).1, (num (s.next 2).2.1 : Int)) := rfl
  have hnk := IS.next_ok (s := s) (n := 2)
  have hnn := IS.next_not (s := s) (n := 2)
  obtain ⟨s1, hs1⟩ : ∃ s1, s1 = (s.next 2).1 := ⟨_, rfl⟩
  obtain ⟨out, hout⟩ : ∃ out, out = (s.next 2).2.1 := ⟨_, rfl⟩
  obtain ⟨ok, hok⟩ : ∃ ok, ok = (s.next 2).2.2 := ⟨_, rfl⟩
  rw [← hs1, ← hout, ← hok] at hnk hnn hu hup
  have HU := Lib.hid hu
  obtain ⟨z, hz⟩ : ∃ z, z = (if ok = false then 0 else num out) := ⟨_, rfl⟩
  have hz5 : z ≤ 65535 := by
    rw [hz]
    split
    · omega
    · exact num2_le (hnk (by simpa using ‹¬ok = false›)).2
  have hup2 : s.upto 2 18446744073709551615 = (s1, (z : Int)) := by
    rw [hup, hz]
    split
    · rfl
    · rename_i h1
      have := num2_le (hnk (by simpa using h1)).2
      rw [if_neg (by omega)]
  rw [hup2] at p1
  have P1 := Lib.hid p1
  have HK := Lib.hid hnk
  have HN := Lib.hid hnn
  have HZ := Lib.hid hz
  have hwz : IntKind.i64.wrap (z : Int) = (z : Int) := IntWalk.i64_in _ (by omega)
  clear p1 h hs1 hout hok hu hup hup2 hnk hnn hz
  go_enter Try.func41, Try.ntmps41
  go_wp2_with fail
  refine (P1.out _ hB0).mono ?_
  rintro e w1 ⟨A1, c1, rfl, hr1, hB1⟩
  have hbx : w1.heap[w.heap.size + 1]? = some (.cells #[.slice none 0 0, .int .i64 0] 83 (0, 0)) := (hB1.block _ (by simp)).trans (heap2 _ _ _)
  have m0 : w1.cell? ⟨w.heap.size + 1, 0, none⟩ = some (.slice none 0 0) := cell_of_row w1 _ 0 _ _ _ hbx
  have m1 : w1.cell? ⟨w.heap.size + 1, 1, none⟩ = some (.int .i64 0) := cell_of_row w1 _ 1 _ _ _ hbx
  have g0 : w1.frozen? ⟨w.heap.size + 1, 0, none⟩ = false := frozen_of_row w1 _ 0 _ _ hbx
  have g1 : w1.frozen? ⟨w.heap.size + 1, 1, none⟩ = false := frozen_of_row w1 _ 1 _ _ hbx
  have hlt1 : w.heap.size + 1 < w1.heap.size := (Array.getElem?_eq_some_iff.1 hbx).1
  have hlt0 : w.heap.size < w1.heap.size := by omega
  have hne1 : ¬ w.heap.size + 1 = w1.heap.size := by omega
  have hB1w : Below w.heap.size w w1 := hB0.trans (hB1.mono hB0.size)
  have HBx := Lib.hid hbx
  have HR1 := Lib.hid hr1
  have HBw := Lib.hid hB1w
  clear hr1 hB1 hB1w hB0 hbx
  cases ok with
  | false =>
    have hk := HN.out rfl
    have e1 : (s1.e != 0) = true := by simpa using hk.1
    have hu : s.text most = (s1, []) := by rw [HU.out, if_pos rfl]
    have HV := Lib.hid hu
    clear hk hu
    go_wp2_with fail
    refine bodyPost_ret (ret_ri rfl (by rfl) (alloc_keeps (set_block _ (set_block _ HBx.out)) _)) rfl ?_
    rw [HV.out]
    exact ⟨A1, c1, none, 0, rfl, HR1.out, .inl rfl, ((HBw.out.setCell (Nat.le_succ _) _).setCell (Nat.le_succ _) _).alloc (by simp; omega) _⟩
  | true =>
    have hk := HK.out rfl
    have e1 : (s1.e != 0) = false := by simpa using hk.1
    have hz2 : z = num out := by rw [HZ.out]; rfl
    have HZ2 := Lib.hid hz2
    have HE := Lib.hid hk.1
    clear hk hz2
    by_cases hm : most < (z : Int)
    · have t2 : decide (most < (z : Int)) = true := by simpa using hm
      have hu : s.text most = (⟨[], 6⟩, []) := by rw [HU.out, if_neg (by simp), if_pos (by rw [← HZ2.out]; exact hm)]
      have HV := Lib.hid hu
      have PF := Lib.hid (fun w => rfail_any A1 s1.b.length c1 6 w)
      rw [HE.out]
      clear hu hm
      go_wp2_with fail
      refine (PF.out _).mono ?_
      rintro e w4 ⟨rfl, hB4⟩
      have hb4 : w4.heap[w.heap.size + 1]? = some (.cells #[.slice none 0 0, .int .i64 0] 83 (0, 0)) := (hB4.block _ (by simp; omega)).trans (alloc_keeps HBx.out _)
      have x0 : w4.cell? ⟨w.heap.size + 1, 0, none⟩ = some (.slice none 0 0) := cell_of_row w4 _ 0 _ _ _ hb4
      have x1 : w4.cell? ⟨w.heap.size + 1, 1, none⟩ = some (.int .i64 0) := cell_of_row w4 _ 1 _ _ _ hb4
      have y0 : w4.frozen? ⟨w.heap.size + 1, 0, none⟩ = false := frozen_of_row w4 _ 0 _ _ hb4
      have y1 : w4.frozen? ⟨w.heap.size + 1, 1, none⟩ = false := frozen_of_row w4 _ 1 _ _ hb4
      have hB4w : Below w.heap.size w w4 := (HBw.out.alloc (by omega) _).trans (hB4.mono (by simp; omega))
      have HB4 := Lib.hid hb4
      clear hB4 hb4
      go_wp2_with fail
      refine bodyPost_ret (ret_ri rfl (by rfl) (set_block _ (set_block _ HB4.out))) rfl ?_
      rw [HV.out]
      exact ⟨none, 0, none, 0, rfl, RI.fresh _ 6, .inl rfl, (hB4w.setCell (Nat.le_succ _) _).setCell (Nat.le_succ _) _⟩
    · have t2 : decide (most < (z : Int)) = false := by simpa using hm
      have hu : s.text most = ((s1.next z).1, (s1.next z).2.1) := by rw [HU.out, if_neg (by simp), if_neg (by rw [← HZ2.out]; exact hm), ← HZ2.out]
      have HV := Lib.hid hu
      have p4 := fun w' => rraw_any s1 A1 c1 z w0 w' HR1.out (by omega)
      have P4 := Lib.hid p4
      clear hu hm p4
      go_wp2_with fail
      refine (P4.out _).mono ?_
      rintro e w4 ⟨A4, c4, A5, c5, rfl, hr4, hb5, hB4⟩
      have hb4 : w4.heap[w.heap.size + 1]? = some (.cells #[.slice none 0 0, .int .i64 0] 83 (0, 0)) := (hB4.block _ (by simp; omega)).trans (alloc_keeps HBx.out _)
      have x0 : w4.cell? ⟨w.heap.size + 1, 0, none⟩ = some (.slice none 0 0) := cell_of_row w4 _ 0 _ _ _ hb4
      have x1 : w4.cell? ⟨w.heap.size + 1, 1, none⟩ = some (.int .i64 0) := cell_of_row w4 _ 1 _ _ _ hb4
      have y0 : w4.frozen? ⟨w.heap.size + 1, 0, none⟩ = false := frozen_of_row w4 _ 0 _ _ hb4
      have y1 : w4.frozen? ⟨w.heap.size + 1, 1, none⟩ = false := frozen_of_row w4 _ 1 _ _ hb4
      have hB4w : Below w.heap.size w w4 := (HBw.out.alloc (by omega) _).trans (hB4.mono (by simp; omega))
      have HB4 := Lib.hid hb4
      have HR4 := Lib.hid hr4
      have HB5 := Lib.hid hb5
      clear hB4 hb4 hr4 hb5
      go_wp2_with fail
      refine bodyPost_ret (ret_ri rfl (by rfl) (set_block _ (set_block _ HB4.out))) rfl ?_
      rw [HV.out]
      exact ⟨A4, c4, A5, c5, rfl, HR4.out, HB5.out, (hB4w.setCell (Nat.le_succ _) _).setCell (Nat.le_succ _) _⟩
end Go.Proofs.Ytjdpljhhlmcbaaa
