/- Bytes that are read: the contracts of the program's Of, Upto, Get, Raw, Text, Err, Done. Condition: lengths within a slice's; widths 1 to 8. -/
import Derived.Test.YtjdpljhhlmcbaaaFixIn
namespace Go.Cat
open Go.RowKit
/-- A number of that width that is not above another one. -/
def IS.upto (s : IS) (width : Nat) (most : Int) : IS × Int :=
  if (s.next width).2.2 = false then ((s.next width).1, 0) else if most < (num (s.next width).2.1 : Int) then (⟨[], 4⟩, 0) else ((s.next width).1, (num (s.next width).2.1 : Int))
/-- A text that is not above a length. -/
def IS.text (s : IS) (most : Int) : IS × List UInt8 :=
  if (s.next 2).2.2 = false then ((s.next 2).1, []) else if most < (num (s.next 2).2.1 : Int) then (⟨[], 6⟩, []) else (((s.next 2).1.next (num (s.next 2).2.1)).1, ((s.next 2).1.next (num (s.next 2).2.1)).2.1)
def IS.done (s : IS) : Int := if s.e ≠ 0 then s.e else if 0 < s.b.length then 4 else 0
theorem IS.next_bad {s : IS} (hb : s.e ≠ 0 → s.b = []) (n : Nat) (h : s.e ≠ 0) : s.next n = (s, [], false) := by
  unfold IS.next
  rw [if_pos h]
  have := hb h
  cases s
  simp_all
theorem IS.next_ok {s : IS} {n : Nat} (h : (s.next n).2.2 = true) : (s.next n).1.e = 0 ∧ (s.next n).2.1.length = n := by
  unfold IS.next at h ⊢
  split at h
  · cases h
  · rename_i h1
    split at h
    · cases h
    · rename_i h2
      rw [if_neg h1, if_neg h2]
      exact ⟨rfl, by show (s.b.take n).length = n; rw [List.length_take]; omega⟩
end Go.Cat
namespace Go.Proofs.Ytjdpljhhlmcbaaa
open Go.RowKit Go.Cat

theorem known_ok (n : Nat) (w : World) (h1 : 1 ≤ n) (h2 : n ≤ 8) : Calls Try.prog 59 #[.int .i64 (n : Int)] w fun e w' => e = .returned (.bool true) ∧ w = w' := by
  have d1 : decide (1 ≤ n) = true := by simpa using h1
  have d1' : decide ((1 : Int) ≤ (n : Int)) = true := by simp; omega
  have d2 : decide ((n : Int) ≤ 8) = true := by simp; omega
  have d0 : decide (0 < n) = true := by simp; omega
  clear h1 h2
  go_enter Try.func59, Try.ntmps59
  go_wp2_with fail
  go_ret
  exact ⟨by simp [*], rfl⟩

theorem of_any (A : Option Addr) (c : Nat) (bs : List UInt8) (w : World) (hb : Bytes w A bs) (hm : bs.length ≤ 140737488355328) :
    Calls Try.prog 34 #[.slice A bs.length c] w fun e w' => ∃ g, e = .returned (.pointer (some ⟨g, 0, none⟩)) ∧ w.heap.size ≤ g ∧ InF g ⟨bs, 0⟩ w' ∧ Below w.heap.size w w' := by
  have p1 := clones_any A bs.length c bs w hb rfl hm
  have P1 := Lib.hid p1
  clear p1 hb
  go_enter Try.func34, Try.ntmps34
  go_wp2_with fail
  refine (P1.out).mono ?_
  rintro e w1 ⟨A', c', rfl, ho, hB⟩
  have hfin : InF w1.heap.size ⟨bs, 0⟩ (w1.alloc (.cells #[.slice A' bs.length c', .int .i64 0] 106)) := by
    have hB1 : Below w1.heap.size w1 (w1.alloc (.cells #[.slice A' bs.length c', .int .i64 0] 106)) := (Below.refl _ _).alloc (Nat.le_refl _) _
    have hs : Bytes w1 A' bs := Sees.of_own ho
    obtain ⟨A2, c2, he, h1, h2⟩ := own_full ho
    injection he with e1 _ e2
    subst e1 e2
    refine ⟨fun h => absurd rfl h, A', c', heap_alloc_new _ _, hs.below hB1, h1, h2, fun h => ?_, fun a h => ?_⟩
    · rcases ho.2 with ⟨hv, _⟩ | ⟨g', cap, cur, hv, _⟩
      · injection hv
      · injection hv with hv
        rw [h] at hv
        cases hv
    · rcases ho.2 with ⟨hv, _⟩ | ⟨g', cap, cur, hv, _, hh, _⟩
      · injection hv with hv
        rw [h] at hv
        cases hv
      · injection hv with hv
        rw [h] at hv
        injection hv with hv
        subst hv
        have := (Array.getElem?_eq_some_iff.1 hh).1
        show g' < w1.heap.size
        omega
  have HF := Lib.hid hfin
  have hB2 := hB.alloc (Nat.le_trans (Nat.le_refl _) hB.size) (.cells #[.slice A' bs.length c', .int .i64 0] 106)
  have hsz := hB.size
  clear ho hfin hB
  go_wp2_with fail
  go_ret
  exact ⟨_, rfl, hsz, HF.out, hB2⟩

/-- A call that reads a number. -/
def ToldU (g : Nat) (r : IS × Int) (w : World) (e : Ending) (w' : World) : Prop := e = .returned (.int .u64 r.2) ∧ InF g r.1 w' ∧ Tch (fun k => k = g) w w'

set_option maxRecDepth 100000 in
theorem upto_any (g : Nat) (s : IS) (n : Nat) (most : Int) (w : World) (h : InF g s w) (hn1 : 1 ≤ n) (hn8 : n ≤ 8) :
    Calls Try.prog 35 #[.pointer (some ⟨g, 0, none⟩), .int .i64 (n : Int), .int .u64 most] w (ToldU g (s.upto n most) w) := by
  obtain ⟨A, c, h1, _⟩ := h.ex
  have c1 : w.cell? ⟨g, 1, none⟩ = some (.int .i64 s.e) := cell_of_row w g 1 _ _ _ h1
  have hbad := h.bad
  have HH := Lib.hid h
  by_cases he : s.e = 0
  · have d : (s.e != 0) = false := by simpa using he
    have p1 := known_ok n w hn1 hn8
    have p2 := next_any g s n w h (by omega)
    have hnk := IS.next_ok (s := s) (n := n)
    have hu : s.upto n most = if (s.next n).2.2 = false then ((s.next n).1, 0) else if most < (num (s.next n).2.1 : Int) then (⟨[], 4⟩, 0) else ((s.next n).1, (num (s.next n).2.1 : Int)) := rfl
    obtain ⟨s1, hs1⟩ : ∃ s1, s1 = (s.next n).1 := ⟨_, rfl⟩
    obtain ⟨out, hout⟩ : ∃ out, out = (s.next n).2.1 := ⟨_, rfl⟩
    obtain ⟨ok, hok⟩ : ∃ ok, ok = (s.next n).2.2 := ⟨_, rfl⟩
    rw [← hs1, ← hout, ← hok] at p2 hnk hu
    have P1 := Lib.hid p1
    have P2 := Lib.hid p2
    have HU := Lib.hid hu
    have HK := Lib.hid hnk
    clear h h1 hbad he p1 p2 hnk hu hs1 hout hok
    go_enter Try.func35, Try.ntmps35
    go_wp2_with fail
    refine (P1.out).mono ?_
    rintro e w' ⟨rfl, rfl⟩
    go_wp2_with fail
    refine (P2.out).mono ?_
    rintro e w2 ⟨A2, c2, rfl, hb2, hne2, hi2, ht2⟩
    cases ok with
    | false =>
      have hu : s.upto n most = (s1, 0) := by rw [HU.out, if_pos rfl]
      have HV := Lib.hid hu
      have HI := Lib.hid hi2
      have HT := Lib.hid ht2
      clear hu hb2 hne2 hi2 ht2
      go_wp2_with fail
      go_ret
      rw [HV.out]
      exact ⟨rfl, HI.out, HT.out⟩
    | true =>
      have hk := HK.out rfl
      have p3 := number_any A2 c2 out w2 hb2 (by omega)
      have P3 := Lib.hid p3
      obtain ⟨z, hz⟩ : ∃ z : Int, z = (num out : Int) := ⟨_, rfl⟩
      rw [← hz] at P3
      have HZ := Lib.hid hz
      have hfl := infail_any g s1 4 w2 hi2
      rw [if_pos hk.1] at hfl
      have PF := Lib.hid hfl
      have HI := Lib.hid hi2
      have HT := Lib.hid ht2
      clear p3 hb2 hne2 hi2 ht2 hz hfl hk
      by_cases hm : most < z
      · have d2 : decide (most < z) = true := by simpa using hm
        have hu : s.upto n most = (⟨[], 4⟩, 0) := by rw [HU.out, if_neg (by simp), if_pos (by rw [← HZ.out]; exact hm)]
        have HV := Lib.hid hu
        clear hu hm
        go_wp2_with fail
        refine (P3.out).mono ?_
        rintro e w3 ⟨rfl, rfl⟩
        go_wp2_with fail
        refine (PF.out).mono ?_
        rintro e w4 ⟨⟨v, rfl⟩, hi4, ht4⟩
        have HI4 := Lib.hid hi4
        have HT4 := Lib.hid (HT.out.trans (ht4.mono fun k _ h => h))
        clear hi4 ht4
        go_wp2_with fail
        go_ret
        rw [HV.out]
        exact ⟨rfl, HI4.out, HT4.out⟩
      · have d2 : decide (most < z) = false := by simpa using hm
        have hu : s.upto n most = (s1, z) := by rw [HU.out, if_neg (by simp), if_neg (by rw [← HZ.out]; exact hm), ← HZ.out]
        have HV := Lib.hid hu
        clear hu hm
        go_wp2_with fail
        refine (P3.out).mono ?_
        rintro e w3 ⟨rfl, rfl⟩
        go_wp2_with fail
        go_ret
        rw [HV.out]
        exact ⟨rfl, HI.out, HT.out⟩
  · have d : (s.e != 0) = true := by simpa using he
    have hu : s.upto n most = (s, 0) := by unfold IS.upto; rw [IS.next_bad hbad n he]; rfl
    have HV := Lib.hid hu
    clear h h1 hbad he hu
    go_enter Try.func35, Try.ntmps35
    go_wp2_with fail
    go_ret
    rw [HV.out]
    exact ⟨rfl, HH.out, Tch.refl _ _⟩

theorem get_any (g : Nat) (s : IS) (n : Nat) (w : World) (h : InF g s w) (hn1 : 1 ≤ n) (hn8 : n ≤ 8) :
    Calls Try.prog 36 #[.pointer (some ⟨g, 0, none⟩), .int .i64 (n : Int)] w (ToldU g (s.upto n 18446744073709551615) w) := by
  have p1 := upto_any g s n 18446744073709551615 w h hn1 hn8
  have P1 := Lib.hid p1
  clear p1 h
  go_enter Try.func36, Try.ntmps36
  go_wp2_with fail
  refine (P1.out).mono ?_
  rintro e w' ⟨rfl, hi, ht⟩
  go_wp2_with fail
  go_ret
  exact ⟨rfl, hi, ht⟩
end Go.Proofs.Ytjdpljhhlmcbaaa
