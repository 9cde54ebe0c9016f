/- Bytes that are read: the contracts of the program's Raw, Text, Err, Done. Condition: lengths within a slice's. -/
import Derived.Test.YtjdpljhhlmcbaaaFixGet
namespace Go.Cat
open Go.RowKit
theorem IS.next_out_le (s : IS) (n : Nat) : (s.next n).2.1.length ≤ n := by
  unfold IS.next
  split
  · exact Nat.zero_le _
  · split
    · exact Nat.zero_le _
    · show (s.b.take n).length ≤ n
      rw [List.length_take]; omega
theorem num2_le {bs : List UInt8} (h : bs.length = 2) : num bs ≤ 65535 := by
  have := num_lt bs
  rw [h] at this
  omega
end Go.Cat
namespace Go.Proofs.Ytjdpljhhlmcbaaa
open Go.RowKit Go.Cat

/-- A call that reads bytes: they lie in new memory. -/
def ToldB (g : Nat) (s : IS) (out : List UInt8) (w : World) (e : Ending) (w' : World) : Prop :=
  ∃ A c, e = .returned (.slice A out.length c) ∧ w'.ownsRow w.heap.size 5 1 (.slice A out.length c) out.length (out.map by8) ∧ InF g s w' ∧ Tch (fun k => k = g) w w'

set_option maxRecDepth 100000 in
theorem inraw_any (g : Nat) (s : IS) (n : Nat) (w : World) (h : InF g s w) (hn : n ≤ 65535) :
    Calls Try.prog 63 #[.pointer (some ⟨g, 0, none⟩), .int .i64 (n : Int)] w (ToldB g (s.next n).1 (s.next n).2.1 w) := by
  have p1 := next_any g s n w h (by omega)
  have hol := IS.next_out_le s n
  have hbo : (s.next n).2.2 = false → (s.next n).2.1 = [] := by
    unfold IS.next
    intro h
    split at h
    · rename_i h1; rw [if_pos h1]
    · rename_i h1
      split at h
      · rename_i h2; rw [if_neg h1, if_pos h2]
      · cases h
  obtain ⟨s1, hs1⟩ : ∃ s1, s1 = (s.next n).1 := ⟨_, rfl⟩
  obtain ⟨out, hout⟩ : ∃ out, out = (s.next n).2.1 := ⟨_, rfl⟩
  obtain ⟨ok, hok⟩ : ∃ ok, ok = (s.next n).2.2 := ⟨_, rfl⟩
  rw [← hs1, ← hout, ← hok] at p1
  rw [← hout] at hol
  rw [← hout, ← hok] at hbo
  rw [← hs1, ← hout]
  have P1 := Lib.hid p1
  have HBo := Lib.hid hbo
  have d1 : decide ((n : Int) < 0) = false := by simp
  have hmx : max (n : Int) 0 = (n : Int) := by omega
  have hmx2 : max 0 (n : Int) = (n : Int) := by omega
  clear p1 h hs1 hout hok hbo
  go_enter Try.func63, Try.ntmps63
  go_wp2_with fail
  refine (P1.out).mono ?_
  rintro e w2 ⟨A2, c2, rfl, hb2, hne2, hi2, ht2⟩
  cases ok with
  | false =>
    obtain rfl := HBo.out rfl
    have HI := Lib.hid hi2
    have HT := Lib.hid ht2
    clear hb2 hne2 hi2 ht2
    go_wp2_with fail
    go_ret
    exact ⟨none, 0, rfl, World.ownsRow_nil _ _ _ _, HI.out, HT.out⟩
  | true =>
    have p3 := clones_any A2 out.length c2 out w2 hb2 rfl (by omega)
    have P3 := Lib.hid p3
    have HI := Lib.hid hi2
    have HT := Lib.hid ht2
    clear p3 hb2 hne2 hi2 ht2
    go_wp2_with fail
    refine (P3.out).mono ?_
    rintro e w3 ⟨A3, c3, rfl, ho3, hB3⟩
    have HO3 := Lib.hid (own_mono ho3 HT.out.size)
    have HI3 := Lib.hid (HI.out.touch hB3)
    have HT3 := Lib.hid (HT.out.trans ((Tch.of_below (K := fun k => k = g) hB3).mono fun k _ h => h))
    clear ho3 hB3
    go_wp2_with fail
    go_ret
    exact ⟨A3, c3, rfl, HO3.out, HI3.out, HT3.out⟩

set_option maxRecDepth 100000 in
theorem intext_any (g : Nat) (s : IS) (most : Int) (w : World) (h : InF g s w) :
    Calls Try.prog 37 #[.pointer (some ⟨g, 0, none⟩), .int .i64 most] w (ToldB g (s.text most).1 (s.text most).2 w) := by
  have p1 := next_any g s 2 w h (by omega)
  have hu : s.text most = if (s.next 2).2.2 = false then ((s.next 2).1, []) else if most < (num (s.next 2).2.1 : Int) then (⟨[], 6⟩, []) else (((s.next 2).1.next (num (s.next 2).2.1)).1, ((s.next 2).1.next (num (s.next 2).2.1)).2.1) := rfl
  have hnk := IS.next_ok (s := s) (n := 2)
  obtain ⟨s1, hs1⟩ : ∃ s1, s1 = (s.next 2).1 := ⟨_, rfl⟩
  obtain ⟨out, hout⟩ : ∃ out, out = (s.next 2).2.1 := ⟨_, rfl⟩
  obtain ⟨ok, hok⟩ : ∃ ok, ok = (s.next 2).2.2 := ⟨_, rfl⟩
  rw [← hs1, ← hout, ← hok] at p1 hnk hu
  have P1 := Lib.hid p1
  have HU := Lib.hid hu
  have HK := Lib.hid hnk
  clear p1 h hs1 hout hok hu hnk
  go_enter Try.func37, Try.ntmps37
  go_wp2_with fail
  refine (P1.out).mono ?_
  rintro e w2 ⟨A2, c2, rfl, hb2, hne2, hi2, ht2⟩
  cases ok with
  | false =>
    have hu : s.text most = (s1, []) := by rw [HU.out, if_pos rfl]
    have HV := Lib.hid hu
    have HI := Lib.hid hi2
    have HT := Lib.hid ht2
    clear hu hb2 hne2 hi2 ht2
    go_wp2_with fail
    go_ret
    rw [HV.out]
    exact ⟨none, 0, rfl, World.ownsRow_nil _ _ _ _, HI.out, HT.out⟩
  | true =>
    have hk := HK.out rfl
    have hz5 := num2_le hk.2
    have p3 := number_any A2 c2 out w2 hb2 (by omega)
    obtain ⟨z, hz⟩ : ∃ z, z = num out := ⟨_, rfl⟩
    rw [← hz] at p3 hz5
    have P3 := Lib.hid p3
    have HZ := Lib.hid hz
    have hfl := infail_any g s1 6 w2 hi2
    rw [if_pos hk.1] at hfl
    have PF := Lib.hid hfl
    have p4 := inraw_any g s1 z w2 hi2 hz5
    have P4 := Lib.hid p4
    have HT := Lib.hid ht2
    have hwz : IntKind.i64.wrap (z : Int) = (z : Int) := IntWalk.i64_in _ (by omega)
    clear p3 hb2 hne2 hi2 ht2 hz hfl hk p4
    by_cases hm : most < (z : Int)
    · have d2 : decide (most < (z : Int)) = true := by simpa using hm
      have hu : s.text most = (⟨[], 6⟩, []) := by rw [HU.out, if_neg (by simp), if_pos (by rw [← HZ.out]; exact hm)]
      have HV := Lib.hid hu
      clear hu hm
      go_wp2_with fail
      refine (P3.out).mono ?_
      rintro e w3 ⟨rfl, rfl⟩
      go_wp2_with fail
      refine (PF.out).mono ?_
      rintro e w4 ⟨⟨v, rfl⟩, hi4, ht4⟩
      have HI4 := Lib.hid hi4
      have HT4 := Lib.hid (HT.out.trans (ht4.mono fun k _ h => h))
      clear hi4 ht4
      go_wp2_with fail
      go_ret
      rw [HV.out]
      exact ⟨none, 0, rfl, World.ownsRow_nil _ _ _ _, HI4.out, HT4.out⟩
    · have d2 : decide (most < (z : Int)) = false := by simpa using hm
      have hu : s.text most = ((s1.next z).1, (s1.next z).2.1) := by rw [HU.out, if_neg (by simp), if_neg (by rw [← HZ.out]; exact hm), ← HZ.out]
      have HV := Lib.hid hu
      clear hu hm
      go_wp2_with fail
      refine (P3.out).mono ?_
      rintro e w3 ⟨rfl, rfl⟩
      go_wp2_with fail
      refine (P4.out).mono ?_
      rintro e w4 ⟨A4, c4, rfl, ho4, hi4, ht4⟩
      have HO4 := Lib.hid (own_mono ho4 HT.out.size)
      have HI4 := Lib.hid hi4
      have HT4 := Lib.hid (HT.out.trans (ht4.mono fun k _ h => h))
      clear ho4 hi4 ht4
      go_wp2_with fail
      go_ret
      rw [HV.out]
      exact ⟨A4, c4, rfl, HO4.out, HI4.out, HT4.out⟩

theorem inerr_any (g : Nat) (s : IS) (w : World) (h : InF g s w) :
    Calls Try.prog 64 #[.pointer (some ⟨g, 0, none⟩)] w fun e w' => e = .returned (.int .i64 s.e) ∧ w = w' := by
  obtain ⟨A, c, h1, _⟩ := h.ex
  have c1 : w.cell? ⟨g, 1, none⟩ = some (.int .i64 s.e) := cell_of_row w g 1 _ _ _ h1
  clear h h1
  go_enter Try.func64, Try.ntmps64
  go_wp2_with fail
  go_ret
  exact ⟨rfl, rfl⟩

theorem indone_any (g : Nat) (s : IS) (w : World) (h : InF g s w) :
    Calls Try.prog 38 #[.pointer (some ⟨g, 0, none⟩)] w fun e w' => e = .returned (.int .i64 s.done) ∧ w = w' := by
  have p1 := inerr_any g s w h
  obtain ⟨A, c, h1, _⟩ := h.ex
  have c0 : w.cell? ⟨g, 0, none⟩ = some (.slice A s.b.length c) := cell_of_row w g 0 _ _ _ h1
  have P1 := Lib.hid p1
  have hd : s.done = if s.e ≠ 0 then s.e else if 0 < s.b.length then 4 else 0 := rfl
  clear h h1 p1
  by_cases he : s.e = 0
  · have d : (s.e != 0) = false := by simpa using he
    by_cases hl : 0 < s.b.length
    · have d2 : decide (0 < s.b.length) = true := by simpa using hl
      rw [if_neg (by simpa using he), if_pos hl] at hd
      have HD := Lib.hid hd
      clear hd he hl
      go_enter Try.func38, Try.ntmps38
      go_wp2_with fail
      refine (P1.out).mono ?_
      rintro e w' ⟨rfl, rfl⟩
      go_wp2_with fail
      go_ret
      rw [HD.out]
      exact ⟨rfl, rfl⟩
    · have d2 : decide (0 < s.b.length) = false := by simpa using hl
      rw [if_neg (by simpa using he), if_neg hl] at hd
      have HD := Lib.hid hd
      clear hd he hl
      go_enter Try.func38, Try.ntmps38
      go_wp2_with fail
      refine (P1.out).mono ?_
      rintro e w' ⟨rfl, rfl⟩
      go_wp2_with fail
      go_ret
      rw [HD.out]
      exact ⟨rfl, rfl⟩
  · have d : (s.e != 0) = true := by simpa using he
    rw [if_pos (by simpa using he)] at hd
    have HD := Lib.hid hd
    clear hd he
    go_enter Try.func38, Try.ntmps38
    go_wp2_with fail
    refine (P1.out).mono ?_
    rintro e w' ⟨rfl, rfl⟩
    go_wp2_with fail
    go_ret
    rw [HD.out]
    exact ⟨rfl, rfl⟩
end Go.Proofs.Ytjdpljhhlmcbaaa
