/- Bytes that are read: the contract of the program's Text. Condition: lengths within a slice's. -/
import Derived.Test.YtjdpljhhlmcbaaaFixDone
import Derived.Test.YtjdpljhhlmcbaaaFixRaw
namespace Go.Cat
open Go.RowKit
theorem num2_le {bs : List UInt8} (h : bs.length = 2) : num bs ≤ 65535 := by
  have := num_lt bs
  rw [h] at this
  omega
end Go.Cat
namespace Go.Proofs.Ytjdpljhhlmcbaaa
open Go.RowKit Go.Cat

set_option maxRecDepth 100000 in
theorem intext_any (g : Nat) (s : IS) (most : Int) (w : World) (h : InF g s w) :
    Calls Try.prog 37 #[.pointer (some ⟨g, 0, none⟩), .int .i64 most] w (ToldB g (s.text most).1 (s.text most).2 w) := by
  have p1 := next_any g s 2 w h (by omega)
  have hu : s.text most = if (s.next 2).2.2 = false then ((s.next 2).1, []) else if most < (num (s.next 2).2.1 : Int) then (⟨[], 6⟩, []) else (((s.next 2).1.next (num (s.next 2).2.1)).1, ((s.next 2).1.next (num (s.next 2).2.1)).2.1) := rfl
  have hnk := IS.next_ok (s := s) (n := 2)
  obtain ⟨s1, hs1⟩ : ∃ s1, s1 = (s.next 2).1 := ⟨_, rfl⟩
  obtain ⟨out, hout⟩ : ∃ out, out = (s.next 2).2.1 := ⟨_, rfl⟩
  obtain ⟨ok, hok⟩ : ∃ ok, ok = (s.next 2).2.2 := ⟨_, rfl⟩
  rw [← hs1, ← hout, ← hok] at p1 hnk hu
  have P1 := Lib.hid p1
  have HU := Lib.hid hu
  have HK := Lib.hid hnk
  clear p1 h hs1 hout hok hu hnk
  go_enter Try.func37, Try.ntmps37
  go_wp2_with fail
  refine (P1.out).mono ?_
  rintro e w2 ⟨A2, c2, rfl, hb2, hne2, hi2, ht2⟩
  cases ok with
  | false =>
    have hu : s.text most = (s1, []) := by rw [HU.out, if_pos rfl]
    have HV := Lib.hid hu
    have HI := Lib.hid hi2
    have HT := Lib.hid ht2
    clear hu hb2 hne2 hi2 ht2
    go_wp2_with fail
    go_ret
    rw [HV.out]
    exact ⟨none, 0, rfl, World.ownsRow_nil _ _ _ _, HI.out, HT.out⟩
  | true =>
    have hk := HK.out rfl
    have hz5 := num2_le hk.2
    have p3 := number_any A2 c2 out w2 hb2 (by omega)
    obtain ⟨z, hz⟩ : ∃ z, z = num out := ⟨_, rfl⟩
    rw [← hz] at p3 hz5
    have P3 := Lib.hid p3
    have HZ := Lib.hid hz
    have hfl := infail_any g s1 6 w2 hi2
    rw [if_pos hk.1] at hfl
    have PF := Lib.hid hfl
    have p4 := inraw_any g s1 z w2 hi2 hz5
    have P4 := Lib.hid p4
    have HT := Lib.hid ht2
    have hwz : IntKind.i64.wrap (z : Int) = (z : Int) := IntWalk.i64_in _ (by omega)
    clear p3 hb2 hne2 hi2 ht2 hz hfl hk p4
    by_cases hm : most < (z : Int)
    · have d2 : decide (most < (z : Int)) = true := by simpa using hm
      have hu : s.text most = (⟨[], 6⟩, []) := by rw [HU.out, if_neg (by simp), if_pos (by rw [← HZ.out]; exact hm)]
      have HV := Lib.hid hu
      clear hu hm
      go_wp2_with fail
      refine (P3.out).mono ?_
      rintro e w3 ⟨rfl, rfl⟩
      go_wp2_with fail
      refine (PF.out).mono ?_
      rintro e w4 ⟨⟨v, rfl⟩, hi4, ht4⟩
      have HI4 := Lib.hid hi4
      have HT4 := Lib.hid (HT.out.trans (ht4.mono fun k _ h => h))
      clear hi4 ht4
      go_wp2_with fail
      go_ret
      rw [HV.out]
      exact ⟨none, 0, rfl, World.ownsRow_nil _ _ _ _, HI4.out, HT4.out⟩
    · have d2 : decide (most < (z : Int)) = false := by simpa using hm
      have hu : s.text most = ((s1.next z).1, (s1.next z).2.1) := by rw [HU.out, if_neg (by simp), if_neg (by rw [← HZ.out]; exact hm), ← HZ.out]
      have HV := Lib.hid hu
      clear hu hm
      go_wp2_with fail
      refine (P3.out).mono ?_
      rintro e w3 ⟨rfl, rfl⟩
      go_wp2_with fail
      refine (P4.out).mono ?_
      rintro e w4 ⟨A4, c4, rfl, ho4, hi4, ht4⟩
      have HO4 := Lib.hid (own_mono ho4 HT.out.size)
      have HI4 := Lib.hid hi4
      have HT4 := Lib.hid (HT.out.trans (ht4.mono fun k _ h => h))
      clear ho4 hi4 ht4
      go_wp2_with fail
      go_ret
      rw [HV.out]
      exact ⟨A4, c4, rfl, HO4.out, HI4.out, HT4.out⟩

end Go.Proofs.Ytjdpljhhlmcbaaa
