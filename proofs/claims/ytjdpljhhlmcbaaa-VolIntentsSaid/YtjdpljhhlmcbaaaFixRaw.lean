/- Bytes that are read: the contract of the program's Raw. Condition: lengths within a slice's. -/
import Derived.Test.YtjdpljhhlmcbaaaFixGet
namespace Go.Cat
open Go.RowKit
theorem IS.next_out_le (s : IS) (n : Nat) : (s.next n).2.1.length ≤ n := by
  unfold IS.next
  split
  · exact Nat.zero_le _
  · split
    · exact Nat.zero_le _
    · show (s.b.take n).length ≤ n
      rw [List.length_take]; omega
end Go.Cat
namespace Go.Proofs.Ytjdpljhhlmcbaaa
open Go.RowKit Go.Cat

/-- A call that reads bytes: they lie in new memory. -/
def ToldB (g : Nat) (s : IS) (out : List UInt8) (w : World) (e : Ending) (w' : World) : Prop :=
  ∃ A c, e = .returned (.slice A out.length c) ∧ w'.ownsRow w.heap.size 5 1 (.slice A out.length c) out.length (out.map by8) ∧ InF g s w' ∧ Tch (fun k => k = g) w w'

set_option maxRecDepth 100000 in
theorem inraw_any (g : Nat) (s : IS) (n : Nat) (w : World) (h : InF g s w) (hn : n ≤ 65535) :
    Calls Try.prog 63 #[.pointer (some ⟨g, 0, none⟩), .int .i64 (n : Int)] w (ToldB g (s.next n).1 (s.next n).2.1 w) := by
  have p1 := next_any g s n w h (by omega)
  have hol := IS.next_out_le s n
  have hbo : (s.next n).2.2 = false → (s.next n).2.1 = [] := by
    unfold IS.next
    intro h
    split at h
    · rename_i h1; rw [if_pos h1]
    · rename_i h1
      split at h
      · rename_i h2; rw [if_neg h1, if_pos h2]
      · cases h
  obtain ⟨s1, hs1⟩ : ∃ s1, s1 = (s.next n).1 := ⟨_, rfl⟩
  obtain ⟨out, hout⟩ : ∃ out, out = (s.next n).2.1 := ⟨_, rfl⟩
  obtain ⟨ok, hok⟩ : ∃ ok, ok = (s.next n).2.2 := ⟨_, rfl⟩
  rw [← hs1, ← hout, ← hok] at p1
  rw [← hout] at hol
  rw [← hout, ← hok] at hbo
  rw [← hs1, ← hout]
  have P1 := Lib.hid p1
  have HBo := Lib.hid hbo
  have d1 : decide ((n : Int) < 0) = false := by simp
  have hmx : max (n : Int) 0 = (n : Int) := by omega
  have hmx2 : max 0 (n : Int) = (n : Int) := by omega
  clear p1 h hs1 hout hok hbo
  go_enter Try.func63, Try.ntmps63
  go_wp2_with fail
  refine (P1.out).mono ?_
  rintro e w2 ⟨A2, c2, rfl, hb2, hne2, hi2, ht2⟩
  cases ok with
  | false =>
    obtain rfl := HBo.out rfl
    have HI := Lib.hid hi2
    have HT := Lib.hid ht2
    clear hb2 hne2 hi2 ht2
    go_wp2_with fail
    go_ret
    exact ⟨none, 0, rfl, World.ownsRow_nil _ _ _ _, HI.out, HT.out⟩
  | true =>
    have p3 := clones_any A2 out.length c2 out w2 hb2 rfl (by omega)
    have P3 := Lib.hid p3
    have HI := Lib.hid hi2
    have HT := Lib.hid ht2
    clear p3 hb2 hne2 hi2 ht2
    go_wp2_with fail
    refine (P3.out).mono ?_
    rintro e w3 ⟨A3, c3, rfl, ho3, hB3⟩
    have HO3 := Lib.hid (own_mono ho3 HT.out.size)
    have HI3 := Lib.hid (HI.out.touch hB3)
    have HT3 := Lib.hid (HT.out.trans ((Tch.of_below (K := fun k => k = g) hB3).mono fun k _ h => h))
    clear ho3 hB3
    go_wp2_with fail
    go_ret
    exact ⟨A3, c3, rfl, HO3.out, HI3.out, HT3.out⟩
end Go.Proofs.Ytjdpljhhlmcbaaa
