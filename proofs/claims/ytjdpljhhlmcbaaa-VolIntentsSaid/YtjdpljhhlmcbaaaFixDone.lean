/- Bytes that are read: the contracts of Err and Done. No condition. -/
import Derived.Test.YtjdpljhhlmcbaaaFixGet
namespace Go.Proofs.Ytjdpljhhlmcbaaa
open Go.RowKit Go.Cat

theorem inerr_any (g : Nat) (s : IS) (w : World) (h : InF g s w) :
    Calls Try.prog 64 #[.pointer (some ⟨g, 0, none⟩)] w fun e w' => e = .returned (.int .i64 s.e) ∧ w = w' := by
  obtain ⟨A, c, h1, _⟩ := h.ex
  have c1 : w.cell? ⟨g, 1, none⟩ = some (.int .i64 s.e) := cell_of_row w g 1 _ _ _ h1
  clear h h1
  go_enter Try.func64, Try.ntmps64
  go_wp2_with fail
  go_ret
  exact ⟨rfl, rfl⟩

theorem indone_any (g : Nat) (s : IS) (w : World) (h : InF g s w) :
    Calls Try.prog 38 #[.pointer (some ⟨g, 0, none⟩)] w fun e w' => e = .returned (.int .i64 s.done) ∧ w = w' := by
  have p1 := inerr_any g s w h
  obtain ⟨A, c, h1, _⟩ := h.ex
  have c0 : w.cell? ⟨g, 0, none⟩ = some (.slice A s.b.length c) := cell_of_row w g 0 _ _ _ h1
  have P1 := Lib.hid p1
  have hd : s.done = if s.e ≠ 0 then s.e else if 0 < s.b.length then 4 else 0 := rfl
  clear h h1 p1
  by_cases he : s.e = 0
  · have d : (s.e != 0) = false := by simpa using he
    by_cases hl : 0 < s.b.length
    · have d2 : decide (0 < s.b.length) = true := by simpa using hl
      rw [if_neg (by simpa using he), if_pos hl] at hd
      have HD := Lib.hid hd
      clear hd he hl
      go_enter Try.func38, Try.ntmps38
      go_wp2_with fail
      refine (P1.out).mono ?_
      rintro e w' ⟨rfl, rfl⟩
      go_wp2_with fail
      go_ret
      rw [HD.out]
      exact ⟨rfl, rfl⟩
    · have d2 : decide (0 < s.b.length) = false := by simpa using hl
      rw [if_neg (by simpa using he), if_neg hl] at hd
      have HD := Lib.hid hd
      clear hd he hl
      go_enter Try.func38, Try.ntmps38
      go_wp2_with fail
      refine (P1.out).mono ?_
      rintro e w' ⟨rfl, rfl⟩
      go_wp2_with fail
      go_ret
      rw [HD.out]
      exact ⟨rfl, rfl⟩
  · have d : (s.e != 0) = true := by simpa using he
    rw [if_pos (by simpa using he)] at hd
    have HD := Lib.hid hd
    clear hd he
    go_enter Try.func38, Try.ntmps38
    go_wp2_with fail
    refine (P1.out).mono ?_
    rintro e w' ⟨rfl, rfl⟩
    go_wp2_with fail
    go_ret
    rw [HD.out]
    exact ⟨rfl, rfl⟩
end Go.Proofs.Ytjdpljhhlmcbaaa
