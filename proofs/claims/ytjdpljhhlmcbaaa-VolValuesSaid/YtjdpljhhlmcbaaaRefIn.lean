/- Bytes that are read, the reference's: the contracts of Fail, Raw. Condition: lengths within a slice's. -/
import Derived.Test.YtjdpljhhlmcbaaaRefNum
import Derived.Test.YtjdpljhhlmcbaaaFixGet
import Derived.Laws.ResultCell
namespace Go.Cat
open Go.RowKit
/-- The reference's picture of bytes that are read. -/
structure RI (s : IS) (A : Option Addr) (c : Nat) (w : World) : Prop where
  bad : s.e ≠ 0 → s.b = []
  sees : Bytes w A s.b
  le : s.b.length ≤ c
  max : c ≤ maxLen
  nil : A = none → c = 0
theorem RI.below {s : IS} {A : Option Addr} {c : Nat} {w w' : World} (h : RI s A c w) (hb : Below w.heap.size w w') : RI s A c w' := ⟨h.bad, h.sees.below hb, h.le, h.max, h.nil⟩
theorem RI.fresh (w : World) (e : Int) : RI ⟨[], e⟩ none 0 w := ⟨fun _ => rfl, .inl rfl, Nat.le_refl _, by unfold maxLen; omega, fun _ => rfl⟩
theorem heap2 (w : World) (o1 o2 : Obj) : ((w.alloc o1).alloc o2).heap[w.heap.size + 1]? = some o2 := by
  have := heap_alloc_new (w.alloc o1) o2
  rwa [show (w.alloc o1).heap.size = w.heap.size + 1 by simp] at this
theorem heap21 (w : World) (o1 o2 : Obj) : ((w.alloc o1).alloc o2).heap[w.heap.size]? = some o1 := by
  exact (((Below.refl (w.alloc o1).heap.size (w.alloc o1)).alloc (Nat.le_refl _) o2).block _ (by simp)).trans (heap_alloc_new _ _)
theorem below2 (w : World) (o1 o2 : Obj) : Below w.heap.size w ((w.alloc o1).alloc o2) := ((Below.refl w.heap.size w).alloc (Nat.le_refl _) o1).alloc (by simp) o2
end Go.Cat
namespace Go.Proofs.Ytjdpljhhlmcbaaa
open Go.RowKit Go.Cat

abbrev ri (A : Option Addr) (n c : Nat) (e : Int) : Value := .agg #[.slice A n c, .int .i64 e]

theorem ret_ri {fn : Func} {p u : Tmp} (h : fn.results = #[.cell p 83, .tmp u]) {tmps : Array Value} {w : World} {g : Nat} {a b : Value} {fr : Nat × Nat} (hp : tmps.getD p undef = .pointer (some ⟨g, 0, none⟩)) (hg : w.heap[g]? = some (.cells #[a, b] 83 fr)) :
    (results fn tmps).run Try.prog w = .ok (.tuple #[.agg #[a, b], tmps.getD u undef]) w := by
  have hp' : tmps[p]?.getD undef = .pointer (some ⟨g, 0, none⟩) := by simpa using hp
  simp [results, h, hp', asAddr, run_loadVar_row w g _ _ _ _ _ hg Try.underlying83 rfl (by kernel_rfl)]

theorem rfail_any (A : Option Addr) (n c : Nat) (err : Int) (w : World) :
    Calls Try.prog 65 #[ri A n c 0, .int .i64 err] w fun e w' => e = .returned (ri none 0 0 err) ∧ Below w.heap.size w w' := by
  go_enter Try.func65, Try.ntmps65
  go_wp2_with fail
  refine bodyPost_ret (results_cell_row rfl _ _ _ _ _ _ _ (by rfl) (heap2 _ _ _) Try.underlying83 rfl (by kernel_rfl)) rfl ?_
  exact ⟨rfl, below2 _ _ _⟩

/-- What the reference's reads tell. -/
def ToldRR (s : IS) (out : List UInt8) (w0 w : World) (e : Ending) (w' : World) : Prop :=
  ∃ A c A' c', e = .returned (.tuple #[ri A s.b.length c s.e, .slice A' out.length c']) ∧ RI s A c w0 ∧ Bytes w0 A' out ∧ Below w.heap.size w w'

set_option maxRecDepth 100000 in
theorem rraw_any (s : IS) (A : Option Addr) (c n : Nat) (w0 w : World) (h : RI s A c w0) (hn : n ≤ 9223372036854775807) :
    Calls Try.prog 66 #[ri A s.b.length c s.e, .int .i64 (n : Int)] w (ToldRR (s.next n).1 (s.next n).2.1 w0 w) := by
  have HH := Lib.hid h
  have d0 : decide ((n : Int) < 0) = false := by simp
  by_cases he : s.e = 0
  · have d : (s.e != 0) = false := by simpa using he
    by_cases hl : s.b.length < n
    · have d2 : decide (s.b.length < n) = true := by simpa using hl
      have hs : s.next n = (⟨[], 3⟩, [], false) := by unfold IS.next; rw [if_neg (by simpa using he), if_pos hl]
      rw [hs, he]
      rw [he] at d
      have P1 := fun w => rfail_any A s.b.length c 3 w
      have HP := Lib.hid P1
      clear h he hl hs P1
      go_enter Try.func66, Try.ntmps66
      go_wp2_with fail
      refine (HP.out _).mono ?_
      rintro e w1 ⟨rfl, hB⟩
      have hbx : w1.heap[w.heap.size + 1]? = some (.cells #[.slice none 0 0, .int .i64 0] 83 (0, 0)) := (hB.block _ (by simp)).trans (heap2 _ _ _)
      have m0 : w1.cell? ⟨w.heap.size + 1, 0, none⟩ = some (.slice none 0 0) := cell_of_row w1 _ 0 _ _ _ hbx
      have m1 : w1.cell? ⟨w.heap.size + 1, 1, none⟩ = some (.int .i64 0) := cell_of_row w1 _ 1 _ _ _ hbx
      have g0 : w1.frozen? ⟨w.heap.size + 1, 0, none⟩ = false := frozen_of_row w1 _ 0 _ _ hbx
      have g1 : w1.frozen? ⟨w.heap.size + 1, 1, none⟩ = false := frozen_of_row w1 _ 1 _ _ hbx
      have hB1 : Below w.heap.size w w1 := (below2 w _ _).trans (hB.mono (by simp; omega))
      have HBx := Lib.hid hbx
      clear hB hbx
      go_wp2_with fail
      refine bodyPost_ret (ret_ri rfl (by rfl) (set_block _ (set_block _ HBx.out))) rfl ?_
      exact ⟨none, 0, none, 0, rfl, RI.fresh _ 3, .inl rfl, (hB1.setCell (Nat.le_succ _) _).setCell (Nat.le_succ _) _⟩
    · have d2 : decide (s.b.length < n) = false := by simpa using hl
      have hs : s.next n = (⟨s.b.drop n, 0⟩, s.b.take n, true) := by unfold IS.next; rw [if_neg (by simpa using he), if_neg hl]
      rw [hs, he]
      rw [he] at d
      obtain ⟨m, hm⟩ : ∃ m, m = s.b.length := ⟨_, rfl⟩
      rw [← hm] at d2 hl ⊢
      have HM := Lib.hid hm
      have hmc : m ≤ c := by rw [hm]; exact h.le
      have hln : n ≤ m := by omega
      have hnc : n ≤ c := by omega
      by_cases hc : c = n
      · subst hc
        have hmn : m = c := by omega
        have fin : ∀ W', Below w.heap.size w W' → ToldRR ⟨s.b.drop c, 0⟩ (s.b.take c) w0 w (.returned (.tuple #[ri A 0 0 0, .slice A c c])) W' := by
          intro W' hB
          have hd : s.b.drop c = [] := by rw [List.drop_eq_nil_iff]; omega
          have ht : s.b.take c = s.b := List.take_of_length_le (by omega)
          rw [hd, ht]
          exact ⟨A, 0, A, c, by rw [← hm, hmn]; rfl, ⟨fun h => absurd rfl h, .inl rfl, Nat.le_refl _, by show 0 ≤ maxLen; omega, fun _ => rfl⟩, h.sees, hB⟩
        clear h he hl hs hm
        go_enter Try.func66, Try.ntmps66
        go_wp2_with fail
        first | go_region_with (fail) | fail
        all_goals
          go_wp2_with fail
          refine bodyPost_ret (ret_ri rfl (by rfl) (heap2 _ _ _)) rfl ?_
          exact fin _ (below2 _ _ _).drew
      · have fin : ∀ W', Below w.heap.size w W' → ToldRR ⟨s.b.drop n, 0⟩ (s.b.take n) w0 w (.returned (.tuple #[ri (A.map fun x => x.add n) (m - n) (c - n) 0, .slice A n c])) W' := by
          intro W' hB
          have hb := h.sees
          refine ⟨A.map fun x => x.add n, c - n, A, c, by rw [List.length_drop, List.length_take, ← hm, Nat.min_eq_left hln], ⟨fun h => absurd rfl h, bytes_drop hb n, by rw [List.length_drop, ← hm]; show m - n ≤ c - n; omega, by have := h.max; omega, fun h' => ?_⟩, bytes_take hb n, hB⟩
          have := h.nil (by simpa using h')
          omega
        clear h he hl hs hm
        go_enter Try.func66, Try.ntmps66
        go_wp2_with fail
        first | go_region_with (fail) | fail
        all_goals
          go_wp2_with fail
          refine bodyPost_ret (ret_ri rfl (by rfl) (heap2 _ _ _)) rfl ?_
          exact fin _ (below2 _ _ _).drew
  · have d : (s.e != 0) = true := by simpa using he
    rw [IS.next_bad h.bad n he]
    clear h he
    go_enter Try.func66, Try.ntmps66
    go_wp2_with fail
    refine bodyPost_ret (ret_ri rfl (by rfl) (heap2 _ _ _)) rfl ?_
    exact ⟨A, c, none, 0, rfl, HH.out, .inl rfl, below2 _ _ _⟩
end Go.Proofs.Ytjdpljhhlmcbaaa
