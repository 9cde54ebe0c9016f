/- Bytes that are read: the plain state, and the contracts of the program's Of, fail, next, Upto, Get, Raw, Text, Err, Done. Condition: lengths within a slice's. -/
import Derived.Test.YtjdpljhhlmcbaaaFixNum
import Derived.Test.YtjdpljhhlmcbaaaCloneS
namespace Go.Cat
open Go.RowKit
/-- Bytes that are left, and the first error. -/
structure IS where
  b : List UInt8
  e : Int
/-- The next n bytes. -/
def IS.next (s : IS) (n : Nat) : IS × List UInt8 × Bool :=
  if s.e ≠ 0 then (⟨[], s.e⟩, [], false) else if s.b.length < n then (⟨[], 3⟩, [], false) else (⟨s.b.drop n, 0⟩, s.b.take n, true)
/-- A block with bytes that are read. -/
structure InS (t : TypeId) (g : Nat) (s : IS) (w : World) : Prop where
  bad : s.e ≠ 0 → s.b = []
  ex : ∃ A c, w.heap[g]? = some (.cells #[.slice A s.b.length c, .int .i64 s.e] t (0, 0)) ∧ Bytes w A s.b ∧ s.b.length ≤ c ∧ c ≤ maxLen ∧ (A = none → c = 0) ∧ ∀ a, A = some a → a.block < g
theorem addr_add_block (x : Addr) (n : Nat) : (x.add n).block = x.block := by unfold Addr.add; split <;> rfl
theorem bytes_drop {w : World} {A : Option Addr} {b : List UInt8} (h : Bytes w A b) (n : Nat) : Bytes w (A.map fun x => x.add n) (b.drop n) := by
  rcases h with h | ⟨k, o, rfl, hc⟩
  · left
    have : b = [] := by simpa using h
    simp [this]
  · refine .inr ⟨k, o + n, by simp [Addr.add], fun j u hu => ?_⟩
    rw [Nat.add_assoc]
    refine hc _ _ ?_
    rw [← hu, List.getElem?_map, List.getElem?_map, List.getElem?_drop]
theorem bytes_take {w : World} {A : Option Addr} {b : List UInt8} (h : Bytes w A b) (n : Nat) : Bytes w A (b.take n) := by
  have := Sees.take h n
  rwa [← List.map_take] at this
theorem InS.keep {t : TypeId} {g : Nat} {s : IS} {K : Nat → Prop} {w w' : World} (h : InS t g s w) (ht : Tch K w w') (hK : ∀ k, k ≤ g → ¬ K k) : InS t g s w' := by
  obtain ⟨A, c, h1, h2, h3, h4, h5, h6⟩ := h.ex
  exact ⟨h.bad, A, c, (ht.block g (Array.getElem?_eq_some_iff.1 h1).1 (hK g (Nat.le_refl _))).trans h1, bytes_touch h2 ht (fun k o hA => hK k (Nat.le_of_lt (h6 _ hA))), h3, h4, h5, h6⟩
theorem InS.lt {t : TypeId} {g : Nat} {s : IS} {w : World} (h : InS t g s w) : g < w.heap.size := by
  obtain ⟨A, c, h1, _⟩ := h.ex
  exact (Array.getElem?_eq_some_iff.1 h1).1
theorem InS.touch {t : TypeId} {g : Nat} {s : IS} {w w' : World} (h : InS t g s w) (ht : Below w.heap.size w w') : InS t g s w' := by
  obtain ⟨A, c, h1, h2, h3⟩ := h.ex
  exact ⟨h.bad, A, c, (ht.block g (Array.getElem?_eq_some_iff.1 h1).1).trans h1, h2.below ht, h3⟩
end Go.Cat
namespace Go.Proofs.Ytjdpljhhlmcbaaa
open Go.RowKit Go.Cat

abbrev InF (g : Nat) (s : IS) (w : World) : Prop := InS 106 g s w

theorem infail_any (g : Nat) (s : IS) (err : Int) (w : World) (h : InF g s w) :
    Calls Try.prog 60 #[.pointer (some ⟨g, 0, none⟩), .int .i64 err] w fun e w' => (∃ v, e = .returned v) ∧ InF g ⟨[], if s.e = 0 then err else s.e⟩ w' ∧ Tch (fun k => k = g) w w' := by
  obtain ⟨A, c, h1, h2, h3⟩ := h.ex
  have c0 : w.cell? ⟨g, 0, none⟩ = some (.slice A s.b.length c) := cell_of_row w g 0 _ _ _ h1
  have c1 : w.cell? ⟨g, 1, none⟩ = some (.int .i64 s.e) := cell_of_row w g 1 _ _ _ h1
  have f0 : w.frozen? ⟨g, 0, none⟩ = false := frozen_of_row w g 0 _ _ h1
  have f1 : w.frozen? ⟨g, 1, none⟩ = false := frozen_of_row w g 1 _ _ h1
  have H1 := Lib.hid h1
  by_cases he : s.e = 0
  · have d : (s.e == 0) = true := by simpa using he
    rw [if_pos he]
    clear h h1 h2 h3 he
    go_enter Try.func60, Try.ntmps60
    go_wp2_with fail
    refine bodyPost_end (v := .tuple #[]) (by simp [results, Try.results60, go_sem]) rfl ⟨⟨_, rfl⟩, ⟨fun _ => rfl, none, 0, set_block _ (set_block _ H1.out), .inl rfl, Nat.le_refl _, by unfold maxLen; omega, fun _ => rfl, fun a h => by cases h⟩, (Tch.set _ _ _ _).trans (Tch.set _ _ _ _)⟩
  · have d : (s.e == 0) = false := by simpa using he
    rw [if_neg he]
    clear h h1 h2 h3 he
    go_enter Try.func60, Try.ntmps60
    go_wp2_with fail
    refine bodyPost_end (v := .tuple #[]) (by simp [results, Try.results60, go_sem]) rfl ⟨⟨_, rfl⟩, ⟨fun _ => rfl, none, 0, set_block _ H1.out, .inl rfl, Nat.le_refl _, by unfold maxLen; omega, fun _ => rfl, fun a h => by cases h⟩, Tch.set _ _ _ _⟩

/-- What next tells. -/
def ToldN (g : Nat) (s : IS) (out : List UInt8) (ok : Bool) (w : World) (e : Ending) (w' : World) : Prop :=
  ∃ A c, e = .returned (.tuple #[.slice A out.length c, .bool ok]) ∧ Bytes w' A out ∧ (∀ a, A = some a → a.block ≠ g) ∧ InF g s w' ∧ Tch (fun k => k = g) w w'

set_option maxRecDepth 100000 in
theorem next_any (g : Nat) (s : IS) (n : Nat) (w : World) (h : InF g s w) (hn : n ≤ 9223372036854775807) :
    Calls Try.prog 61 #[.pointer (some ⟨g, 0, none⟩), .int .i64 (n : Int)] w (ToldN g (s.next n).1 (s.next n).2.1 (s.next n).2.2 w) := by
  obtain ⟨A, c, h1, h2, h3, h4, h6, h5⟩ := h.ex
  have c0 : w.cell? ⟨g, 0, none⟩ = some (.slice A s.b.length c) := cell_of_row w g 0 _ _ _ h1
  have c1 : w.cell? ⟨g, 1, none⟩ = some (.int .i64 s.e) := cell_of_row w g 1 _ _ _ h1
  have f0 : w.frozen? ⟨g, 0, none⟩ = false := frozen_of_row w g 0 _ _ h1
  have f1 : w.frozen? ⟨g, 1, none⟩ = false := frozen_of_row w g 1 _ _ h1
  have H1 := Lib.hid h1
  by_cases he : s.e = 0
  · have d : (s.e != 0) = false := by simpa using he
    by_cases hl : s.b.length < n
    · have d2 : decide (s.b.length < n) = true := by simpa using hl
      have hs : s.next n = (⟨[], 3⟩, [], false) := by unfold IS.next; rw [if_neg (by simpa using he), if_pos hl]
      have p1 := infail_any g s 3 w h
      rw [if_pos he] at p1
      have P1 := Lib.hid p1
      rw [hs]
      clear h h1 h2 h3 h4 h5 h6 he hl hs p1
      go_enter Try.func61, Try.ntmps61
      go_wp2_with fail
      refine (P1.out).mono ?_
      rintro e w' ⟨⟨v, rfl⟩, hi, ht⟩
      go_wp2_with fail
      go_ret2
      exact ⟨none, 0, rfl, .inl rfl, (fun a h => by cases h), hi, ht⟩
    · have d2 : decide (s.b.length < n) = false := by simpa using hl
      have hs : s.next n = (⟨s.b.drop n, 0⟩, s.b.take n, true) := by unfold IS.next; rw [if_neg (by simpa using he), if_neg hl]
      rw [hs]
      have hln : n ≤ s.b.length := by omega
      have HE := Lib.hid he
      have H2 := Lib.hid h2
      have H3 := Lib.hid h3
      have H4 := Lib.hid h4
      have H5 := Lib.hid h5
      have H6 := Lib.hid h6
      obtain ⟨m, hm⟩ : ∃ m, m = s.b.length := ⟨_, rfl⟩
      rw [← hm] at c0 h3 hln d2
      have HM := Lib.hid hm
      by_cases hc : c = n
      · obtain rfl : m = n := by omega
        subst hc
        have hd : s.b.drop c = [] := by rw [List.drop_eq_nil_iff]; omega
        have ht : s.b.take c = s.b := List.take_of_length_le (by omega)
        rw [hd, ht]
        clear h h1 h2 h3 h4 h5 h6 he hl hs hm hd ht
        go_enter Try.func61, Try.ntmps61
        go_wp2_with fail
        go_ret2
        refine ⟨A, c, by rw [← HM.out]; rfl, bytes_touch H2.out (Tch.set _ _ _ _) (fun k o hA e => Nat.ne_of_lt (H5.out _ hA) e), (fun a h => Nat.ne_of_lt (H5.out a h)), ⟨fun h => absurd rfl h, A, 0, ?_, .inl rfl, Nat.le_refl _, by unfold maxLen; omega, fun _ => rfl, H5.out⟩, Tch.set _ _ _ _⟩
        have := set_block (i := 0) (.slice A 0 0) H1.out
        rw [HE.out] at this
        simpa using this
      · clear h h1 h2 h4 h5 h6 he hl hs hm
        go_enter Try.func61, Try.ntmps61
        go_wp2_with fail
        go_ret2
        have hb := bytes_touch H2.out (Tch.set w g 0 (.slice (A.map fun x => x.add n) (m - n) (c - n))) (fun k o hA e => Nat.ne_of_lt (H5.out _ hA) e)
        refine ⟨A, n, by rw [List.length_take, ← HM.out, Nat.min_eq_left hln]; rfl, bytes_take hb n, (fun a h => Nat.ne_of_lt (H5.out a h)), ⟨fun h => absurd rfl h, A.map fun x => x.add n, c - n, ?_, bytes_drop hb n, by rw [List.length_drop, ← HM.out]; show m - n ≤ c - n; omega, by have := H4.out; omega, fun h => ?_, fun a h => ?_⟩, Tch.set _ _ _ _⟩
        · have := set_block (i := 0) (.slice (A.map fun x => x.add n) (m - n) (c - n)) H1.out
          rw [HE.out] at this
          show _ = some (Obj.cells #[.slice _ (s.b.drop n).length _, _] _ _)
          rw [List.length_drop, ← HM.out]
          simpa using this
        · have := H6.out (by simpa using h)
          omega
        · obtain ⟨x, hx, rfl⟩ := Option.map_eq_some_iff.1 h
          rw [addr_add_block]
          exact H5.out x hx
  · have d : (s.e != 0) = true := by simpa using he
    have hb := h.bad he
    have hs : s.next n = (⟨[], s.e⟩, [], false) := by unfold IS.next; rw [if_pos (by simpa using he)]
    have hss : (⟨[], s.e⟩ : IS) = s := by cases s; simp_all
    rw [hs, hss]
    have HH := Lib.hid h
    clear h h1 h2 h3 h4 h5 h6 he hs hss hb
    go_enter Try.func61, Try.ntmps61
    go_wp2_with fail
    go_ret2
    exact ⟨none, 0, rfl, .inl rfl, (fun a h => by cases h), HH.out, Tch.refl _ _⟩
end Go.Proofs.Ytjdpljhhlmcbaaa
