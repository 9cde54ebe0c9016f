/- The contract of the reference's Same of inodes. Condition: at most 1000000 extents. -/
import Derived.Test.YtkeebkackbkfhaaInoSame
import Derived.Test.YtkeebkackbkfhaaInoCheckP
import Derived.Deep.DeepCutAuto
namespace Go.Proofs.Ytkeebkackbkfhaa
open Go.RowKit Go.Shelf Go.Cat Go.Cat.Ino

/-- Two boxes. -/
structure TwoB (w : World) (m s : Int) (A : Option Addr) (n c : Nat) (m' s' : Int) (B : Option Addr) (l d : Nat) (wr : World) : Prop where
  a0 : wr.cell? ⟨w.heap.size, 0, none⟩ = some (.int .i64 m)
  a1 : wr.cell? ⟨w.heap.size, 1, none⟩ = some (.int .i64 s)
  a2 : wr.cell? ⟨w.heap.size, 2, none⟩ = some (.slice A n c)
  b0 : wr.cell? ⟨w.heap.size + 1, 0, none⟩ = some (.int .i64 m')
  b1 : wr.cell? ⟨w.heap.size + 1, 1, none⟩ = some (.int .i64 s')
  b2 : wr.cell? ⟨w.heap.size + 1, 2, none⟩ = some (.slice B l d)

set_option maxRecDepth 100000 in
set_option maxHeartbeats 2000000 in
theorem rsame_eq (m s : Int) (A B : Option Addr) (n c d : Nat) (xs ys : List Ext) (V : Bool) (w : World) (ha : Sees w A (erows xs)) (hb : Sees w B (erows ys)) (hn : xs.length = n) (hn' : ys.length = n) (hx : n ≤ 1000000) (hV : V = decide (xs = ys)) :
    Calls Try.prog 26 #[iv m s A n c, iv m s B n d] w fun e w' => e = .returned (.bool V) ∧ Below w.heap.size w w' := by
  obtain ⟨W0, hW0⟩ : ∃ W0, W0 = (w.alloc (.cells #[.int .i64 m, .int .i64 s, .slice A n c] 32)).alloc (.cells #[.int .i64 m, .int .i64 s, .slice B n d] 32) := ⟨_, rfl⟩
  have hB : Below w.heap.size w W0 := by rw [hW0]; exact ((Below.refl w.heap.size w).alloc (Nat.le_refl _) _).alloc (by simp) _
  have hx1 : W0.heap[w.heap.size]? = some (.cells #[.int .i64 m, .int .i64 s, .slice A n c] 32 (0, 0)) := by
    rw [hW0]
    exact (((Below.refl (w.alloc (.cells #[.int .i64 m, .int .i64 s, .slice A n c] 32)).heap.size _).alloc (Nat.le_refl _) _).block _ (by simp)).trans (heap_alloc_new _ _)
  have hx2 : W0.heap[w.heap.size + 1]? = some (.cells #[.int .i64 m, .int .i64 s, .slice B n d] 32 (0, 0)) := by
    rw [hW0]
    have := heap_alloc_new (w.alloc (.cells #[.int .i64 m, .int .i64 s, .slice A n c] 32)) (.cells #[.int .i64 m, .int .i64 s, .slice B n d] 32)
    rwa [show (w.alloc (.cells #[.int .i64 m, .int .i64 s, .slice A n c] 32)).heap.size = w.heap.size + 1 by simp] at this
  have HT : Hid (TwoB w m s A n c m s B n d W0) := ⟨cell_of_row _ _ 0 _ _ _ hx1, cell_of_row _ _ 1 _ _ _ hx1, cell_of_row _ _ 2 _ _ _ hx1, cell_of_row _ _ 0 _ _ _ hx2, cell_of_row _ _ 1 _ _ _ hx2, cell_of_row _ _ 2 _ _ _ hx2⟩
  have HA := Lib.hid (ha.below hB)
  have HBs := Lib.hid (hb.below hB)
  have HW0 := Lib.hid hW0
  have HBl := Lib.hid hB
  have HN := Lib.hid hn
  have HM := Lib.hid hn'
  have HV := Lib.hid hV
  have e0 : (m != m) = false := by simp
  have e1 : (s != s) = false := by simp
  have e2 : ((n : Int) != (n : Int)) = false := by simp
  clear hW0 hB hx1 hx2 ha hb hn hn' hV
  go_enter Try.func26, Try.ntmps26
  go_upto_region 1 with (fail)
  rw [← HW0.out]
  obtain ⟨a0, a1, a2, b0, b1, b2⟩ := HT.out
  go_wp2_with fail
  go_loopw [5] (fun i wr => ∃ k : Nat, k ≤ n ∧ i = .int .i64 k ∧ Hid (xs.take k = ys.take k) ∧ ∃ d, wr = W0.drewN d) (fun i _ => n - (intOf i).toNat)
  case atStart => exact ⟨0, Nat.zero_le _, rfl, by show _ = _; simp, 0, rfl⟩
  case round =>
    obtain ⟨k, hk, rfl, HE, dd, rfl⟩ := hrel
    by_cases hlt : k < n
    · have t1 : decide ((k : Int) < (n : Int)) = true := by simp; omega
      have hkx : k < xs.length := by rw [HN.out]; exact hlt
      have hky : k < ys.length := by rw [HM.out]; exact hlt
      obtain ⟨b, off, hA, _, c0, c1⟩ := erows_at HA.out hkx
      obtain ⟨b', off', hB, _, d0, d1⟩ := erows_at HBs.out hky
      obtain ⟨p, hp⟩ : ∃ p, p = xs[k] := ⟨_, rfl⟩
      obtain ⟨q, hq⟩ : ∃ q, q = ys[k] := ⟨_, rfl⟩
      rw [← hp] at c0 c1
      rw [← hq] at d0 d1
      have hkI : (k : Int) < (n : Int) := by omega
      have hk0 : (0 : Int) ≤ (k : Int) := by omega
      have hyes : p = q → xs.take (k + 1) = ys.take (k + 1) := fun h => by rw [List.take_succ_eq_append_getElem hkx, List.take_succ_eq_append_getElem hky, HE.out, ← hp, ← hq, h]
      have hno : p ≠ q → V = false := fun h => by
        rw [HV.out, decide_eq_false_iff_not]
        intro e
        subst e
        exact h (by rw [hp, hq])
      subst hA hB
      clear hp hq hkx hky
      by_cases h1 : p.1 = q.1
      · have u1 : (p.1 == q.1) = true := by simpa using h1
        by_cases h2 : p.2 = q.2
        · have u2 : (p.2 == q.2) = true := by simpa using h2
          have HY : Hid (xs.take (k + 1) = ys.take (k + 1)) := hyes (Prod.ext h1 h2)
          clear h1 h2 hyes hno
          go_wp2_with fail
          go_quiet (fail)
          go_wp2
          go_roundw
          case rel => exact ⟨k + 1, by omega, by go_num, HY, _, rfl⟩
          case measure => simp [intOf]; omega
        · have u2 : (p.2 == q.2) = false := by simpa using h2
          have hv := hno (fun h => h2 (by rw [h]))
          subst hv
          clear h1 h2 hyes hno
          go_wp2_with fail
          go_quiet (fail)
          go_wp2
          go_ret
          exact ⟨rfl, below_drewN (below_drewN HBl.out _) _⟩
      · have u1 : (p.1 == q.1) = false := by simpa using h1
        have hv := hno (fun h => h1 (by rw [h]))
        subst hv
        clear h1 hyes hno
        go_wp2_with fail
        go_quiet (fail)
        go_wp2
        go_ret
        exact ⟨rfl, below_drewN (below_drewN HBl.out _) _⟩
    · obtain rfl : k = n := by omega
      have t1 : decide ((k : Int) < (k : Int)) = false := by simp
      have hv : V = true := by
        rw [HV.out, decide_eq_true_iff]
        have := HE.out
        rwa [List.take_of_length_le (by rw [HN.out]; exact Nat.le_refl _), List.take_of_length_le (by rw [HM.out]; exact Nat.le_refl _)] at this
      subst hv
      go_wp2
      go_ret
      exact ⟨rfl, below_drewN HBl.out _⟩

set_option maxRecDepth 100000 in
theorem rsame_ne (m1 s1 : Int) (A : Option Addr) (n c : Nat) (m2 s2 : Int) (B : Option Addr) (l d : Nat) (w : World) (h : m1 ≠ m2 ∨ s1 ≠ s2 ∨ n ≠ l) :
    Calls Try.prog 26 #[iv m1 s1 A n c, iv m2 s2 B l d] w fun e w' => e = .returned (.bool false) ∧ Below w.heap.size w w' := by
  have hb2 : Below w.heap.size w ((w.alloc (.cells #[.int .i64 m1, .int .i64 s1, .slice A n c] 32)).alloc (.cells #[.int .i64 m2, .int .i64 s2, .slice B l d] 32)) := ((Below.refl _ _).alloc (Nat.le_refl _) _).alloc (by simp) _
  have HB := Lib.hid hb2
  clear hb2
  by_cases h1 : m1 = m2
  · have t1 : (m1 != m2) = false := by simpa using h1
    by_cases h2 : s1 = s2
    · have t2 : (s1 != s2) = false := by simpa using h2
      have t3 : ((n : Int) != (l : Int)) = true := by rw [bne_iff_ne]; omega
      clear h h1 h2
      go_enter Try.func26, Try.ntmps26
      go_wp2
      go_ret
      exact ⟨rfl, HB.out⟩
    · have t2 : (s1 != s2) = true := by simpa using h2
      clear h h1 h2
      go_enter Try.func26, Try.ntmps26
      go_wp2
      go_ret
      exact ⟨rfl, HB.out⟩
  · have t1 : (m1 != m2) = true := by simpa using h1
    clear h h1
    go_enter Try.func26, Try.ntmps26
    go_wp2
    go_ret
    exact ⟨rfl, HB.out⟩
end Go.Proofs.Ytkeebkackbkfhaa
