/- The contracts of slices.Equal on extents and of inode.Same. Condition: lengths within an int. -/
import Derived.Test.YtkeebkackbkfhaaInoCollect
import Derived.BigQuiet
namespace Go.Proofs.Ytkeebkackbkfhaa
open Go.RowKit Go.Shelf Go.Cat Go.Cat.Ino

set_option maxRecDepth 100000 in
set_option maxHeartbeats 2000000 in
theorem eqext_any (A B : Option Addr) (c d : Nat) (xs ys : List Ext) (w : World) (ha : Sees w A (erows xs)) (hb : Sees w B (erows ys)) (hx : xs.length ≤ 1000000) (hy : ys.length ≤ 1000000) :
    Calls Try.prog 41 #[.slice A xs.length c, .slice B ys.length d] w fun e w' => e = .returned (.bool (decide (xs = ys))) ∧ ∃ k, w' = w.drewN k := by
  obtain ⟨n, hn⟩ : ∃ n, n = xs.length := ⟨_, rfl⟩
  obtain ⟨m, hm⟩ : ∃ m, m = ys.length := ⟨_, rfl⟩
  obtain ⟨V, hV⟩ : ∃ V, V = decide (xs = ys) := ⟨_, rfl⟩
  rw [← hn] at hx
  rw [← hm] at hy
  rw [← hn, ← hm, ← hV]
  have HN := Lib.hid hn
  have HM := Lib.hid hm
  have HV := Lib.hid hV
  have HA := Lib.hid ha
  have HB := Lib.hid hb
  clear hn hm hV ha hb
  by_cases hl : n = m
  · have hl' : ((n : Int) != (m : Int)) = false := by rw [bne_eq_false_iff_eq]; omega
    subst hl
    clear hy
    go_enter Try.func41, Try.ntmps41
    go_wp2_with fail
    go_loopw [13] (fun i wr => ∃ k : Nat, k ≤ n ∧ i = .int .i64 k ∧ Hid (xs.take k = ys.take k) ∧ ∃ d, wr = w.drewN d) (fun i _ => n - (intOf i).toNat)
    case atStart => exact ⟨0, Nat.zero_le _, rfl, by show _ = _; simp, 0, rfl⟩
    case round =>
      obtain ⟨k, hk, rfl, HE, dd, rfl⟩ := hrel
      by_cases hlt : k < n
      · have t1 : decide ((k : Int) < (n : Int)) = true := by simp; omega
        have hkx : k < xs.length := by rw [← HN.out]; exact hlt
        have hky : k < ys.length := by rw [← HM.out]; exact hlt
        obtain ⟨b, off, hA, _, a0, a1⟩ := erows_at HA.out hkx
        obtain ⟨b', off', hB, _, b0, b1⟩ := erows_at HB.out hky
        obtain ⟨p, hp⟩ : ∃ p, p = xs[k] := ⟨_, rfl⟩
        obtain ⟨q, hq⟩ : ∃ q, q = ys[k] := ⟨_, rfl⟩
        rw [← hp] at a0 a1
        rw [← hq] at b0 b1
        have hkI : (k : Int) < (n : Int) := by omega
        have hk0 : (0 : Int) ≤ (k : Int) := by omega
        have hyes : p = q → xs.take (k + 1) = ys.take (k + 1) := fun h => by rw [List.take_succ_eq_append_getElem hkx, List.take_succ_eq_append_getElem hky, HE.out, ← hp, ← hq, h]
        have hno : p ≠ q → V = false := fun h => by
          rw [HV.out, decide_eq_false_iff_not]
          intro e
          subst e
          exact h (by rw [hp, hq])
        rw [hA, hB]
        clear hA hB hp hq hkx hky
        by_cases h1 : p.1 = q.1
        · have u1 : (p.1 == q.1) = true := by simpa using h1
          by_cases h2 : p.2 = q.2
          · have u2 : (p.2 == q.2) = true := by simpa using h2
            have HY : Hid (xs.take (k + 1) = ys.take (k + 1)) := hyes (Prod.ext h1 h2)
            clear h1 h2 hyes hno
            go_wp2_with fail
            go_quiet (fail)
            go_wp2
            go_roundw
            case rel => exact ⟨k + 1, by omega, by go_num, HY, _, rfl⟩
            case measure => simp [intOf]; omega
          · have u2 : (p.2 == q.2) = false := by simpa using h2
            have hv := hno (fun h => h2 (by rw [h]))
            subst hv
            clear h1 h2 hyes hno
            go_wp2_with fail
            go_quiet (fail)
            go_wp2
            go_ret
            exact ⟨rfl, _, World.drewN_drewN _ _ _⟩
        · have u1 : (p.1 == q.1) = false := by simpa using h1
          have hv := hno (fun h => h1 (by rw [h]))
          subst hv
          clear h1 hyes hno
          go_wp2_with fail
          go_quiet (fail)
          go_wp2
          go_ret
          exact ⟨rfl, _, World.drewN_drewN _ _ _⟩
      · obtain rfl : k = n := by omega
        have t1 : decide ((k : Int) < (k : Int)) = false := by simp
        have hv : V = true := by
          rw [HV.out, decide_eq_true_iff]
          have := HE.out
          rwa [List.take_of_length_le (by rw [← HN.out]; exact Nat.le_refl _), List.take_of_length_le (by rw [← HM.out]; exact Nat.le_refl _)] at this
        subst hv
        go_wp2
        go_ret
        exact ⟨rfl, _, rfl⟩
  · have hl' : ((n : Int) != (m : Int)) = true := by rw [bne_iff_ne]; omega
    have hv : V = false := by
      rw [HV.out, decide_eq_false_iff_not]
      intro e
      exact hl (by rw [HN.out, HM.out, e])
    subst hv
    clear hl
    go_enter Try.func41, Try.ntmps41
    go_wp2
    go_ret
    exact ⟨rfl, 0, rfl⟩

set_option maxRecDepth 100000 in
set_option maxHeartbeats 2000000 in
theorem isame_any (m1 s1 : Int) (A : Option Addr) (xs : List Ext) (c : Nat) (m2 s2 : Int) (B : Option Addr) (ys : List Ext) (d : Nat) (w : World) (ha : Sees w A (erows xs)) (hb : Sees w B (erows ys)) (hx : xs.length ≤ 1000000) (hy : ys.length ≤ 1000000) :
    Calls Try.prog 25 #[iv m1 s1 A xs.length c, iv m2 s2 B ys.length d] w fun e w' => e = .returned (.bool (decide (m1 = m2 ∧ s1 = s2 ∧ xs = ys))) ∧ Below w.heap.size w w' := by
  have hb2 : Below w.heap.size w ((w.alloc (.cells #[.int .i64 m1, .int .i64 s1, .slice A xs.length c] 26)).alloc (.cells #[.int .i64 m2, .int .i64 s2, .slice B ys.length d] 26)) := ((Below.refl _ _).alloc (Nat.le_refl _) _).alloc (by simp) _
  have p1 := eqext_any A B c d xs ys _ (ha.below hb2) (hb.below hb2) hx hy
  obtain ⟨n, hn⟩ : ∃ n, n = xs.length := ⟨_, rfl⟩
  obtain ⟨m, hm⟩ : ∃ m, m = ys.length := ⟨_, rfl⟩
  rw [← hn, ← hm] at p1 hb2 ⊢
  obtain ⟨U, hU⟩ : ∃ U, U = decide (xs = ys) := ⟨_, rfl⟩
  rw [← hU] at p1
  have hUx : xs = ys ↔ U = true := by rw [hU, decide_eq_true_iff]
  have P1 := Lib.hid p1
  have HB := Lib.hid hb2
  clear p1 hb2 ha hb hx hy hn hm hU
  by_cases h1 : m1 = m2
  · have t1 : (m1 == m2) = true := by simpa using h1
    by_cases h2 : s1 = s2
    · have t2 : (s1 == s2) = true := by simpa using h2
      have hv : decide (m1 = m2 ∧ s1 = s2 ∧ xs = ys) = U := by
        rw [Bool.eq_iff_iff, decide_eq_true_iff]
        exact ⟨fun h => hUx.1 h.2.2, fun h => ⟨h1, h2, hUx.2 h⟩⟩
      rw [hv]
      clear hv hUx h1 h2
      go_enter Try.func25, Try.ntmps25
      cases U with
      | true =>
        go_wp2_with fail
        refine (P1.out).mono ?_
        rintro e w2 ⟨rfl, k, rfl⟩
        go_wp2
        go_ret
        exact ⟨rfl, below_drewN HB.out _⟩
      | false =>
        go_wp2_with fail
        refine (P1.out).mono ?_
        rintro e w2 ⟨rfl, k, rfl⟩
        go_wp2
        go_ret
        exact ⟨rfl, below_drewN HB.out _⟩
    · have t2 : (s1 == s2) = false := by simpa using h2
      have hv : decide (m1 = m2 ∧ s1 = s2 ∧ xs = ys) = false := by rw [decide_eq_false_iff_not]; exact fun h => h2 h.2.1
      rw [hv]
      clear hv hUx h1 h2 P1
      go_enter Try.func25, Try.ntmps25
      go_wp2
      go_ret
      exact ⟨rfl, HB.out⟩
  · have t1 : (m1 == m2) = false := by simpa using h1
    have hv : decide (m1 = m2 ∧ s1 = s2 ∧ xs = ys) = false := by rw [decide_eq_false_iff_not]; exact fun h => h1 h.1
    rw [hv]
    clear hv hUx h1 P1
    go_enter Try.func25, Try.ntmps25
    go_wp2
    go_ret
    exact ⟨rfl, HB.out⟩
end Go.Proofs.Ytkeebkackbkfhaa
