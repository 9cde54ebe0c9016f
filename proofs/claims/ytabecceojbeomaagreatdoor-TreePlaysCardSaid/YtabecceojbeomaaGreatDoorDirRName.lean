/- The contract of the reference's Name. No condition. -/
import Derived.Test.YtabecceojbeomaaGreatDoorDirName
namespace Go.Proofs.YtabecceojbeomaaGreatDoor
open Go.RowKit Go.Cat Go.Cat.Dir

theorem plainB_cases {b : UInt8} (h : plainB b = true) : (97 ≤ (b.toNat : Int) ∧ (b.toNat : Int) ≤ 122) ∨ (48 ≤ (b.toNat : Int) ∧ (b.toNat : Int) ≤ 57) ∨ (b.toNat : Int) = 46 ∨ (b.toNat : Int) = 95 ∨ (b.toNat : Int) = 45 := by
  unfold plainB at h
  simp only [Bool.or_eq_true, Bool.and_eq_true, decide_eq_true_eq] at h
  omega
theorem plainB_not {b : UInt8} (h : plainB b = false) : ¬ ((97 ≤ (b.toNat : Int) ∧ (b.toNat : Int) ≤ 122) ∨ (48 ≤ (b.toNat : Int) ∧ (b.toNat : Int) ≤ 57) ∨ (b.toNat : Int) = 46 ∨ (b.toNat : Int) = 95 ∨ (b.toNat : Int) = 45) := by
  rw [Bool.eq_false_iff] at h
  intro h2
  apply h
  unfold plainB
  simp only [Bool.or_eq_true, Bool.and_eq_true, decide_eq_true_eq]
  omega

theorem size_ne {l : Txt} (h : ¬ bs l = ByteArray.empty) : (1 : Int) ≤ ((bs l).size : Int) := by
  cases l with
  | nil => exact absurd rfl h
  | cons a t => rw [bs_size]; simp only [List.length_cons]; omega

set_option maxRecDepth 100000 in
set_option maxHeartbeats 1000000 in
theorem rname_any (l : Txt) (w : World) : Calls Tryz.prog 81 #[.string (bs l)] w fun e w' => e = .returned (.bool (nameB l)) ∧ w = w' := by
  by_cases hh : headB l = true
  · have h0 := hh
    unfold headB at h0
    simp only [Bool.and_eq_true, decide_eq_true_eq] at h0
    obtain ⟨⟨⟨h1, h2⟩, h3⟩, h4⟩ := h0
    have d1 : ((bs l).toList == [46]) = false := by rw [bs_toList]; simpa using h1
    have d1' : ¬ (bs l).toList = [46] := by rw [bs_toList]; exact h1
    have d2 : ((bs l).toList == [46, 46]) = false := by rw [bs_toList]; simpa using h2
    have d2' : ¬ (bs l).toList = [46, 46] := by rw [bs_toList]; exact h2
    have d3 : 1 ≤ (bs l).size := by rw [bs_size]; exact h3
    have d4 : (bs l).size ≤ 11 := by rw [bs_size]; exact h4
    have d3I : (1 : Int) ≤ ((bs l).size : Int) := by omega
    have d4I : ((bs l).size : Int) ≤ 11 := by omega
    have d0 : (((bs l).size : Int) == 0) = false := by rw [beq_eq_false_iff_ne]; omega
    have d0' : ¬ bs l = ByteArray.empty := fun e => by rw [e] at d3; exact absurd d3 (by decide)
    have HH := Lib.hid hh
    clear hh h1 h2 h3 h4
    go_enter Tryz.func81, Tryz.ntmps81
    go_wp2_with fail
    go_loop [3] (fun i => ∃ k : Nat, k ≤ (bs l).size ∧ i = .int .i64 k ∧ Hid (∀ j (hj : j < l.length), j < k → plainB l[j] = true)) (fun i => (bs l).size - (intOf i).toNat)
    case atStart => exact ⟨0, Nat.zero_le _, rfl, fun j _ h => absurd h (Nat.not_lt_zero j)⟩
    case round =>
      obtain ⟨k, hk, rfl, HA⟩ := hrel
      by_cases hlt : k < (bs l).size
      · have hlt2 : k < l.length := by rw [← bs_size]; exact hlt
        have t1 : decide ((k : Int) < ((bs l).size : Int)) = true := by simp; omega
        obtain ⟨b, hb⟩ : ∃ b, b = l[k] := ⟨_, rfl⟩
        have hget : (bs l)[k]'hlt = b := by rw [hb]; rfl
        cases hp : plainB b with
        | true =>
          have hall : ∀ j (hj : j < l.length), j < k + 1 → plainB l[j] = true := fun j hj hjk => by
            by_cases e : j = k
            · subst e; rw [← hb]; exact hp
            · exact HA.out j hj (by omega)
          have HA2 := Lib.hid hall
          have hc := plainB_cases hp
          clear hb hp hall hlt2
          rcases hc with ⟨c1, c2⟩ | ⟨c1, c2⟩ | c1 | c1 | c1
          all_goals
            go_wp2
            go_round
            case rel => exact ⟨k + 1, by omega, by go_num, HA2.out⟩
            case measure => simp [intOf]; omega
        | false =>
          have hf : nameB l = false := nameB_bad hlt2 (by rw [← hb]; exact hp)
          have HF := Lib.hid hf
          have hc := plainB_not hp
          have hc2 : (b.toNat : Int) ≤ 44 ∨ (b.toNat : Int) = 47 ∨ (58 ≤ (b.toNat : Int) ∧ (b.toNat : Int) ≤ 94) ∨ (b.toNat : Int) = 96 ∨ 123 ≤ (b.toNat : Int) := by omega
          have e1 : ((b.toNat : Int) == 46) = false := by rw [beq_eq_false_iff_ne]; omega
          have e2 : ((b.toNat : Int) == 95) = false := by rw [beq_eq_false_iff_ne]; omega
          have e3 : ((b.toNat : Int) == 45) = false := by rw [beq_eq_false_iff_ne]; omega
          have e1' : ¬ (b.toNat : Int) = 46 := by omega
          have e2' : ¬ (b.toNat : Int) = 95 := by omega
          have e3' : ¬ (b.toNat : Int) = 45 := by omega
          clear hf hb hp hlt2 hc
          rcases hc2 with c1 | c1 | ⟨c1, c2⟩ | c1 | c1
          all_goals
            go_wp2
            all_goals first
              | (go_ret; rw [HF.out]; exact ⟨rfl, rfl⟩)
              | (exfalso; omega)
              | (exfalso; simp_all; omega)
              | (exfalso; simp_all; done)
      · obtain rfl : k = (bs l).size := by omega
        have t1 : decide (((bs l).size : Int) < ((bs l).size : Int)) = false := by simp
        have hf := nameB_all HH.out (fun b hb => by
          obtain ⟨j, hj, rfl⟩ := List.getElem_of_mem hb
          exact HA.out j hj (by rw [bs_size]; exact hj))
        have HF := Lib.hid hf
        clear hf
        go_wp2
        go_ret
        rw [HF.out]
        exact ⟨rfl, rfl⟩
  · have hh' : headB l = false := by simpa using hh
    have hf := nameB_head hh'
    rw [hf]
    have hh2 : ¬ (((¬ (bs l).toList = [46] ∧ ¬ (bs l).toList = [46, 46]) ∧ (1 : Int) ≤ ((bs l).size : Int)) ∧ ((bs l).size : Int) ≤ 11) := by
      rintro ⟨⟨⟨h1, h2⟩, h3⟩, h4⟩
      rw [bs_toList] at h1 h2
      rw [bs_size] at h3 h4
      apply hh
      unfold headB
      simp only [Bool.and_eq_true, decide_eq_true_eq]
      exact ⟨⟨⟨h1, h2⟩, by omega⟩, by omega⟩
    have HN := Lib.hid hh2
    clear hh hh' hf hh2
    go_enter Tryz.func81, Tryz.ntmps81
    go_wp2_with fail
    all_goals first
      | (go_ret; exact ⟨rfl, rfl⟩)
      | (exfalso; refine HN.out ⟨⟨⟨by simp_all, by simp_all⟩, size_ne (by assumption)⟩, by simp_all⟩)
      | (exfalso; apply HN.out; simp_all; omega)
      | (exfalso; apply HN.out; simp_all)
end Go.Proofs.YtabecceojbeomaaGreatDoor
