/- The contract of the reference's Check. Condition: at most 1000000 entries. -/
import Derived.Test.YtjilejmchaejiaaDoorEntSee
import Derived.Test.YtjilejmchaejiaaDoorDirRName
namespace Go.Proofs.YtjilejmchaejiaaDoor
open Go.RowKit Go.Cat Go.Cat.Dir

set_option maxRecDepth 100000 in
set_option maxHeartbeats 4000000 in
theorem rcheck_any (A : Option Addr) (l : List Ent) (c : Nat) (w : World) (hs : Sees w A (erows l)) (hn : l.length ≤ 1000000) :
    Calls Tryd.prog 21 #[.slice A l.length c] w fun e w' => e = .returned (.int .i64 (checkE l)) ∧ Below w.heap.size w w' := by
  obtain ⟨V, hV⟩ : ∃ V, V = checkE l := ⟨_, rfl⟩
  obtain ⟨n, hnn⟩ : ∃ n, n = l.length := ⟨_, rfl⟩
  rw [← hV]
  have HN := Lib.hid hnn
  have HV := Lib.hid hV
  have HS := Lib.hid hs
  rw [← hnn] at hn ⊢
  clear hnn hs hV
  by_cases h32 : 32 < n
  · have hv : V = 17 := by rw [HV.out]; exact check_big (by rw [← HN.out]; exact h32)
    subst hv
    have d1 : decide ((32 : Int) < (n : Int)) = true := by simp; omega
    have d1' : decide (32 < n) = true := by simpa using h32
    go_enter Tryd.func21, Tryd.ntmps21
    go_wp2_with fail
    go_ret
    exact ⟨rfl, Below.refl _ _⟩
  · have d1 : decide ((32 : Int) < (n : Int)) = false := by simp; omega
    have d1' : decide (32 < n) = false := by simpa using h32
    have h32' : ¬ 32 < l.length := by rw [← HN.out]; exact h32
    have H32 := Lib.hid h32'
    clear h32'
    go_enter Tryd.func21, Tryd.ntmps21
    go_wp2_with fail
    go_loopw [3] (fun iv wr => ∃ k : Nat, k ≤ n ∧ iv = .int .i64 k ∧ Hid (∀ j, j < k → entErr l j = 0) ∧ Hid (Below w.heap.size w wr)) (fun iv _ => n - (intOf iv).toNat)
    case atStart => exact ⟨0, Nat.zero_le _, rfl, fun j h => absurd h (Nat.not_lt_zero j), Below.refl _ _⟩
    case round =>
      obtain ⟨k, hk, rfl, HA, HB⟩ := hrel
      by_cases hlt : k < n
      · have t1 : decide ((k : Int) < (n : Int)) = true := by simp; omega
        have hkl : k < l.length := by have := HN.out; omega
        obtain ⟨b, off, rfl, hbl, e0, e1⟩ := erows_at HS.out hkl
        have hprev : ∀ j, k = j + 1 → ∃ z, ordB l k = Op.bytesLess z l[k].1 ∧ w.cell? ⟨b, off + j * 2, none⟩ = some (.string (bs z)) := by
          rintro j rfl
          obtain ⟨b2, off2, hA2, _, p0, _⟩ := erows_at HS.out (k := j) (by omega)
          injection hA2 with hA2
          injection hA2 with h1 h2 _
          subst h1 h2
          refine ⟨(l.getD j ([], 0)).1, ?_, ?_⟩
          · rw [ord_at hkl, List.getD_eq_getElem?_getD, List.getElem?_eq_getElem (by omega)]; rfl
          · rw [p0, List.getD_eq_getElem?_getD, List.getElem?_eq_getElem (by omega)]; rfl
        have q0 := (HB.out.cell (p := ⟨b, off + k * 2, none⟩) hbl).trans e0
        have q1 := (HB.out.cell (p := ⟨b, off + k * 2 + 1, none⟩) hbl).trans e1
        have hname := ent_name hkl
        have hform := ent_form hkl
        have hfine := ent_ok hkl
        have hat := check_at H32.out hkl HA.out
        rw [← HV.out] at hat
        obtain ⟨x, hx⟩ : ∃ x, x = l[k].1 := ⟨_, rfl⟩
        obtain ⟨y, hy⟩ : ∃ y, y = l[k].2 := ⟨_, rfl⟩
        rw [← hx] at q0 hname hform hfine hprev
        have HPrev := Lib.hid hprev
        have HBl := Lib.hid hbl
        rw [← hy] at q1 hform hfine
        have hkI : (k : Int) < (n : Int) := by omega
        have hk0 : (0 : Int) ≤ (k : Int) := by omega
        have P1 := Lib.hid (rname_any x wr)
        have HName := Lib.hid hname
        have HForm := Lib.hid hform
        have HFine := Lib.hid hfine
        have HAt := Lib.hid hat
        clear hx hy hname hform hfine hat e0 e1 hprev
        cases hnm : nameB x with
        | false =>
          rw [hnm] at P1
          have hv : V = 18 := by
            have h := HName.out hnm
            rw [HAt.out (by rw [h]; decide), h]
          subst hv
          clear hnm
          go_wp2_with fail
          refine (P1.out).mono ?_
          rintro e w2 ⟨rfl, rfl⟩
          go_wp2_with fail
          go_ret
          exact ⟨rfl, HB.out⟩
        | true =>
          rw [hnm] at P1
          have HForm' := Lib.hid (HForm.out hnm)
          have HFine' := Lib.hid (HFine.out hnm)
          clear hnm
          cases hnd : nodeB y with
          | false =>
            have hv : V = 4 := by
              have h := HForm'.out (.inl hnd)
              rw [HAt.out (by rw [h]; decide), h]
            subst hv
            have hnr := (nodeB_not y).1 hnd
            clear hnd
            by_cases hy1 : y < 1
            · have d2 : decide (y < 1) = true := by simpa using hy1
              clear hnr
              go_wp2_with fail
              refine (P1.out).mono ?_
              rintro e w2 ⟨rfl, rfl⟩
              go_wp2_with fail
              go_quiet (fail)
              go_wp2_with fail
              go_ret
              exact ⟨rfl, below_drewN HB.out _⟩
            · have d2 : decide (y < 1) = false := by simpa using hy1
              have d3 : decide (65535 < y) = true := by simp; omega
              clear hnr
              go_wp2_with fail
              refine (P1.out).mono ?_
              rintro e w2 ⟨rfl, rfl⟩
              go_wp2_with fail
              go_quiet (fail)
              go_wp2_with fail
              go_ret
              exact ⟨rfl, below_drewN HB.out _⟩
          | true =>
            have hyr := (nodeB_iff y).1 hnd
            have d2 : decide (y < 1) = false := by simp; omega
            have d3 : decide (65535 < y) = false := by simp; omega
            have HFine2 := Lib.hid (HFine'.out hnd)
            clear hnd hyr
            by_cases hk0' : k = 0
            · have t2 : decide ((0 : Int) < (k : Int)) = false := by simp; omega
              have t2n : decide (0 < k) = false := by simp; omega
              have hA2 : ∀ j, j < k + 1 → entErr l j = 0 := fun j hj => by
                by_cases e : j = k
                · subst e; exact HFine2.out (by rw [hk0']; rfl)
                · exact HA.out j (by omega)
              have HA2 := Lib.hid hA2
              clear hA2 HA hk0'
              go_wp2_with fail
              refine (P1.out).mono ?_
              rintro e w2 ⟨rfl, rfl⟩
              go_wp2_with fail
              go_quiet (fail)
              go_wp2_with fail
              go_roundw
              case rel => exact ⟨k + 1, by omega, by go_num, HA2.out, below_drewN HB.out _⟩
              case measure => simp [intOf]; omega
            · have t2 : decide ((0 : Int) < (k : Int)) = true := by simp; omega
              have t2n : decide (0 < k) = true := by simp; omega
              obtain ⟨j, hj⟩ : ∃ j, k = j + 1 := ⟨k - 1, by omega⟩
              obtain ⟨z, hord, hz⟩ := HPrev.out j hj
              have m0 := (HB.out.cell (p := ⟨b, off + j * 2, none⟩) HBl.out).trans hz
              have hkw : IntKind.i64.wrap ((k : Int) - 1) = (k : Int) - 1 := IntWalk.i64_in _ (by omega)
              have hkn : ((k : Int) - 1).toNat = j := by omega
              have hki0 : (0 : Int) ≤ (k : Int) - 1 := by omega
              have hki1 : (k : Int) - 1 < (n : Int) := by omega
              clear hz hj hk0'
              cases ho : Op.bytesLess z x with
              | true =>
                rw [ho] at hord
                have o1 : Op.bytesLess (bs z).toList (bs x).toList = true := by rw [bs_toList, bs_toList]; exact ho
                have hA2 : ∀ j, j < k + 1 → entErr l j = 0 := fun j hj => by
                  by_cases e : j = k
                  · subst e; exact HFine2.out hord
                  · exact HA.out j (by omega)
                have HA2 := Lib.hid hA2
                clear hA2 HA ho hord
                go_wp2_with fail
                refine (P1.out).mono ?_
                rintro e w2 ⟨rfl, rfl⟩
                go_wp2_with fail
                go_quiet (fail)
                go_wp2_with fail
                go_roundw
                case rel => exact ⟨k + 1, by omega, by go_num, HA2.out, below_drewN HB.out _⟩
                case measure => simp [intOf]; omega
              | false =>
                rw [ho] at hord
                have hv : V = 4 := by
                  have h := HForm'.out (.inr hord)
                  rw [HAt.out (by rw [h]; decide), h]
                subst hv
                have o1 : Op.bytesLess (bs z).toList (bs x).toList = false := by rw [bs_toList, bs_toList]; exact ho
                clear ho hord HA
                go_wp2_with fail
                refine (P1.out).mono ?_
                rintro e w2 ⟨rfl, rfl⟩
                go_wp2_with fail
                go_quiet (fail)
                go_wp2_with fail
                go_ret
                exact ⟨rfl, below_drewN HB.out _⟩
      · obtain rfl : k = n := by omega
        have t1 : decide ((k : Int) < (k : Int)) = false := by simp
        have hv : V = 0 := by rw [HV.out]; exact check_ok H32.out (fun j hj => HA.out j (by rw [HN.out]; exact hj))
        subst hv
        go_wp2_with fail
        go_ret
        exact ⟨rfl, HB.out⟩
end Go.Proofs.YtjilejmchaejiaaDoor
