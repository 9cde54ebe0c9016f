/- The contract of dirs.Check. Condition: at most 1000000 entries. -/
import Derived.Test.YtjilejmchaejiaaDoorEntSee
namespace Go.Proofs.YtjilejmchaejiaaDoor
open Go.RowKit Go.Cat Go.Cat.Dir

theorem ord_step {l : List Ent} {j : Nat} (hj : j + 1 < l.length) {x p : Txt} (hx : x = l[j + 1].1) (hp : p = l[j].1) : ordB l (j + 1) = Op.bytesLess p x := by rw [ord_at hj, hx, hp]

set_option maxRecDepth 100000 in
set_option maxHeartbeats 4000000 in
theorem dcheck_any (A : Option Addr) (l : List Ent) (c : Nat) (w : World) (hs : Sees w A (erows l)) (hn : l.length ≤ 1000000) :
    Calls Tryd.prog 18 #[.slice A l.length c] w fun e w' => e = .returned (.int .i64 (checkE l)) ∧ Below w.heap.size w w' := by
  obtain ⟨V, hV⟩ : ∃ V, V = checkE l := ⟨_, rfl⟩
  obtain ⟨n, hnn⟩ : ∃ n, n = l.length := ⟨_, rfl⟩
  rw [← hV]
  have HN := Lib.hid hnn
  have HV := Lib.hid hV
  have HS := Lib.hid hs
  rw [← hnn] at hn ⊢
  clear hnn hs hV
  by_cases h32 : 32 < n
  · have hv : V = 17 := by rw [HV.out]; exact check_big (by rw [← HN.out]; exact h32)
    subst hv
    have d1 : decide ((32 : Int) < (n : Int)) = true := by simp; omega
    have d1' : decide (32 < n) = true := by simpa using h32
    go_enter Tryd.func18, Tryd.ntmps18
    go_wp2_with fail
    go_ret
    exact ⟨rfl, Below.refl _ _⟩
  · have d1 : decide ((32 : Int) < (n : Int)) = false := by simp; omega
    have d1' : decide (32 < n) = false := by simpa using h32
    have h32' : ¬ 32 < l.length := by rw [← HN.out]; exact h32
    have H32 := Lib.hid h32'
    clear h32'
    go_enter Tryd.func18, Tryd.ntmps18
    go_wp2_with fail
    go_loopw [10] (fun iv wr => ∃ k : Nat, k ≤ n ∧ iv = .int .i64 k ∧ Hid (∀ j, j < k → entErr l j = 0) ∧ Hid (Below w.heap.size w wr)) (fun iv _ => n - (intOf iv).toNat)
    case atStart => exact ⟨0, Nat.zero_le _, rfl, fun j h => absurd h (Nat.not_lt_zero j), Below.refl _ _⟩
    case round =>
      obtain ⟨k, hk, rfl, HA, HB⟩ := hrel
      by_cases hlt : k < n
      · have t1 : decide ((k : Int) < (n : Int)) = true := by simp; omega
        have hkl : k < l.length := by have := HN.out; omega
        obtain ⟨b, off, rfl, hbl, e0, e1⟩ := erows_at HS.out hkl
        have hprev : ∀ j, k = j + 1 → ∃ z, ordB l k = Op.bytesLess z l[k].1 ∧ w.cell? ⟨b, off + j * 2, none⟩ = some (.string (bs z)) := by
          rintro j rfl
          obtain ⟨b2, off2, hA2, _, p0, _⟩ := erows_at HS.out (k := j) (by omega)
          injection hA2 with hA2
          injection hA2 with h1 h2 _
          subst h1 h2
          refine ⟨(l.getD j ([], 0)).1, ?_, ?_⟩
          · rw [ord_at hkl, List.getD_eq_getElem?_getD, List.getElem?_eq_getElem (by omega)]; rfl
          · rw [p0, List.getD_eq_getElem?_getD, List.getElem?_eq_getElem (by omega)]; rfl
        have q0 := (HB.out.cell (p := ⟨b, off + k * 2, none⟩) hbl).trans e0
        have q1 := (HB.out.cell (p := ⟨b, off + k * 2 + 1, none⟩) hbl).trans e1
        have hname := ent_name hkl
        have hform := ent_form hkl
        have hfine := ent_ok hkl
        have hat := check_at H32.out hkl HA.out
        rw [← HV.out] at hat
        obtain ⟨x, hx⟩ : ∃ x, x = l[k].1 := ⟨_, rfl⟩
        obtain ⟨y, hy⟩ : ∃ y, y = l[k].2 := ⟨_, rfl⟩
        rw [← hx] at q0 hname hform hfine hprev
        have HPrev := Lib.hid hprev
        have HBl := Lib.hid hbl
        rw [← hy] at q1 hform hfine
        have hkI : (k : Int) < (n : Int) := by omega
        have hk0 : (0 : Int) ≤ (k : Int) := by omega
        have hb1 : Below wr.heap.size wr (wr.alloc (.cells #[.string (bs x), .int .i64 y] 56)) := (Below.refl _ _).alloc (Nat.le_refl _) _
        have hx1 := heap_alloc_new wr (.cells #[.string (bs x), .int .i64 y] 56)
        have p1 := name_any x (wr.alloc (.cells #[.string (bs x), .int .i64 y] 56))
        obtain ⟨g, hg⟩ : ∃ g, g = wr.heap.size := ⟨_, rfl⟩
        rw [← hg] at hx1
        have hgl : g < (wr.alloc (.cells #[.string (bs x), .int .i64 y] 56)).heap.size := (Array.getElem?_eq_some_iff.1 hx1).1
        have x0 := cell_of_row _ _ 0 _ _ _ hx1
        simp at x0
        have HX1 := Lib.hid hx1
        have HBw1 := Lib.hid (HB.out.trans (hb1.mono HB.out.size))
        have P1 := Lib.hid p1
        have HX := Lib.hid hx
        have HY := Lib.hid hy
        have HName := Lib.hid hname
        have HForm := Lib.hid hform
        have HFine := Lib.hid hfine
        have HAt := Lib.hid hat
        have HG := Lib.hid hg
        clear hx hy hname hform hfine hat p1 hx1 hb1 e0 e1 hprev
        cases hnm : nameB x with
        | false =>
          rw [hnm] at P1
          have hv : V = 18 := by
            have h := HName.out hnm
            rw [HAt.out (by rw [h]; decide), h]
          subst hv
          clear hnm
          go_wp2_with fail
          refine (P1.out).mono ?_
          rintro e w2 ⟨rfl, hB2⟩
          have HB2 := Lib.hid (HBw1.out.trans (hB2.mono HBw1.out.size))
          clear hB2
          go_wp2_with fail
          go_ret
          exact ⟨rfl, HB2.out⟩
        | true =>
          rw [hnm] at P1
          have HForm' := Lib.hid (HForm.out hnm)
          have HFine' := Lib.hid (HFine.out hnm)
          have P2 := Lib.hid (fun W => (node_any y W).mono (R' := fun e w' => e = .returned (.bool (nodeB y)) ∧ w' = W) fun _ _ ⟨h1, h2⟩ => ⟨h1, h2.symm⟩)
          clear hnm
          go_wp2_with fail
          refine (P1.out).mono ?_
          rintro e w2 ⟨rfl, hB2⟩
          have k0 := (hB2.cell (p := ⟨g, 0, none⟩) hgl).trans (cell_of_row _ _ 0 _ _ _ HX1.out)
          have k1 := (hB2.cell (p := ⟨g, 1, none⟩) hgl).trans (cell_of_row _ _ 1 _ _ _ HX1.out)
          simp at k0 k1
          have hBw2 := HBw1.out.trans (hB2.mono HBw1.out.size)
          have HB2 := Lib.hid hBw2
          clear hB2 hBw2 x0 q0 q1
          rw [HG.out] at k0 k1
          cases hnd : nodeB y with
          | false =>
            rw [hnd] at P2
            have hv : V = 4 := by
              have h := HForm'.out (.inl hnd)
              rw [HAt.out (by rw [h]; decide), h]
            subst hv
            clear hnd
            go_wp2_with fail
            go_quiet ((go_at_call 44; exact Calls.quiet_of_same (P2.out _)))
            go_wp2_with fail
            go_ret
            exact ⟨rfl, below_drewN HB2.out _⟩
          | true =>
            rw [hnd] at P2
            have HFine2 := Lib.hid (HFine'.out hnd)
            clear hnd
            by_cases hk0' : k = 0
            · have t2 : decide ((0 : Int) < (k : Int)) = false := by simp; omega
              have t2n : decide (0 < k) = false := by simp; omega
              have hA2 : ∀ j, j < k + 1 → entErr l j = 0 := fun j hj => by
                by_cases e : j = k
                · subst e; exact HFine2.out (by rw [hk0']; rfl)
                · exact HA.out j (by omega)
              have HA2 := Lib.hid hA2
              clear hA2 HA hk0'
              go_wp2_with fail
              go_quiet ((go_at_call 44; exact Calls.quiet_of_same (P2.out _)))
              go_wp2_with fail
              go_roundw
              case rel => exact ⟨k + 1, by omega, by go_num, HA2.out, below_drewN HB2.out _⟩
              case measure => simp [intOf]; omega
            · have t2 : decide ((0 : Int) < (k : Int)) = true := by simp; omega
              have t2n : decide (0 < k) = true := by simp; omega
              obtain ⟨j, hj⟩ : ∃ j, k = j + 1 := ⟨k - 1, by omega⟩
              obtain ⟨z, hord, hz⟩ := HPrev.out j hj
              have m0 := (HB2.out.cell (p := ⟨b, off + j * 2, none⟩) HBl.out).trans hz
              have hkw : IntKind.i64.wrap ((k : Int) - 1) = (k : Int) - 1 := IntWalk.i64_in _ (by omega)
              have hkn : ((k : Int) - 1).toNat = j := by omega
              have hki0 : (0 : Int) ≤ (k : Int) - 1 := by omega
              have hki1 : (k : Int) - 1 < (n : Int) := by omega
              have hle := less_or x z
              clear hz hj hk0'
              cases ho : Op.bytesLess z x with
              | true =>
                rw [ho] at hord hle
                simp only [Bool.not_true, Bool.or_eq_false_iff] at hle
                have o1 : Op.bytesLess (bs x).toList (bs z).toList = false := by rw [bs_toList, bs_toList]; exact hle.1
                have o2 : ((bs x).toList == (bs z).toList) = false := by rw [bs_toList, bs_toList]; exact hle.2
                have o2' : ¬ (bs x).toList = (bs z).toList := by simpa using o2
                have hA2 : ∀ j, j < k + 1 → entErr l j = 0 := fun j hj => by
                  by_cases e : j = k
                  · subst e; exact HFine2.out hord
                  · exact HA.out j (by omega)
                have HA2 := Lib.hid hA2
                clear hA2 HA hle ho hord
                go_wp2_with fail
                go_quiet ((go_at_call 44; exact Calls.quiet_of_same (P2.out _)))
                go_wp2_with fail
                go_roundw
                case rel => exact ⟨k + 1, by omega, by go_num, HA2.out, below_drewN HB2.out _⟩
                case measure => simp [intOf]; omega
              | false =>
                rw [ho] at hord hle
                have hv : V = 4 := by
                  have h := HForm'.out (.inr hord)
                  rw [HAt.out (by rw [h]; decide), h]
                subst hv
                have o3 : (Op.bytesLess (bs x).toList (bs z).toList || ((bs x).toList == (bs z).toList)) = true := by rw [bs_toList, bs_toList]; exact hle
                have o3' : (Op.bytesLess (bs x).toList (bs z).toList = true ∨ (bs x).toList = (bs z).toList) := by simpa using o3
                clear hle ho hord HA
                go_wp2_with fail
                go_quiet ((go_at_call 44; exact Calls.quiet_of_same (P2.out _)))
                go_wp2_with fail
                go_ret
                exact ⟨rfl, below_drewN HB2.out _⟩
      · obtain rfl : k = n := by omega
        have t1 : decide ((k : Int) < (k : Int)) = false := by simp
        have hv : V = 0 := by rw [HV.out]; exact check_ok H32.out (fun j hj => HA.out j (by rw [HN.out]; exact hj))
        subst hv
        go_wp2_with fail
        go_ret
        exact ⟨rfl, HB.out⟩
end Go.Proofs.YtjilejmchaejiaaDoor
