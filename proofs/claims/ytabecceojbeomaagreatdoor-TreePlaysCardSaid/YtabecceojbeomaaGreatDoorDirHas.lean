/- The contract of slices.ContainsFunc at texts and at the test of Split. Condition: lengths within an int. -/
import Derived.Test.YtabecceojbeomaaGreatDoorDirName
namespace Go.Cat.Dir
open Go.RowKit Go.Cat
/-- Is one of some texts no name? -/
def badB (ls : List Txt) : Bool := decide (¬ ∀ l ∈ ls, nameP l)
abbrev Texts (w : World) (A : Option Addr) (ls : List Txt) : Prop := Sees w A (ls.map sv)
theorem Texts.at_ {w : World} {A : Option Addr} {ls : List Txt} (h : Texts w A ls) {k : Nat} (hk : k < ls.length) : ∃ b off, A = some ⟨b, off, none⟩ ∧ b < w.heap.size ∧ w.cell? ⟨b, off + k, none⟩ = some (.string (bs ls[k])) := by
  obtain ⟨b, off, hA, hb, hc⟩ := Sees.at_ h (by rw [List.length_map]; omega)
  refine ⟨b, off, hA, hb, ?_⟩
  rw [hc k (by rw [List.length_map]; exact hk)]
  simp [sv]
theorem nameB_iff (l : Txt) : nameB l = true ↔ nameP l := by unfold nameB; exact decide_eq_true_iff
theorem nameB_not (l : Txt) : nameB l = false ↔ ¬ nameP l := by unfold nameB; exact decide_eq_false_iff_not
end Go.Cat.Dir
namespace Go.Proofs.YtabecceojbeomaaGreatDoor
open Go.RowKit Go.Cat Go.Cat.Dir

theorem isnot_any (l : Txt) (w : World) : Calls Tryz.prog 103 #[.string (bs l)] w fun e w' => e = .returned (.bool (!nameB l)) ∧ Below w.heap.size w w' := by
  have P1 := Lib.hid (name_any l w)
  go_enter Tryz.func103, Tryz.ntmps103
  go_wp2_with fail
  refine (P1.out).mono ?_
  rintro e w1 ⟨rfl, hB⟩
  go_wp2_with fail
  go_ret
  exact ⟨rfl, hB⟩

/-- What IndexFunc tells. -/
def ToldX (ls : List Txt) (w : World) (e : Ending) (w' : World) : Prop := ∃ z : Int, e = .returned (.int .i64 z) ∧ decide (0 ≤ z) = badB ls ∧ Below w.heap.size w w'

set_option maxRecDepth 100000 in
theorem indexbad_any (A : Option Addr) (ls : List Txt) (c : Nat) (w : World) (hs : Texts w A ls) (hn : ls.length ≤ 9223372036854775807) :
    Calls Tryz.prog 117 #[.slice A ls.length c, .func (.func 103) #[] #[]] w (ToldX ls w) := by
  obtain ⟨n, hnn⟩ : ∃ n, n = ls.length := ⟨_, rfl⟩
  rw [← hnn] at hn ⊢
  have HN := Lib.hid hnn
  have HS := Lib.hid hs
  clear hnn hs
  go_enter Tryz.func117, Tryz.ntmps117
  go_wp2_with fail
  go_loopw [5, 8] (fun _ iv wr => ∃ k : Nat, k ≤ n ∧ iv = .int .i64 k ∧ Hid (∀ j (hj : j < ls.length), j < k → nameB ls[j] = true) ∧ Hid (Below w.heap.size w wr)) (fun _ iv _ => n - (intOf iv).toNat)
  case atStart => exact ⟨0, Nat.zero_le _, rfl, fun j _ h => absurd h (Nat.not_lt_zero j), Below.refl _ _⟩
  case round =>
    obtain ⟨k, hk, rfl, HA, HB⟩ := hrel
    by_cases hlt : k < n
    · have t1 : decide ((k : Int) < (n : Int)) = true := by simp; omega
      have hkl : k < ls.length := by rw [← HN.out]; exact hlt
      obtain ⟨b, off, hA, hbl, hc⟩ := Texts.at_ (HS.out.below HB.out) hkl
      obtain ⟨l, hl⟩ : ∃ l, l = ls[k] := ⟨_, rfl⟩
      rw [← hl] at hc
      have hkI : (k : Int) < (n : Int) := by omega
      have hk0 : (0 : Int) ≤ (k : Int) := by omega
      have P1 := Lib.hid (isnot_any l wr)
      cases hb : nameB l with
      | true =>
        have hall : ∀ j (hj : j < ls.length), j < k + 1 → nameB ls[j] = true := fun j hj hjk => by
          by_cases e : j = k
          · subst e; rw [← hl]; exact hb
          · exact HA.out j hj (by omega)
        have HA2 := Lib.hid hall
        rw [hb] at P1
        subst hA
        clear hl hb hall hbl hkl
        go_wp2_with (go_at_call 103; refine (P1.out).mono ?_; rintro e w1 ⟨rfl, hB1⟩)
        have HB1 := Lib.hid (HB.out.trans (hB1.mono HB.out.size))
        clear hB1
        go_roundw
        case rel => exact ⟨k + 1, by omega, by go_num, HA2.out, HB1.out⟩
        case measure => simp [intOf]; omega
      | false =>
        have hbad : badB ls = true := by
          unfold badB
          rw [decide_eq_true_iff]
          intro h
          have := (nameB_iff _).2 (h ls[k] (List.getElem_mem hkl))
          rw [← hl, hb] at this
          cases this
        have HBad := Lib.hid hbad
        rw [hb] at P1
        subst hA
        clear hl hb hbad hbl hkl
        go_wp2_with (go_at_call 103; refine (P1.out).mono ?_; rintro e w1 ⟨rfl, hB1⟩)
        go_ret
        exact ⟨k, rfl, by rw [HBad.out]; simp, HB.out.trans (hB1.mono HB.out.size)⟩
    · obtain rfl : k = n := by omega
      have t1 : decide ((k : Int) < (k : Int)) = false := by simp
      have hgood : badB ls = false := by
        unfold badB
        rw [decide_eq_false_iff_not]
        intro h
        apply h
        intro l hl
        obtain ⟨j, hj, rfl⟩ := List.getElem_of_mem hl
        exact (nameB_iff _).1 (HA.out j hj (by rw [HN.out]; exact hj))
      have HG := Lib.hid hgood
      clear hgood
      go_wp2_with fail
      go_ret
      exact ⟨-1, rfl, by rw [HG.out]; simp, HB.out⟩

theorem hasbad_any (A : Option Addr) (ls : List Txt) (c : Nat) (w : World) (hs : Texts w A ls) (hn : ls.length ≤ 9223372036854775807) :
    Calls Tryz.prog 102 #[.slice A ls.length c, .func (.func 103) #[] #[]] w fun e w' => e = .returned (.bool (badB ls)) ∧ Below w.heap.size w w' := by
  have P1 := Lib.hid (indexbad_any A ls c w hs hn)
  obtain ⟨n, hnn⟩ : ∃ n, n = ls.length := ⟨_, rfl⟩
  rw [← hnn] at P1 ⊢
  obtain ⟨B, hB⟩ : ∃ B, B = badB ls := ⟨_, rfl⟩
  rw [← hB]
  have HB := Lib.hid hB
  clear hs hn hnn hB
  go_enter Tryz.func102, Tryz.ntmps102
  go_wp2_with fail
  refine (P1.out).mono ?_
  rintro e w1 ⟨z, rfl, hz, hB1⟩
  rw [← HB.out] at hz
  go_wp2_with fail
  go_ret
  exact ⟨by first | rw [hz] | simp, hB1⟩
end Go.Proofs.YtabecceojbeomaaGreatDoor
