/- The contracts of the program's and the reference's Name. Condition: a length within an int. -/
import Derived.Test.YtabecceojbeomaaGreatDoorDirPure
import Derived.Test.YtabecceojbeomaaGreatDoorProg
import Derived.Laws.RangeString
import Derived.Laws.RangeAny
namespace Go.Proofs.YtabecceojbeomaaGreatDoor
open Go.RowKit Go.Cat Go.Cat.Dir

/-- A letter of names, as a rune. -/
def plainI (c : Int) : Bool := (decide (97 ≤ c) && decide (c ≤ 122)) || (decide (48 ≤ c) && decide (c ≤ 57)) || decide (c = 46) || decide (c = 95) || decide (c = 45)

theorem plainI_of (b : UInt8) : plainI (b.toNat : Int) = plainB b := by
  unfold plainI plainB
  rw [Bool.eq_iff_iff]
  simp only [Bool.or_eq_true, Bool.and_eq_true, decide_eq_true_eq]
  omega
theorem plainI_high {c : Int} (h : 128 ≤ c) : plainI c = false := by
  unfold plainI
  rw [Bool.eq_false_iff]
  simp only [Bool.or_eq_true, Bool.and_eq_true, decide_eq_true_eq, ne_eq]
  omega
theorem plainB_low {b : UInt8} (h : plainB b = true) : b.toNat < 128 := by
  unfold plainB at h
  simp only [Bool.or_eq_true, Bool.and_eq_true, decide_eq_true_eq] at h
  omega
theorem bs_toList (l : Txt) : (bs l).toList = l := by rw [ByteArray.toList_eq]; rfl
theorem bs_get (l : Txt) (k : Nat) (h : k < (bs l).size) : (bs l)[k]'h = l[k]'(by rw [bs_size] at h; exact h) := rfl

set_option maxRecDepth 100000 in
theorem plain_any (c : Int) (w : World) : Calls Tryz.prog 118 #[.int .i32 c] w fun e w' => e = .returned (.bool (plainI c)) ∧ w = w' := by
  go_enter Tryz.func118, Tryz.ntmps118
  go_wp2
  all_goals
    go_ret
    refine ⟨?_, rfl⟩
    unfold plainI
    simp [*]
    try (rw [Bool.eq_iff_iff]; simp only [Bool.or_eq_true, Bool.and_eq_true, decide_eq_true_eq, beq_iff_eq]; omega)


/-- What a text's head tests tell. -/
def headB (l : Txt) : Bool := decide (l ≠ [46]) && decide (l ≠ [46, 46]) && decide (1 ≤ l.length) && decide (l.length ≤ 11)
theorem nameB_head {l : Txt} (h : headB l = false) : nameB l = false := by
  unfold headB at h
  unfold nameB
  rw [decide_eq_false_iff_not]
  rintro ⟨h1, h2, h3, h4, _⟩
  rw [Bool.eq_false_iff] at h
  apply h
  simp only [Bool.and_eq_true, decide_eq_true_eq]
  exact ⟨⟨⟨h1, h2⟩, h3⟩, h4⟩
theorem nameB_all {l : Txt} (h : headB l = true) (h2 : ∀ b ∈ l, plainB b = true) : nameB l = true := by
  unfold headB at h
  simp only [Bool.and_eq_true, decide_eq_true_eq] at h
  unfold nameB
  rw [decide_eq_true_iff]
  exact ⟨h.1.1.1, h.1.1.2, h.1.2, h.2, h2⟩
theorem nameB_bad {l : Txt} {k : Nat} (hk : k < l.length) (h : plainB l[k] = false) : nameB l = false := by
  unfold nameB
  rw [decide_eq_false_iff_not]
  rintro ⟨_, _, _, _, h5⟩
  have := h5 _ (List.getElem_mem hk)
  rw [h] at this
  cases this

set_option maxRecDepth 100000 in
theorem name_any (l : Txt) (w : World) : Calls Tryz.prog 104 #[.string (bs l)] w fun e w' => e = .returned (.bool (nameB l)) ∧ Below w.heap.size w w' := by
  by_cases hh : headB l = true
  · have h0 := hh
    unfold headB at h0
    simp only [Bool.and_eq_true, decide_eq_true_eq] at h0
    obtain ⟨⟨⟨h1, h2⟩, h3⟩, h4⟩ := h0
    have d1 : ((bs l).toList == [46]) = false := by rw [bs_toList]; simpa using h1
    have d1' : ¬ (bs l).toList = [46] := by rw [bs_toList]; exact h1
    have d2 : ((bs l).toList == [46, 46]) = false := by rw [bs_toList]; simpa using h2
    have d2' : ¬ (bs l).toList = [46, 46] := by rw [bs_toList]; exact h2
    have d3 : 1 ≤ (bs l).size := by rw [bs_size]; exact h3
    have d4 : (bs l).size ≤ 11 := by rw [bs_size]; exact h4
    have d3I : (1 : Int) ≤ ((bs l).size : Int) := by omega
    have d4I : ((bs l).size : Int) ≤ 11 := by omega
    have HH := Lib.hid hh
    clear hh h1 h2 h3 h4
    go_enter Tryz.func104, Tryz.ntmps104
    go_wp2_with fail
    go_loopw [] (fun wr => ∃ k : Nat, k ≤ l.length ∧ wr = w.iter (bs l) k ∧ Hid (∀ j (hj : j < l.length), j < k → plainB l[j] = true)) (fun wr => l.length - wr.iterPos w.heap.size)
    case atStart => exact ⟨0, Nat.zero_le _, rfl, fun j _ h => absurd h (Nat.not_lt_zero j)⟩
    case round =>
      obtain ⟨k, hk, rfl, HA⟩ := hrel
      by_cases hlt : k < l.length
      · have hp : k < (bs l).size := by rw [bs_size]; exact hlt
        have hnx : ∀ ty, (Instr.next (.pointer (some ⟨w.heap.size, 0, none⟩)) true ty).run Tryz.prog (w.iter (bs l) k) = _ := fun ty => run_next_any w (bs l) k ty hp
        have P1 := Lib.hid (fun W => plain_any ((Utf8.decode (bs l) k).1 : Int) W)
        cases hb : plainB l[k] with
        | true =>
          have hlow := plainB_low hb
          have hd : Utf8.decode (bs l) k = (l[k].toNat, 1) := decode_ascii (bs l) k hp (by rw [bs_get]; exact hlow)
          rw [hd] at hnx P1
          rw [plainI_of, hb] at P1
          have hall : ∀ j (hj : j < l.length), j < k + 1 → plainB l[j] = true := fun j hj hjk => by
            by_cases e : j = k
            · subst e; exact hb
            · exact HA.out j hj (by omega)
          have HA2 := Lib.hid hall
          obtain ⟨r, hr⟩ : ∃ r : Int, r = (l[k].toNat : Int) := ⟨_, rfl⟩
          clear hd hb hall hlow
          go_wp2_with fail
          refine (P1.out _).mono ?_
          rintro e w2 ⟨rfl, rfl⟩
          go_wp2_with fail
          go_roundw
          case rel => exact ⟨k + 1, by omega, rfl, HA2.out⟩
          case measure => simp; omega
        | false =>
          have hno : plainI ((Utf8.decode (bs l) k).1 : Int) = false := by
            by_cases ha : (l[k]).toNat < 128
            · rw [decode_ascii (bs l) k hp (by rw [bs_get]; exact ha)]
              show plainI ((((bs l)[k]'hp).toNat : Nat) : Int) = false
              rw [bs_get, plainI_of]; exact hb
            · have := (decode_high (bs l) k hp (by rw [bs_get]; omega)).1
              exact plainI_high (by omega)
          rw [hno] at P1
          have hf := nameB_bad hlt hb
          have HF := Lib.hid hf
          clear hno hb hf
          go_wp2_with fail
          refine (P1.out _).mono ?_
          rintro e w2 ⟨rfl, rfl⟩
          go_wp2_with fail
          go_ret
          rw [HF.out]
          exact ⟨rfl, (Below.refl _ _).alloc (Nat.le_refl _) _⟩
      · obtain rfl : k = l.length := by omega
        have hp : ¬ l.length < (bs l).size := by rw [bs_size]; omega
        have hnx : ∀ ty, (Instr.next (.pointer (some ⟨w.heap.size, 0, none⟩)) true ty).run Tryz.prog (w.iter (bs l) l.length) = _ := fun ty => run_next_end w (bs l) l.length ty hp
        have hf := nameB_all HH.out (fun b hb => by
          obtain ⟨j, hj, rfl⟩ := List.getElem_of_mem hb
          exact HA.out j hj hj)
        have HF := Lib.hid hf
        clear hf
        go_wp2_with fail
        go_ret
        rw [HF.out]
        exact ⟨rfl, (Below.refl _ _).alloc (Nat.le_refl _) _⟩
  · have hh' : headB l = false := by simpa using hh
    have hf := nameB_head hh'
    rw [hf]
    have hh2 : ¬ (((¬ (bs l).toList = [46] ∧ ¬ (bs l).toList = [46, 46]) ∧ (1 : Int) ≤ ((bs l).size : Int)) ∧ ((bs l).size : Int) ≤ 11) := by
      rintro ⟨⟨⟨h1, h2⟩, h3⟩, h4⟩
      rw [bs_toList] at h1 h2
      rw [bs_size] at h3 h4
      apply hh
      unfold headB
      simp only [Bool.and_eq_true, decide_eq_true_eq]
      exact ⟨⟨⟨h1, h2⟩, by omega⟩, by omega⟩
    have HN := Lib.hid hh2
    clear hh hh' hf hh2
    go_enter Tryz.func104, Tryz.ntmps104
    go_wp2_with fail
    all_goals first
      | (go_ret; exact ⟨rfl, Below.refl _ _⟩)
      | (exfalso; apply HN.out; simp_all; omega)
      | (exfalso; apply HN.out; simp_all)
end Go.Proofs.YtabecceojbeomaaGreatDoor
