/- The contracts of the references' Same of two lists of bytes. Condition: lengths within an int. -/
import Derived.Test.YtabecceojbeomaaGreatDoorProg
import Derived.Test.YtabecceojbeomaaGreatDoorLib
namespace Go.Cat
open Go.RowKit
/-- A quiet call behind draws that were added up. -/
theorem quiet_add {P : Program} {f : FuncId} {args : Array Value} {w : World} {d n : Nat} {v : Value} (h : Calls P f args (w.drewN (d + n)) fun e w' => e = .returned v ∧ ∃ m, w' = (w.drewN (d + n)).drewN m) :
    Calls P f args (w.drewN (d + n)) fun e w'' => e = .returned v ∧ ∃ m, w'' = w.drewN (d + m) :=
  h.mono fun _ _ ⟨he, m, hm⟩ => ⟨he, n + m, by rw [hm, World.drewN_drewN, Nat.add_assoc]⟩
end Go.Cat
namespace Go.Proofs.YtabecceojbeomaaGreatDoor
open Go.RowKit Go.Cat

theorem same8_any (A B : Option Addr) (n m c d : Nat) (xs ys : List UInt8) (w : World) (ha : Bytes w A xs) (hb : Bytes w B ys) (hn : n = xs.length) (hm : m = ys.length) (hx : xs.length ≤ 9223372036854775807) (hy : ys.length ≤ 9223372036854775807) :
    Calls Tryz.prog 14 #[.slice A n c, .slice B m d] w fun e w' => e = .returned (.bool (decide (xs = ys))) ∧ ∃ k, w' = w.drewN k := by
  subst hn hm
  by_cases hl : xs.length = ys.length
  · have hl' : ((xs.length : Int) != (ys.length : Int)) = false := by rw [bne_eq_false_iff_eq]; omega
    have h1 : xs.length ≤ ys.length := by omega
    have h2 : ys.length ≤ xs.length := by omega
    have HL := Lib.hid hl
    clear hl
    go_enter Tryz.func14, Tryz.ntmps14
    go_wp2
    go_loopw [5] (fun i wr => ∃ k : Nat, k ≤ xs.length ∧ i = .int .i64 k ∧ xs.take k = ys.take k ∧ ∃ d, wr = w.drewN d) (fun i _ => xs.length - (intOf i).toNat)
    case atStart => exact ⟨0, Nat.zero_le _, rfl, by simp, 0, rfl⟩
    case round =>
      obtain ⟨k, hk, rfl, heq, dd, rfl⟩ := hrel
      have HE := Lib.hid heq
      clear heq
      by_cases hlt : k < xs.length
      · obtain ⟨b, off, rfl, _, hc⟩ := ha.at_ (by omega)
        obtain ⟨b', off', rfl, _, hc'⟩ := hb.at_ (by omega)
        have e1 : w.cell? ⟨b, off + k, none⟩ = some (.int .u8 ((xs.getD k 0).toNat : Int)) := hc k hlt
        have e2 : w.cell? ⟨b', off' + k, none⟩ = some (.int .u8 ((ys.getD k 0).toNat : Int)) := hc' k (by omega)
        clear hc hc'
        obtain ⟨x, hxk⟩ : ∃ x, x = xs.getD k 0 := ⟨_, rfl⟩
        obtain ⟨y, hyk⟩ : ∃ y, y = ys.getD k 0 := ⟨_, rfl⟩
        rw [← hxk] at e1
        rw [← hyk] at e2
        have hltI : (k : Int) < (xs.length : Int) := by omega
        have hltJ : (k : Int) < (ys.length : Int) := by omega
        have h0k : (0 : Int) ≤ (k : Int) := by omega
        have HX : Hid (x = xs[k]) := by show _ = _; rw [hxk]; simp [List.getD_eq_getElem?_getD, hlt]
        have HY : Hid (y = ys[k]'(by omega)) := by show _ = _; rw [hyk, List.getD_eq_getElem?_getD, List.getElem?_eq_getElem (by omega)]; rfl
        clear hxk hyk
        by_cases hxy : x = y
        · have ht : ((x.toNat : Int) != (y.toNat : Int)) = false := by rw [hxy]; simp
          have HXY := Lib.hid hxy
          clear hxy
          go_wp2
          go_quiet (fail)
          go_wp2
          go_roundw
          case rel => exact ⟨k + 1, by omega, by go_num, by
            rw [List.take_succ_eq_append_getElem hlt, List.take_succ_eq_append_getElem (by omega), HE.out, ← HX.out, ← HY.out, HXY.out], _, rfl⟩
          case measure => simp [intOf]; omega
        · have ht : ((x.toNat : Int) != (y.toNat : Int)) = true := by rw [bne_iff_ne]; intro e; exact hxy (UInt8.toNat_inj.1 (by omega))
          have fin : decide (xs = ys) = false := by
            rw [decide_eq_false_iff_not]; intro e; apply hxy; rw [HX.out, HY.out]; subst e; rfl
          have HF := Lib.hid fin
          clear fin hxy
          go_wp2
          go_quiet (fail)
          go_wp2
          go_ret
          exact ⟨ret_bool HF.out.symm, _, World.drewN_drewN _ _ _⟩
      · have fin : decide (xs = ys) = true := by
          rw [decide_eq_true_iff]
          have := HE.out
          rwa [List.take_of_length_le (by omega), List.take_of_length_le (by omega)] at this
        have HF := Lib.hid fin
        clear fin
        go_wp2
        go_ret
        exact ⟨ret_bool HF.out.symm, _, rfl⟩
  · have hl' : ((xs.length : Int) != (ys.length : Int)) = true := by rw [bne_iff_ne]; omega
    have fin : decide (xs = ys) = false := by rw [decide_eq_false_iff_not]; rintro rfl; exact hl rfl
    rw [fin]
    clear fin
    go_enter Tryz.func14, Tryz.ntmps14
    go_wp2
    go_ret
    exact ⟨rfl, 0, rfl⟩
end Go.Proofs.YtabecceojbeomaaGreatDoor
