/- The contracts of the law's far, ours and like at entries, and of dirs.node. Condition: at most 1000000 entries. -/
import Derived.Test.YtjilejmchaejiaaDoorEntPure
import Derived.Test.YtjilejmchaejiaaDoorDirName
import Derived.Test.YtjilejmchaejiaaDoorDirHas
import Derived.Test.YtjilejmchaejiaaDoorElem
import Derived.Deep.RegionLaw
import Derived.BigQuiet
namespace Go.Proofs.YtjilejmchaejiaaDoor
open Go.RowKit Go.Cat Go.Cat.Dir

theorem info_ent : (Tryd.prog.info? 56).map (fun i => (i.zero, i.size, i.bytes)) = some (some (.agg #[.string ByteArray.empty, .int .i64 0]), 2, 24) := by kernel_rfl
theorem elem_ent : Elem Tryd.prog 36 56 (.agg #[.string ByteArray.empty, .int .i64 0]) 2 24 := ⟨Tryd.underlying36, info_ent, rfl, by decide, by decide⟩
theorem info_rent : (Tryd.prog.info? 54).map (fun i => (i.zero, i.size, i.bytes)) = some (some (.agg #[.string ByteArray.empty, .int .i64 0]), 2, 24) := by kernel_rfl
theorem elem_rent : Elem Tryd.prog 33 54 (.agg #[.string ByteArray.empty, .int .i64 0]) 2 24 := ⟨Tryd.underlying33, info_rent, rfl, by decide, by decide⟩

set_option maxRecDepth 100000 in
theorem node_any (n : Int) (w : World) : Calls Tryd.prog 44 #[.int .i64 n] w fun e w' => e = .returned (.bool (nodeB n)) ∧ w = w' := by
  unfold nodeB
  by_cases h1 : 1 ≤ n <;> by_cases h2 : n ≤ 65535
  all_goals
    have d1 : decide (1 ≤ n) = _ := rfl
    simp only [h1, h2, decide_true, decide_false, Bool.and_true, Bool.and_false]
    go_enter Tryd.func44, Tryd.ntmps44
    go_wp2_with fail
    go_ret
    exact ⟨rfl, rfl⟩

set_option maxRecDepth 100000 in
theorem far_any (A : Option Addr) (l : List Ent) (c : Nat) (w : World) (hs : Sees w A (erows l)) (hn : l.length ≤ 9223372036854775807) :
    Calls Tryd.prog 17 #[.slice A l.length c] w fun e w' => (∃ f, e = .returned (.bool f) ∧ (f = false → l.length ≤ 40 ∧ ∀ e ∈ l, e.1.length ≤ 30)) ∧ w = w' := by
  obtain ⟨n, hnn⟩ : ∃ n, n = l.length := ⟨_, rfl⟩
  have HS := Lib.hid hs
  have HN := Lib.hid hnn
  rw [← hnn] at hn ⊢
  clear hs hnn
  go_enter Tryd.func17, Tryd.ntmps17
  go_wp2_with fail
  go_loopw [3] (fun iv wr => ∃ k : Nat, k ≤ n ∧ iv = .int .i64 k ∧ w = wr ∧ Hid (∀ j (hj : j < l.length), j < k → l[j].1.length ≤ 30)) (fun iv _ => n - (intOf iv).toNat)
  case atStart => exact ⟨0, Nat.zero_le _, rfl, rfl, fun j _ h => absurd h (Nat.not_lt_zero j)⟩
  case round =>
    obtain ⟨k, hk, rfl, rfl, HA⟩ := hrel
    by_cases hlt : k < n
    · have t1 : decide ((k : Int) < (n : Int)) = true := by simp; omega
      by_cases h50 : k < 50
      · have t2 : decide ((k : Int) < 50) = true := by simp; omega
        have hkl : k < l.length := by have := HN.out; omega
        obtain ⟨b, off, rfl, hbl, e0, e1⟩ := erows_at HS.out hkl
        obtain ⟨x, hx⟩ : ∃ x, x = l[k].1 := ⟨_, rfl⟩
        rw [← hx] at e0
        have hkI : (k : Int) < (n : Int) := by omega
        have hk0 : (0 : Int) ≤ (k : Int) := by omega
        by_cases hx30 : 30 < x.length
        · have t3 : decide ((30 : Int) < ((bs x).size : Int)) = true := by rw [bs_size]; simp; omega
          have t3' : decide (30 < (bs x).size) = true := by rw [bs_size]; simp; omega
          have t3'' : 30 < (bs x).size := by rw [bs_size]; omega
          clear hx e1 HA
          go_wp2_with fail
          go_ret
          exact ⟨⟨true, rfl, fun h => by cases h⟩, rfl⟩
        · have t3 : decide ((30 : Int) < ((bs x).size : Int)) = false := by rw [bs_size]; simp; omega
          have t3' : decide (30 < (bs x).size) = false := by rw [bs_size]; simp; omega
          have t3'' : ¬ 30 < (bs x).size := by rw [bs_size]; omega
          have hA2 : ∀ j (hj : j < l.length), j < k + 1 → l[j].1.length ≤ 30 := fun j hj hjk => by
            by_cases e : j = k
            · subst e; rw [← hx]; omega
            · exact HA.out j hj (by omega)
          have HA2 := Lib.hid hA2
          clear hx e1 HA hA2 hx30
          go_wp2_with fail
          go_roundw
          case rel => exact ⟨k + 1, by omega, by go_num, by first | rfl | trivial, HA2.out⟩
          case measure => simp [intOf]; omega
      · have t2 : decide ((k : Int) < 50) = false := by simp; omega
        have t4 : decide ((40 : Int) < (n : Int)) = true := by simp; omega
        have t4' : decide (40 < n) = true := by simp; omega
        have t4'' : 40 < n := by omega
        clear HA
        go_wp2_with fail
        go_ret
        exact ⟨⟨true, by first | rfl | simp [*], fun h => by cases h⟩, rfl⟩
    · have t1 : decide ((k : Int) < (n : Int)) = false := by simp; omega
      obtain rfl : k = n := by omega
      go_wp2_with fail
      go_ret
      refine ⟨⟨decide (40 < k), by simp; omega, fun h => ?_⟩, rfl⟩
      have h2 : ¬ 40 < k := by simpa using h
      exact ⟨by omega, fun e he => by
        obtain ⟨j, hj, rfl⟩ := List.getElem_of_mem he
        exact HA.out j hj (by have := HN.out; omega)⟩

/-- Entries in new memory. -/
def ToldL (l : List Ent) (w : World) (e : Ending) (w' : World) : Prop :=
  ∃ A c, e = .returned (.slice A l.length c) ∧ Sees w' A (erows l) ∧ Below w.heap.size w w'

set_option maxRecDepth 100000 in
set_option maxHeartbeats 2000000 in
theorem ours_any (A : Option Addr) (l : List Ent) (c : Nat) (w : World) (hs : Sees w A (erows l)) (hn : l.length ≤ 1000000) :
    Calls Tryd.prog 19 #[.slice A l.length c] w (ToldL l w) := by
  obtain ⟨n, hnn⟩ : ∃ n, n = l.length := ⟨_, rfl⟩
  rw [← hnn] at hn ⊢
  have HN := Lib.hid hnn
  have HS := Lib.hid hs
  clear hnn hs
  go_enter Tryd.func19, Tryd.ntmps19
  go_wp2_with fail
  go_loopw [3, 4] (fun ov iv wr => ∃ (k : Nat) (A2 : Option Addr) (c2 : Nat), k ≤ n ∧ iv = .int .i64 k ∧ ov = .slice A2 k c2 ∧ Hid (wr.ownsRow w.heap.size 56 2 (.slice A2 k c2) k (erows (l.take k))) ∧ Hid (Below w.heap.size w wr)) (fun _ iv _ => n - (intOf iv).toNat)
  case atStart => exact ⟨0, none, 0, Nat.zero_le _, rfl, rfl, World.ownsRow_nil _ _ _ _, Below.refl _ _⟩
  case round =>
    obtain ⟨k, A2, c2, hk, rfl, rfl, HO, HB⟩ := hrel
    by_cases hlt : k < n
    · have t1 : decide ((k : Int) < (n : Int)) = true := by simp; omega
      have hkl : k < l.length := by have := HN.out; omega
      obtain ⟨b, off, rfl, hbl, e0, e1⟩ := erows_at HS.out hkl
      have htk : l.take (k + 1) = l.take k ++ [l[k]] := List.take_succ_eq_append_getElem hkl
      obtain ⟨p, hp⟩ : ∃ p, p = l[k] := ⟨_, rfl⟩
      rw [← hp] at e0 e1 htk
      obtain ⟨x, y⟩ := p
      have q0 := (HB.out.cell (p := ⟨b, off + k * 2, none⟩) hbl).trans e0
      have q1 := (HB.out.cell (p := ⟨b, off + k * 2 + 1, none⟩) hbl).trans e1
      simp only at q0 q1
      have hkI : (k : Int) < (n : Int) := by omega
      have hk0 : (0 : Int) ≤ (k : Int) := by omega
      have HTk := Lib.hid htk
      have hsz : w.heap.size ≤ (wr.drew.alloc (.cells #[.string (bs x), .int .i64 y] 56)).heap.size := by have := HB.out.size; simp; omega
      have HSz := Lib.hid hsz
      clear hp htk hkl e0 e1 hsz
      go_wp2_with fail
      go_region_law (refine step_app elem_ent rfl (.tmp 11) (.tmp 23) rfl w.heap.size (.slice A2 k c2) k (erows (l.take k)) rfl (World.ownsRow.alloc HO.out _) (some ⟨_, 0, none⟩) 1 1 (entC (x, y)) rfl (sees_new _ _ _) rfl (one_entC _) (by omega) HSz.out ?_; intro v2 w2 hown hgr _; obtain ⟨A4, c4, rfl, _, _⟩ := own_full hown)
      all_goals
        have ho2 : w2.ownsRow w.heap.size 56 2 (.slice A4 (k + 1) c4) (k + 1) (erows (l.take (k + 1))) := by rw [HTk.out, erows_snoc]; exact hown
        have hb2 : Below w.heap.size w w2 := ((HB.out.trans ((Below.refl wr.heap.size wr).drew.mono HB.out.size)).alloc HB.out.size _).own (World.ownsRow.alloc HO.out _) hgr HSz.out (Nat.le_refl _)
        have HO2 := Lib.hid ho2
        have HB2 := Lib.hid hb2
        clear hown hgr ho2 hb2
        go_wp2_with fail
        go_roundw
        case rel => exact ⟨k + 1, A4, c4, by omega, by go_num, rfl, HO2.out, HB2.out⟩
        case measure => simp [intOf]; omega
    · obtain rfl : k = n := by omega
      have t1 : decide ((k : Int) < (k : Int)) = false := by simp
      go_wp2_with fail
      go_ret
      have hall : l.take k = l := by rw [HN.out]; exact List.take_length
      have ho := HO.out
      rw [hall] at ho
      exact ⟨A2, c2, by rw [← HN.out]; rfl, ownN_sees ho, HB.out⟩
end Go.Proofs.YtjilejmchaejiaaDoor
