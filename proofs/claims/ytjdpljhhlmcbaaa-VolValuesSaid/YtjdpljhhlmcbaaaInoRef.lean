/- The contracts of the reference's Need, Has and Blocks. Condition: at most 1000000 extents. -/
import Derived.Test.YtjdpljhhlmcbaaaInoCheckP
namespace Go.Cat.Ino
open Go.RowKit Go.Cat
theorem need_at {size : Int} {k : Nat} (h0 : k = 0 ∨ ((k : Int) - 1) * 64 < size) (h1 : size ≤ (k : Int) * 64) : need size = (k : Int) := by
  unfold need
  split <;> omega
theorem need_far {size : Int} (h : 6336 < size) : need size = (size - 1) / 64 + 1 := by unfold need; rw [if_neg (by omega)]
end Go.Cat.Ino
namespace Go.Proofs.Ytjdpljhhlmcbaaa
open Go.RowKit Go.Shelf Go.Cat Go.Cat.Ino

theorem rneed_any (size : Int) (w : World) (_ : -9223372036854775808 ≤ size) (h1 : size ≤ 9223372036854775807) :
    Calls Try.prog 85 #[.int .i64 size] w fun e w' => e = .returned (.int .i64 (need size)) ∧ w = w' := by
  obtain ⟨V, hV⟩ : ∃ V, V = need size := ⟨_, rfl⟩
  rw [← hV]
  have HV := Lib.hid hV
  clear hV
  go_enter Try.func85, Try.ntmps85
  go_wp2_with fail
  go_loop [3] (fun iv => ∃ k : Nat, k ≤ 100 ∧ iv = .int .i64 k ∧ Hid (k = 0 ∨ ((k : Int) - 1) * 64 < size)) (fun iv => 100 - (intOf iv).toNat)
  case atStart => exact ⟨0, Nat.zero_le _, rfl, .inl rfl⟩
  case round =>
    obtain ⟨k, hk, rfl, HK⟩ := hrel
    by_cases hlt : k < 100
    · have t1 : decide ((k : Int) < 100) = true := by simp; omega
      by_cases hs : (k : Int) * 64 < size
      · have t2 : decide ((k : Int) * 64 < size) = true := by simpa using hs
        have HK2 : Hid (k + 1 = 0 ∨ (((k + 1 : Nat) : Int) - 1) * 64 < size) := .inr (by omega)
        clear hs
        go_wp2_with fail
        go_round
        case rel => exact ⟨k + 1, by omega, by go_num, HK2⟩
        case measure => simp [intOf]; omega
      · have t2 : decide ((k : Int) * 64 < size) = false := by simpa using hs
        have hv : V = (k : Int) := by rw [HV.out]; exact need_at HK.out (by omega)
        have t3 : ((k : Int) == 100) = false := by simp; omega
        subst hv
        clear hs
        go_wp2_with fail
        go_ret
        exact ⟨rfl, rfl⟩
    · obtain rfl : k = 100 := by omega
      have h3 : 6336 < size := by rcases HK.out with h | h <;> omega
      have hv : V = (size - 1) / 64 + 1 := by rw [HV.out]; exact need_far h3
      have hq : 0 ≤ (size - 1) / 64 := by omega
      have hq2 : (size - 1) / 64 ≤ 9223372036854775806 := by omega
      subst hv
      clear HK HV
      go_wp2_with fail
      go_ret
      exact ⟨rfl, rfl⟩

set_option maxRecDepth 100000 in
theorem has_any (A : Option Addr) (c : Nat) (zs : List Int) (x : Int) (w : World) (hb : Ints w A zs) (hl : zs.length ≤ 9223372036854775807) :
    Calls Try.prog 84 #[.slice A zs.length c, .int .i64 x] w fun e w' => e = .returned (.bool (decide (x ∈ zs))) ∧ w = w' := by
  obtain ⟨n, hn⟩ : ∃ n, n = zs.length := ⟨_, rfl⟩
  obtain ⟨V, hV⟩ : ∃ V, V = decide (x ∈ zs) := ⟨_, rfl⟩
  rw [← hn, ← hV]
  rw [← hn] at hl
  have HN := Lib.hid hn
  have HV := Lib.hid hV
  have HB := Lib.hid hb
  clear hn hV hb
  go_enter Try.func84, Try.ntmps84
  go_wp2_with fail
  go_loop [5] (fun iv => ∃ k : Nat, k ≤ n ∧ iv = .int .i64 k ∧ Hid (∀ j, (h : j < k) → (h2 : j < zs.length) → zs[j] ≠ x)) (fun iv => n - (intOf iv).toNat)
  case atStart => exact ⟨0, Nat.zero_le _, rfl, fun j hj => absurd hj (Nat.not_lt_zero j)⟩
  case round =>
    obtain ⟨k, hk, rfl, HK⟩ := hrel
    by_cases hlt : k < n
    · have t1 : decide ((k : Int) < (n : Int)) = true := by simp; omega
      have hkz : k < zs.length := by rw [← HN.out]; exact hlt
      obtain ⟨b, off, rfl, _, hc⟩ := HB.out.at_ (by omega)
      have e0 := hc k hkz
      obtain ⟨y, hy⟩ : ∃ y, y = zs.getD k 0 := ⟨_, rfl⟩
      have hyk : y = zs[k] := by rw [hy]; simp [List.getD_eq_getElem?_getD, hkz]
      rw [← hy] at e0
      have HYk := Lib.hid hyk
      have hkI : (k : Int) < (n : Int) := by omega
      have hk0 : (0 : Int) ≤ (k : Int) := by omega
      clear hc hy hyk
      by_cases hxy : y = x
      · have t2 : (y == x) = true := by simpa using hxy
        have hv : V = true := by rw [HV.out, decide_eq_true_iff, ← hxy, HYk.out]; exact List.getElem_mem _
        subst hv
        subst hxy
        clear t2
        go_wp2_with fail
        go_ret
        exact ⟨rfl, rfl⟩
      · have t2 : (y == x) = false := by simpa using hxy
        have HK2 : Hid (∀ j, (h : j < k + 1) → (h2 : j < zs.length) → zs[j] ≠ x) := fun j hj h2 => by
          rcases Nat.lt_or_ge j k with h | h
          · exact HK.out j h h2
          · obtain rfl : j = k := by omega
            rw [← HYk.out]; exact hxy
        clear hxy
        go_wp2_with fail
        go_round
        case rel => exact ⟨k + 1, by omega, by go_num, HK2⟩
        case measure => simp [intOf]; omega
    · obtain rfl : k = n := by omega
      have t1 : decide ((k : Int) < (k : Int)) = false := by simp
      have hv : V = false := by
        rw [HV.out, decide_eq_false_iff_not]
        intro hm
        obtain ⟨j, hj, e⟩ := List.getElem_of_mem hm
        exact HK.out j (by rw [HN.out]; exact hj) hj e
      subst hv
      go_wp2_with fail
      go_ret
      exact ⟨rfl, rfl⟩

theorem IbS.own {H : Nat} {mode size : Int} {A : Option Addr} {xs : List Ext} {c : Nat} {w wr w' : World} {e : TypeId} {sz n : Nat} {v : Value} {ys : List Value} (h : IbS H mode size A xs c w wr) (hs : Sees w A (erows xs)) (hH : w.heap.size = H) (ho : wr.ownsRow (H + 1) e sz v n ys) (hg : wr.grownBy w' v.ownBlock) : IbS H mode size A xs c w w' := by
  have g : H < wr.heap.size := World.block_lt_of_cell? _ _ h.c0
  have hB : Below (H + 1) wr w' := (Below.refl _ _).own ho hg (by omega) (Nat.le_refl _)
  have hb2 : Below w.heap.size w w' := h.bel.trans (hB.mono (by omega))
  exact ⟨(hB.cell (p := ⟨H, _, none⟩) (by simp)).trans h.c0, (hB.cell (p := ⟨H, _, none⟩) (by simp)).trans h.c1, (hB.cell (p := ⟨H, _, none⟩) (by simp)).trans h.c2, hs.below hb2, hb2⟩

set_option maxRecDepth 100000 in
set_option maxHeartbeats 4000000 in
theorem rblocks_any (mode size : Int) (A : Option Addr) (xs : List Ext) (c : Nat) (w : World) (hs : Sees w A (erows xs)) (hL : xs.length ≤ 1000000) :
    Calls Try.prog 83 #[iv mode size A xs.length c] w (NewInts (blks xs) w) := by
  have HI0 := Lib.hid (IbS.new (mode := mode) (size := size) (c := c) (t := 64) hs)
  have hbl := fun i => blksTo_length xs i
  obtain ⟨n, hnn⟩ : ∃ n, n = xs.length := ⟨_, rfl⟩
  rw [← hnn] at hL HI0 ⊢
  have HN := Lib.hid hnn
  have HS := Lib.hid hs
  have HBl := Lib.hid hbl
  obtain ⟨H, hH⟩ : ∃ H, H = w.heap.size := ⟨_, rfl⟩
  have HH := Lib.hid hH
  clear hnn hs hbl hH
  go_enter Try.func83, Try.ntmps83
  go_wp2_with fail
  rw [← HH.out] at HI0 ⊢
  go_loopw [3, 4] (fun ov iv wr => ∃ (i m : Nat) (A2 : Option Addr) (c2 : Nat), i ≤ n ∧ iv = .int .i64 i ∧ ov = .slice A2 m c2 ∧ Hid (m = (blksTo xs i).length) ∧ Hid (wr.ownsRow (H + 1) 3 1 (.slice A2 m c2) m ((blksTo xs i).map i64)) ∧ Hid (IbS H mode size A xs c w wr)) (fun _ iv _ => n - (intOf iv).toNat)
  case atStart => exact ⟨0, 0, none, 0, Nat.zero_le _, rfl, rfl, rfl, World.ownsRow_nil _ _ _ _, HI0⟩
  case round =>
    clear HI0
    obtain ⟨i, m, A2, c2, hi, rfl, rfl, HM, HO, HI⟩ := hrel
    have k2 := HI.out.c2
    rw [← HN.out] at k2
    by_cases hlt : i < n
    · have t1 : decide ((i : Int) < (n : Int)) = true := by simp; omega
      have hix : i < xs.length := by rw [← HN.out]; exact hlt
      obtain ⟨p, hp⟩ : ∃ p, p = xs[i] := ⟨_, rfl⟩
      have hblk := blksTo_succ hix
      rw [← hp] at hblk
      have HBk := Lib.hid hblk
      have cellsAt : ∀ wq, Sees wq A (erows xs) → ∃ b off, A = some ⟨b, off, none⟩ ∧ wq.cell? ⟨b, off + i * 2, none⟩ = some (.int .i64 p.1) ∧ wq.cell? ⟨b, off + i * 2 + 1, none⟩ = some (.int .i64 p.2) := fun wq h => by
        obtain ⟨b, off, hA, _, e0, e1⟩ := erows_at h hix
        rw [← hp] at e0 e1
        exact ⟨b, off, hA, e0, e1⟩
      have HAt := Lib.hid cellsAt
      have hiI : (i : Int) < (n : Int) := by omega
      have hi0 : (0 : Int) ≤ (i : Int) := by omega
      have hm0 := HBl.out i
      rw [← HM.out] at hm0
      clear hp hblk cellsAt hix
      by_cases hr : rightE p
      · obtain ⟨z, hz⟩ : ∃ z : Nat, p.2 = (z : Int) := ⟨p.2.toNat, by have := hr.1; omega⟩
        have hz8 : z ≤ 8 := by have := hr.2; omega
        have hz1 : 1 ≤ z := by have := hr.1; omega
        have HZ := Lib.hid hz
        have HRt := Lib.hid hr
        clear hr hz
        go_wp2_with fail
        obtain ⟨wo, rfl⟩ : ∃ wo : World, wo = wr := ⟨_, rfl⟩
        go_loopw [3, 5] (fun ov jv wr => ∃ (j m3 : Nat) (A3 : Option Addr) (c3 : Nat), j ≤ z ∧ jv = .int .i64 j ∧ ov = .slice A3 m3 c3 ∧ m3 = m + j ∧ Hid (wr.ownsRow (H + 1) 3 1 (.slice A3 m3 c3) m3 ((blksTo xs i ++ bTo p j).map i64)) ∧ Hid (IbS H mode size A xs c w wr)) (fun _ jv _ => z - (intOf jv).toNat)
        case atStart => exact ⟨0, m, A2, c2, Nat.zero_le _, rfl, rfl, rfl, by show World.ownsRow _ _ _ _ _ _ _; have := HO.out; simpa [bTo] using this, HI⟩
        case round =>
          clear HI HO k2
          obtain ⟨j, m3, A3, c3, hj, rfl, rfl, hm3, HO, HI⟩ := hrel
          have k2 := HI.out.c2
          rw [← HN.out] at k2
          obtain ⟨b, off, rfl, e0, e1⟩ := HAt.out wr HI.out.row
          rw [HZ.out] at e1
          have t4 : decide ((z : Int) ≤ 8) = true := by simp; omega
          have hHlt : H < wr.heap.size := World.block_lt_of_cell? _ _ k2
          have HM3 := Lib.hid hm3
          have hm3l : m3 ≤ 8000100 := by omega
          clear hm3
          by_cases hjl : j < z
          · have t2 : decide ((j : Int) < (z : Int)) = true := by simp; omega
            go_wp2_with (at_builtin; refine wpList_app elem_int rfl _ _ rfl (H + 1) (.slice A3 m3 c3) m3 ((blksTo xs i ++ bTo p j).map i64) rfl (World.ownsRow.alloc HO.out _) (some ⟨_, 0, none⟩) 1 1 [i64 (bAt p j)] rfl (sees_new _ _ _) rfl (by simp [Value.oneCell', i64]) (by omega) (by simp; omega) ?_)
            intro v2 w2 hown hgr _
            obtain ⟨A4, c4, rfl, _, _⟩ := own_full hown
            have hI2 : IbS H mode size (some ⟨b, off, none⟩) xs c w w2 := (HI.out.below ((Below.refl _ _).alloc (Nat.le_refl _) _)).own HS.out HH.out.symm (World.ownsRow.alloc HO.out _) hgr
            have ho2 : w2.ownsRow (H + 1) 3 1 (.slice A4 (m3 + 1) c4) (m3 + 1) ((blksTo xs i ++ bTo p (j + 1)).map i64) := by
              rw [bTo_succ, ← List.append_assoc, List.map_append, List.map_append, List.append_assoc]; exact (by simpa using hown)
            have HI2 := Lib.hid hI2
            have HO2 := Lib.hid ho2
            clear hown hgr hI2 ho2
            go_wp2_with fail
            go_roundw
            case rel => exact ⟨j + 1, m3 + 1, A4, c4, by omega, by go_num, rfl, by have := HM3.out; omega, HO2, HI2⟩
            case measure => simp [intOf]; omega
          · obtain rfl : j = z := by omega
            have t2 : decide ((j : Int) < (j : Int)) = false := by simp
            have hfull : blksTo xs (i + 1) = blksTo xs i ++ bTo p j := by rw [HBk.out, blk_yes HRt.out, HZ.out]; simp
            have HF := Lib.hid hfull
            have HM4 : Hid (m3 = (blksTo xs (i + 1)).length) := by show _ = _; rw [HF.out, List.length_append, bTo_length, ← HM.out]; exact HM3.out
            clear hfull
            go_wp2_with fail
            go_roundw
            case rel => exact ⟨i + 1, m3, A3, c3, by omega, by go_num, rfl, HM4, by show World.ownsRow _ _ _ _ _ _ _; rw [HF.out]; exact HO.out, HI⟩
            case measure => simp [intOf]; omega
      · have hsame : blksTo xs (i + 1) = blksTo xs i := by rw [HBk.out, blk_not hr, List.append_nil]
        have HSm := Lib.hid hsame
        have hr' : p.2 < 1 ∨ 8 < p.2 := by unfold rightE at hr; omega
        clear hr hsame
        go_wp2_with fail
        obtain ⟨wo, hwo⟩ : ∃ wo : World, wo = wr := ⟨_, rfl⟩
        have HWo := Lib.hid hwo
        clear hwo
        go_loop [3, 5] (fun ov jv => ov = .slice A2 m c2 ∧ jv = .int .i64 0) (fun _ _ => 0)
        case atStart => exact ⟨rfl, rfl⟩
        case round =>
          obtain ⟨rfl, rfl⟩ := hrel
          obtain ⟨b, off, rfl, e0, e1⟩ := HAt.out wr HI.out.row
          rcases hr' with h9 | h9
          · have t2 : decide (0 < p.2) = false := by simp; omega
            clear h9
            go_wp2_with fail
            go_roundw
            case rel => exact ⟨i + 1, m, A2, c2, by omega, by go_num, rfl, by show _ = _; rw [HSm.out]; exact HM.out, by show World.ownsRow _ _ _ _ _ _ _; rw [HSm.out]; exact HO.out, HI⟩
            case measure => simp [intOf]; omega
          · have t2 : decide (0 < p.2) = true := by simp; omega
            have t3 : decide (p.2 ≤ 8) = false := by simp; omega
            clear h9
            go_wp2_with fail
            go_roundw
            case rel => exact ⟨i + 1, m, A2, c2, by omega, by go_num, rfl, by show _ = _; rw [HSm.out]; exact HM.out, by show World.ownsRow _ _ _ _ _ _ _; rw [HSm.out]; exact HO.out, HI⟩
            case measure => simp [intOf]; omega
    · obtain rfl : i = n := by omega
      have t1 : decide ((i : Int) < (i : Int)) = false := by simp
      have hall : blksTo xs i = blks xs := by rw [HN.out]; exact blksTo_all xs
      have hm := HM.out
      have ho := HO.out
      rw [hall] at hm ho
      have HM2 := Lib.hid hm
      have HO2 := Lib.hid (own_mono ho (base' := w.heap.size) (by rw [HH.out]; exact Nat.le_succ _))
      clear hall hm ho
      go_wp2_with fail
      go_ret
      exact ⟨A2, c2, ret_slice HM2.out, by rw [← HM2.out]; exact HO2.out, HI.out.bel⟩
end Go.Proofs.Ytjdpljhhlmcbaaa
