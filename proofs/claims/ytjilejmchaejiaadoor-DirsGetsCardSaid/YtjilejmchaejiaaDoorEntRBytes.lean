/- The contract of the reference's Bytes. Condition: entries that may be. -/
import Derived.Test.YtjilejmchaejiaaDoorEntPut
import Derived.Test.YtjilejmchaejiaaDoorRefPut
import Derived.Lib.AppendStr
namespace Go.Cat.Dir
open Go.RowKit Go.Cat
theorem strCells_bs (x : Txt) : Lib.strCells (bs x) = x.map by8 := by simp [Lib.strCells, bs, by8]
theorem be_one {n : Nat} (h : n < 256) : be n 1 = [UInt8.ofNat n] := by
  rw [be_cons]
  simp [be, Nat.mod_eq_of_lt h]
end Go.Cat.Dir
namespace Go.Proofs.YtjilejmchaejiaaDoor
open Go.RowKit Go.Cat Go.Cat.Dir

set_option maxRecDepth 100000 in
set_option maxHeartbeats 4000000 in
theorem rbytes_any (A : Option Addr) (l : List Ent) (c : Nat) (w : World) (hs : Sees w A (erows l)) (h32 : l.length ≤ 32) (hall : ∀ k (hk : k < l.length), nameP l[k].1 ∧ 1 ≤ l[k].2 ∧ l[k].2 ≤ 65535) :
    Calls Tryd.prog 26 #[.slice A l.length c] w fun e w' => ∃ A c, e = .returned (.slice A (bytesE l).length c) ∧ Bytes w' A (bytesE l) ∧ Below w.heap.size w w' := by
  obtain ⟨n, hnn⟩ : ∃ n, n = l.length := ⟨_, rfl⟩
  rw [← hnn] at h32 ⊢
  have HS := Lib.hid hs
  have HAll := Lib.hid hall
  have HN := Lib.hid hnn
  clear hs hnn hall
  obtain ⟨i0, hi, hz0, hz1, hz2⟩ := info_parts info8
  have HI := Lib.hid hi
  have HZ0 := Lib.hid hz0
  have HZ1 := Lib.hid hz1
  have HZ2 := Lib.hid hz2
  clear hi hz0 hz1 hz2
  go_enter Tryd.func26, Tryd.ntmps26
  go_wp2_with fail
  go_loopw [3, 4] (fun ov iv wr => ∃ (k r : Nat) (A2 : Option Addr) (c2 : Nat), k ≤ n ∧ r = k * 16 ∧ iv = .int .i64 k ∧ ov = .slice A2 r c2 ∧ Hid (wr.ownsRow w.heap.size 5 1 (.slice A2 r c2) r ((bytesE (l.take k)).map by8)) ∧ Hid (Below w.heap.size w wr)) (fun _ iv _ => n - (intOf iv).toNat)
  case atStart => exact ⟨0, 0, none, 0, Nat.zero_le _, rfl, rfl, rfl, World.ownsRow_nil _ _ _ _, Below.refl _ _⟩
  case round =>
    obtain ⟨k, r, A2, c2, hk, hr, rfl, rfl, HO, HB⟩ := hrel
    by_cases hlt : k < n
    · have t1 : decide ((k : Int) < (n : Int)) = true := by simp; omega
      have hkl : k < l.length := by have := HN.out; omega
      obtain ⟨b, off, rfl, hbl, e0, e1⟩ := erows_at HS.out hkl
      have q0 := (HB.out.cell (p := ⟨b, off + k * 2, none⟩) hbl).trans e0
      obtain ⟨hnm, hy1, hy2⟩ := HAll.out k hkl
      have hx11 := hnm.2.2.2.1
      have hsucc := bytesE_succ hkl
      obtain ⟨cur, hcur⟩ : ∃ cur, cur = bytesE (l.take k) := ⟨_, rfl⟩
      unfold entB at hsucc
      obtain ⟨x, hx⟩ : ∃ x, x = l[k].1 := ⟨_, rfl⟩
      obtain ⟨y, hy⟩ : ∃ y, y = l[k].2 := ⟨_, rfl⟩
      rw [← hx] at e0 q0 hsucc hx11
      rw [← hy] at e1 hsucc hy1 hy2
      rw [← hcur] at hsucc HO
      obtain ⟨yn, rfl⟩ : ∃ yn : Nat, y = yn := ⟨y.toNat, by omega⟩
      obtain ⟨m, hm⟩ : ∃ m, (bs x).size = m := ⟨_, rfl⟩
      have hmx : m = x.length := by rw [← hm, bs_size]
      rw [Int.toNat_natCast, ← hmx] at hsucc
      rw [← hmx] at hx11
      rw [be_one (by omega)] at hsucc
      have hkI : (k : Int) < (n : Int) := by omega
      have hk0 : (0 : Int) ≤ (k : Int) := by omega
      have hr32 : r ≤ 512 := by omega
      have hw1 : IntKind.u8.wrap (m : Int) = (m : Int) := IntWalk.u8_in _ (by omega)
      have hw2 : IntKind.u64.wrap (yn : Int) = (yn : Int) := IntWalk.u64_in _ (by omega)
      have hcell : Value.int .u8 (m : Int) = by8 (UInt8.ofNat m) := by
        unfold by8
        rw [UInt8.toNat_ofNat', Nat.mod_eq_of_lt (by omega)]
      have hb1 : Below wr.heap.size wr (wr.alloc (.cells #[.int .u8 (m : Int)] 5)) := (Below.refl _ _).alloc (Nat.le_refl _) _
      have HCell := Lib.hid hcell
      have HB1 := Lib.hid (HB.out.trans (hb1.mono HB.out.size))
      have HSucc := Lib.hid hsucc
      have HMx := Lib.hid hmx
      have HBl := Lib.hid hbl
      have E0 := Lib.hid e0
      have E1 := Lib.hid e1
      have hsz1 : w.heap.size ≤ (wr.alloc (.cells #[.int .u8 (m : Int)] 5)).heap.size := Nat.le_trans HB.out.size hb1.size
      have HO1 := Lib.hid (World.ownsRow.alloc HO.out (.cells #[.int .u8 (m : Int)] 5))
      have Hr := Lib.hid hr
      clear hx hy hcur hsucc hmx hnm e0 e1 hcell hbl hr
      go_wp2_with (at_builtin; refine wpList_app elem_u8P rfl _ _ rfl w.heap.size (.slice A2 r c2) r (cur.map by8) rfl HO1.out (some ⟨_, 0, none⟩) 1 1 [.int .u8 (m : Int)] rfl (sees_new _ _ _) rfl (by intro u hu; simp at hu; subst hu; rfl) (by omega) hsz1 ?_)
      intro v2 w2 hown hgr _
      obtain ⟨A3, c3, rfl, _, _⟩ := own_full hown
      have HB2 := Lib.hid (HB1.out.own HO1.out hgr hsz1 (Nat.le_refl _))
      have q2 := (HB2.out.cell (p := ⟨b, off + k * 2, none⟩) HBl.out).trans E0.out
      have HO2 := Lib.hid hown
      clear hown hgr q0 hsz1
      go_wp2_with (at_builtin; refine Lib.wpList_append_own_string _ rfl _ _ 38 9 rfl w.heap.size 5 i0 Tryd.underlying38 Tryd.underlying9 HI.out HZ0.out HZ1.out HZ2.out _ _ _ rfl HO2.out (bs x) rfl ?c3 ?c4 ?c5 ?_)
      case c3 => unfold maxLen; omega
      case c4 => omega
      case c5 => exact HB2.out.size
      intro v3 w3 hown3 hgr3 _
      obtain ⟨A4, c4, rfl, _, _⟩ := own_full hown3
      have HB3 := Lib.hid (HB2.out.own HO2.out hgr3 HB2.out.size (Nat.le_refl _))
      have q3 := (HB3.out.cell (p := ⟨b, off + k * 2, none⟩) HBl.out).trans E0.out
      have ho3 : w3.ownsRow w.heap.size 5 1 (.slice A4 (r + 1 + m) c4) (r + 1 + m) ((cur ++ [UInt8.ofNat m] ++ x ++ List.replicate 0 0).map by8) := by
        have e : (cur ++ [UInt8.ofNat m] ++ x ++ List.replicate 0 0).map by8 = cur.map by8 ++ Value.int .u8 (m : Int) :: Lib.strCells (bs x) := by
          rw [strCells_bs, HCell.out]
          simp
        rw [e]
        first
          | exact hown3
          | (rw [List.append_assoc] at hown3; exact hown3)
      have HO3 := Lib.hid ho3
      clear hown3 ho3 hgr3 q2
      go_wp2_with fail
      go_loopw [3, 5] (fun ov jv wr => ∃ (j t s : Nat) (A5 : Option Addr) (c5 : Nat) (acc : List UInt8), Hid (acc = cur ++ [UInt8.ofNat m] ++ x ++ List.replicate t 0) ∧ Hid (j = m + t) ∧ j ≤ 11 ∧ Hid (s = r + 1 + m + t) ∧ s ≤ 600 ∧ jv = .int .i64 j ∧ ov = .slice A5 s c5 ∧ Hid (wr.ownsRow w.heap.size 5 1 (.slice A5 s c5) s (acc.map by8)) ∧ Hid (Below w.heap.size w wr)) (fun _ jv _ => 11 - (intOf jv).toNat)
      case atStart => exact ⟨m, 0, r + 1 + m, A4, c4, _, rfl, by show _ = _; omega, hx11, by show _ = _; omega, by omega, rfl, rfl, HO3.out, HB3.out⟩
      case round =>
        clear HO3 HB3 q3 HO2 HB2 HO1 HB1
        obtain ⟨j, t, s, A5, c5, acc, HAcc, HJ, hj11, HST, hs600, rfl, rfl, HO5, HB5⟩ := hrel
        by_cases hjl : j < 11
        · have u1 : decide ((j : Int) < 11) = true := by simp; omega
          have u1' : decide (j < 11) = true := by simpa using hjl
          have hb6 : Below wr.heap.size wr (wr.alloc (.cells #[.int .u8 0] 5)) := (Below.refl _ _).alloc (Nat.le_refl _) _
          have HB6 := Lib.hid (HB5.out.trans (hb6.mono HB5.out.size))
          have hsz6 : w.heap.size ≤ (wr.alloc (.cells #[.int .u8 0] 5)).heap.size := Nat.le_trans HB5.out.size hb6.size
          have HO6 := Lib.hid (World.ownsRow.alloc HO5.out (.cells #[.int .u8 0] 5))
          clear hb6
          go_wp2_with (at_builtin; refine wpList_app elem_u8P rfl _ _ rfl w.heap.size (.slice A5 s c5) s (acc.map by8) rfl HO6.out (some ⟨_, 0, none⟩) 1 1 [.int .u8 0] rfl (sees_new _ _ _) rfl (by intro u hu; simp at hu; subst hu; rfl) (by omega) hsz6 ?_)
          intro v7 w7 hown7 hgr7 _
          obtain ⟨A7, c7, rfl, _, _⟩ := own_full hown7
          have HB7 := Lib.hid (HB6.out.own HO6.out hgr7 hsz6 (Nat.le_refl _))
          have ho7 : w7.ownsRow w.heap.size 5 1 (.slice A7 (s + 1) c7) (s + 1) ((cur ++ [UInt8.ofNat m] ++ x ++ List.replicate (t + 1) 0).map by8) := by
            have e : (cur ++ [UInt8.ofNat m] ++ x ++ List.replicate (t + 1) 0).map by8 = acc.map by8 ++ [.int .u8 0] := by
              rw [HAcc.out, List.replicate_succ', ← List.append_assoc, List.map_append]
              rfl
            rw [e]
            exact hown7
          have HO7 := Lib.hid ho7
          clear hown7 hgr7 ho7
          go_wp2_with fail
          go_roundw
          case rel => exact ⟨j + 1, t + 1, s + 1, A7, c7, _, rfl, by have := HJ.out; show _ = _; omega, by omega, by have := HST.out; show _ = _; omega, by have := HST.out; have := HJ.out; omega, by go_num, rfl, HO7.out, HB7.out⟩
          case measure => simp [intOf]; omega
        · have u1 : decide ((j : Int) < 11) = false := by simp; omega
          have u1' : decide (j < 11) = false := by simpa using hjl
          have q5 := (HB5.out.cell (p := ⟨b, off + k * 2 + 1, none⟩) HBl.out).trans E1.out
          have P6 := Lib.hid (fun W => rbig_ok yn 4 W (by omega) (by omega) (by omega) (by omega))
          have hsucc2 := HSucc.out
          have ht : 11 - m = t := by have := HJ.out; omega
          rw [ht] at hsucc2
          have HSucc2 := Lib.hid hsucc2
          clear hsucc2 ht
          go_wp2_with (first
            | (go_at_call 55; refine (P6.out _).mono ?_; rintro e w8 ⟨A8, c8, rfl, hb8, hB8⟩; have HB8 := Lib.hid (HB5.out.trans (hB8.mono HB5.out.size)); have HO8 := Lib.hid (own_touch HO5.out (K := fun _ => False) (Tch.of_below hB8) (fun _ _ => id)); have HBy8 := Lib.hid hb8; clear hb8 hB8)
            | (at_builtin; refine wpList_app elem_u8P rfl _ _ rfl w.heap.size (.slice A5 s c5) s (acc.map by8) rfl HO8.out A8 4 c8 ((be yn 4).map by8) rfl HBy8.out (by simp [be_length]) (one_by8P _) (by omega) HB8.out.size ?_; intro v9 w9 hown9 hgr9 _; obtain ⟨A9, c9, rfl, _, _⟩ := own_full hown9))
          have HB9 := Lib.hid (HB8.out.own HO8.out hgr9 HB8.out.size (Nat.le_refl _))
          have ho9 : w9.ownsRow w.heap.size 5 1 (.slice A9 (s + 4) c9) (s + 4) ((bytesE (l.take (k + 1))).map by8) := by
            rw [HSucc2.out]
            have e : (cur ++ ([UInt8.ofNat m] ++ (x ++ (List.replicate t 0 ++ be yn 4)))).map by8 = acc.map by8 ++ (be yn 4).map by8 := by rw [HAcc.out]; simp [List.append_assoc]
            rw [e]
            exact hown9
          have HO9 := Lib.hid ho9
          clear hown9 hgr9 ho9
          go_wp2_with fail
          go_roundw
          case rel => exact ⟨k + 1, s + 4, A9, c9, by omega, by have := Hr.out; have := HST.out; have := HJ.out; omega, by go_num, rfl, HO9.out, HB9.out⟩
          case measure => simp [intOf]; omega
    · obtain rfl : k = n := by omega
      have t1 : decide ((k : Int) < (k : Int)) = false := by simp
      have hall2 : l.take k = l := by rw [HN.out]; exact List.take_length
      rw [hall2] at HO
      have hbl : (bytesE l).length = r := by
        rw [bytesE_length (fun e he => by
          obtain ⟨j, hj, rfl⟩ := List.getElem_of_mem he
          exact (HAll.out j hj).1.2.2.2.1), hr, HN.out]
      have HBl := Lib.hid hbl
      have Hr := Lib.hid hr
      clear hall2 hbl hr
      go_wp2_with fail
      go_ret
      rw [HBl.out]
      exact ⟨A2, c2, rfl, Sees.of_own HO.out, HB.out⟩
end Go.Proofs.YtjilejmchaejiaaDoor
