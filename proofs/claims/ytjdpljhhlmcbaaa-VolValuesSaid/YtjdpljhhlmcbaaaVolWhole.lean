/- The contracts of vol.Whole and of the reference's. Condition: lengths within a slice's. -/
import Derived.Test.YtjdpljhhlmcbaaaVolNode
import Derived.Test.YtjdpljhhlmcbaaaRefPut
namespace Go.Proofs.Ytjdpljhhlmcbaaa
open Go.RowKit Go.Cat Go.Cat.Ino

theorem size_u8W : (Try.prog.info? 5).map (·.size) = some 1 := by kernel_rfl
/-- What Whole tells. -/
def ToldWh (bs : List UInt8) (w : World) (e : Ending) (w' : World) : Prop := ∃ A c, e = .returned (.slice A 64 c) ∧ Bytes w' A (wholeTo bs 64) ∧ Below w.heap.size w w'

set_option maxRecDepth 100000 in
theorem vwhole_any (A : Option Addr) (c : Nat) (bs : List UInt8) (w : World) (hb : Bytes w A bs) :
    Calls Try.prog 32 #[.slice A bs.length c] w (ToldWh bs w) := by
  obtain ⟨i0, hi, hz0, hz1, hz2⟩ := info_parts info8
  obtain ⟨cs, hcs⟩ : ∃ cs : List Value, cs = (bs.take 64).map by8 := ⟨_, rfl⟩
  have hlen : cs.length = min 64 bs.length := by rw [hcs, List.length_map, List.length_take]
  have hmin : min 64 bs.length = Nat.min bs.length 64 := by show min 64 bs.length = min bs.length 64; omega
  have hone : ∀ v ∈ cs, v.oneCell' = true := by rw [hcs]; exact one_by8P _
  have hsee : 0 < cs.length → ∃ ad, A = some ad ∧ ∀ j v, cs[j]? = some v → w.cell? (ad.add j) = some v := by
    intro hp
    have hb' := bytes_take hb 64
    exact Sees.addr (xs := (bs.take 64).map by8) hb' (by rw [← hcs]; exact hp) |>.imp fun ad h => ⟨h.1, by rw [hcs]; exact h.2⟩
  have HO : Hid (cs ++ (List.replicate 64 (Value.int .u8 0)).drop cs.length = (wholeTo bs 64).map by8) := by
    show _ = _
    have : 64 - min 64 bs.length = 64 - bs.length := by omega
    rw [hlen, hcs, List.drop_replicate, this]
    unfold wholeTo
    simp [by8]
  have HLn := Lib.hid hlen
  have HMn := Lib.hid hmin
  have HSee := Lib.hid hsee
  clear hcs hlen hmin hsee
  go_enter Try.func32, Try.ntmps32
  go_wp2_with (at_make; refine wpList_make_full _ rfl _ _ 35 rfl w.heap.size 5 i0 (.int .u8 0) 1 Try.underlying35 hi hz0 hz1 _ _ _ _ 64 rfl rfl rfl rfl ?b1 ?b2 ?b3 ?_)
  case b1 => rw [hz2]; omega
  case b2 => unfold maxLen; omega
  case b3 => exact Nat.le_refl _
  intro w1 hown1 hg1
  have hbk := block_of_own' hown1 rfl
  rw [toList_madeCells_one] at hbk
  have hB1 : Below w.heap.size w w1 := (Below.refl _ _).grown hg1 (Nat.le_refl _) (fun k hk => by cases hk)
  have hkeep : ∀ p : Addr, p.block < w.heap.size → w1.cell? p = w.cell? p := fun p hp => hB1.cell hp
  obtain ⟨Z, hZ⟩ : ∃ Z, Z = List.replicate 64 (Value.int .u8 0) := ⟨_, rfl⟩
  have hZl : Z.length = 64 := by rw [hZ]; simp
  rw [← hZ] at hbk
  have HZ := Lib.hid hZ
  have HZl := Lib.hid hZl
  have HBk := Lib.hid hbk
  clear hZ hZl hbk hown1 hg1
  go_wp2_with (with_reducible refine wpList_copy_splice rfl (.tmp 5) (.tmp 6) 35 35 rfl 5 Try.underlying35 size_u8W (some ⟨w.heap.size, 0, none⟩) A 64 64 bs.length c rfl rfl w.heap.size 0 Z 5 HBk.out cs ?d1 ?d2 ?d3 hone w.heap.size w hB1 (Nat.le_refl _) ?_)
  case d1 => rw [HLn.out]; exact HMn.out
  case d2 =>
    intro hp
    obtain ⟨ad, hA, hc⟩ := HSee.out hp
    exact ⟨ad, hA, fun j v hv => by rw [hkeep _ (World.block_lt_of_cell? w _ (hc j v hv))]; exact hc j v hv⟩
  case d3 => rw [HZl.out, HLn.out]; omega
  intro w2 HG2 hB2
  have hown2 : Bytes w2 (some ⟨w.heap.size, 0, none⟩) (wholeTo bs 64) := by
    have := HG2.out
    have e : splice Z 0 cs = (wholeTo bs 64).map by8 := by rw [← HO.out, HZ.out]; simp [splice]
    rw [e] at this
    exact Sees.of_own (own_of_block' (base := w.heap.size) (n := 64) (Nat.le_refl _) this (by rw [List.length_map, wholeTo_length]) (by unfold maxLen; omega))
  have HF := Lib.hid hown2
  clear HG2 hown2
  go_wp2
  go_ret
  exact ⟨_, _, rfl, HF.out, hB2⟩

set_option maxRecDepth 100000 in
theorem rwhole_any (A : Option Addr) (c : Nat) (bs : List UInt8) (w : World) (hb : Bytes w A bs) :
    Calls Try.prog 33 #[.slice A bs.length c] w (ToldWh bs w) := by
  obtain ⟨n, hnn⟩ : ∃ n, n = bs.length := ⟨_, rfl⟩
  rw [← hnn]
  have HN := Lib.hid hnn
  have HS := Lib.hid hb
  clear hnn hb
  go_enter Try.func33, Try.ntmps33
  go_wp2_with fail
  go_loopw [3, 4] (fun ov iv' wr => ∃ (k : Nat) (B : Option Addr) (d : Nat), k ≤ 64 ∧ iv' = .int .i64 k ∧ ov = .slice B k d ∧ Hid (wr.ownsRow w.heap.size 5 1 (.slice B k d) k ((wholeTo bs k).map by8)) ∧ Hid (Below w.heap.size w wr)) (fun _ iv' _ => 64 - (intOf iv').toNat)
  case atStart => exact ⟨0, none, 0, Nat.zero_le _, rfl, rfl, by show World.ownsRow _ _ _ _ _ _ _; rw [show wholeTo bs 0 = [] by simp [wholeTo]]; exact World.ownsRow_nil _ _ _ _, Below.refl _ _⟩
  case round =>
    obtain ⟨k, B, d, hk, rfl, rfl, HO, HB⟩ := hrel
    by_cases hlt : k < 64
    · have t1 : decide ((k : Int) < 64) = true := by simp; omega
      have hkI : (k : Int) < 64 := by omega
      have hk0 : (0 : Int) ≤ (k : Int) := by omega
      by_cases hin : k < n
      · have t2 : decide ((k : Int) < (n : Int)) = true := by simp; omega
        have hkn : (k : Int) < (n : Int) := by omega
        have hkb : k < bs.length := by rw [← HN.out]; exact hin
        obtain ⟨b, off, hA, hbl, hc⟩ := HS.out.at_ (by omega)
        have e0 := (HB.out.cell (p := ⟨b, off + k, none⟩) hbl).trans (hc k hkb)
        have hnext := wholeTo_in hkb
        obtain ⟨x, hx⟩ : ∃ x, x = bs.getD k 0 := ⟨_, rfl⟩
        have hx2 : x = bs[k] := by rw [hx]; simp [List.getD_eq_getElem?_getD, hkb]
        rw [← hx] at e0
        rw [← hx2] at hnext
        have hb1 : Below wr.heap.size wr (wr.alloc (.cells #[.int .u8 (x.toNat : Int)] 5)) := (Below.refl _ _).alloc (Nat.le_refl _) _
        have HO1 := Lib.hid (own_below HO.out hb1)
        have HB1 := Lib.hid (HB.out.trans (hb1.mono HB.out.size))
        have hsz1 : w.heap.size ≤ (wr.alloc (.cells #[.int .u8 (x.toNat : Int)] 5)).heap.size := Nat.le_trans HB.out.size hb1.size
        have HNext := Lib.hid hnext
        subst hA
        clear hx hx2 hnext hb1 hc hkb hbl
        go_wp2_with (at_builtin; refine wpList_app elem_u8P rfl _ _ rfl w.heap.size (.slice B k d) k ((wholeTo bs k).map by8) rfl HO1.out (some ⟨_, 0, none⟩) 1 1 [.int .u8 (x.toNat : Int)] rfl (sees_new _ _ _) rfl (by intro u hu; simp at hu; subst hu; rfl) (by omega) hsz1 ?_)
        intro v2 w2 hown hgr _
        obtain ⟨A2, c2, rfl, _, _⟩ := own_full hown
        have HB2 := Lib.hid (HB1.out.own HO1.out hgr hsz1 (Nat.le_refl _))
        have ho2 : w2.ownsRow w.heap.size 5 1 (.slice A2 (k + 1) c2) (k + 1) ((wholeTo bs (k + 1)).map by8) := by
          rw [HNext.out, List.map_append]; exact hown
        have HO2 := Lib.hid ho2
        clear hown hgr ho2 e0
        go_wp2_with fail
        go_roundw
        case rel => exact ⟨k + 1, A2, c2, by omega, by go_num, rfl, HO2.out, HB2.out⟩
        case measure => simp [intOf]; omega
      · have t2 : decide ((k : Int) < (n : Int)) = false := by simp; omega
        have hnext := wholeTo_out (b := bs) (k := k) (by rw [← HN.out]; exact hin)
        have hb1 : Below wr.heap.size wr (wr.alloc (.cells #[.int .u8 0] 5)) := (Below.refl _ _).alloc (Nat.le_refl _) _
        have HO1 := Lib.hid (own_below HO.out hb1)
        have HB1 := Lib.hid (HB.out.trans (hb1.mono HB.out.size))
        have hsz1 : w.heap.size ≤ (wr.alloc (.cells #[.int .u8 0] 5)).heap.size := Nat.le_trans HB.out.size hb1.size
        have HNext := Lib.hid hnext
        clear hnext hb1
        go_wp2_with (at_builtin; refine wpList_app elem_u8P rfl _ _ rfl w.heap.size (.slice B k d) k ((wholeTo bs k).map by8) rfl HO1.out (some ⟨_, 0, none⟩) 1 1 [.int .u8 0] rfl (sees_new _ _ _) rfl (by intro u hu; simp at hu; subst hu; rfl) (by omega) hsz1 ?_)
        intro v2 w2 hown hgr _
        obtain ⟨A2, c2, rfl, _, _⟩ := own_full hown
        have HB2 := Lib.hid (HB1.out.own HO1.out hgr hsz1 (Nat.le_refl _))
        have ho2 : w2.ownsRow w.heap.size 5 1 (.slice A2 (k + 1) c2) (k + 1) ((wholeTo bs (k + 1)).map by8) := by
          rw [HNext.out, List.map_append]; exact hown
        have HO2 := Lib.hid ho2
        clear hown hgr ho2
        go_wp2_with fail
        go_roundw
        case rel => exact ⟨k + 1, A2, c2, by omega, by go_num, rfl, HO2.out, HB2.out⟩
        case measure => simp [intOf]; omega
    · obtain rfl : k = 64 := by omega
      have t1 : decide (((64 : Nat) : Int) < 64) = false := by simp
      go_wp2_with fail
      go_ret
      exact ⟨B, d, rfl, Sees.of_own HO.out, HB.out⟩
end Go.Proofs.Ytjdpljhhlmcbaaa
