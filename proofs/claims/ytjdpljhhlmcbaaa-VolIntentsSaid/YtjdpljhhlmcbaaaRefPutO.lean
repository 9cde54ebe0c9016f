/- Bytes of a number that fits, the reference's, in a row of the call's own: the contracts of Put, Big and Text. Condition: widths 1 to 8. -/
import Derived.Test.YtjdpljhhlmcbaaaRefPut
import Derived.Test.YtjdpljhhlmcbaaaFixText
namespace Go.Proofs.Ytjdpljhhlmcbaaa
open Go.RowKit Go.Cat

/-- What the reference's Put tells of a number that fits. -/
def ToldBeO (n width : Nat) (w : World) (e : Ending) (w' : World) : Prop := ∃ A c, e = .returned (.tuple #[.slice A width c, .int .i64 0]) ∧ w'.ownsRow w.heap.size 5 1 (.slice A width c) width ((be n width).map by8) ∧ Below w.heap.size w w'
def ToldBe1O (n width : Nat) (w : World) (e : Ending) (w' : World) : Prop := ∃ A c, e = .returned (.slice A width c) ∧ w'.ownsRow w.heap.size 5 1 (.slice A width c) width ((be n width).map by8) ∧ Below w.heap.size w w'

set_option maxRecDepth 100000 in
theorem rputo_ok (n width : Nat) (w : World) (hn : n < 256 ^ width) (hn64 : n < 18446744073709551616) (h1 : 1 ≤ width) (h8 : width ≤ 8) :
    Calls Try.prog 75 #[.int .u64 (n : Int), .int .i64 (width : Int)] w (ToldBeO n width w) := by
  have d1 : decide (width < 1) = false := by simp; omega
  have d1' : decide ((width : Int) < 1) = false := by simp; omega
  have d1'' : decide (width = 0) = false := by simp; omega
  have d2 : decide ((8 : Int) < (width : Int)) = false := by simp; omega
  have d2' : decide (8 < width) = false := by simp; omega
  have hz : n / 256 ^ width = 0 := Nat.div_eq_of_lt hn
  have HZ := Lib.hid hz
  clear hz hn
  go_enter Try.func75, Try.ntmps75
  go_wp2_with fail
  go_loopw [0, 6, 7] (fun nv ov iv wr => ∃ (k q : Nat) (A : Option Addr) (c : Nat), k ≤ width ∧ q < 18446744073709551616 ∧ iv = .int .i64 k ∧ nv = .int .u64 (q : Int) ∧ ov = .slice A k c ∧ Hid (q = n / 256 ^ k) ∧ Hid (wr.ownsRow w.heap.size 5 1 (.slice A k c) k ((be n k).map by8)) ∧ Hid (Below w.heap.size w wr)) (fun _ _ iv _ => width - (intOf iv).toNat)
  case atStart => exact ⟨0, n, none, 0, Nat.zero_le _, hn64, rfl, rfl, rfl, by show _ = _; simp, World.ownsRow_nil _ _ _ _, Below.refl _ _⟩
  case round =>
    obtain ⟨k, q, A, c, hk, hq64, rfl, rfl, rfl, HQ, HBy, HB⟩ := hrel
    by_cases hlt : k < width
    · have hkI : decide ((k : Int) < (width : Int)) = true := by simp; omega
      obtain ⟨byte, hbyte⟩ : ∃ b : UInt8, b = UInt8.ofNat (q % 256) := ⟨_, rfl⟩
      have hcell : Value.int .u8 ((q : Int) % 256) = by8 byte := by
        unfold by8
        rw [hbyte, UInt8.toNat_ofNat', Nat.mod_mod]
        congr 1
      have hnext : be n (k + 1) = byte :: be n k := by rw [be_cons, ← HQ.out, hbyte]
      have hq2 : ((q : Int) / 256) = ((q / 256 : Nat) : Int) := by omega
      have hq3 : q / 256 = n / 256 ^ (k + 1) := by rw [HQ.out, Nat.pow_succ, Nat.div_div_eq_div_mul]
      have hb1 : Below wr.heap.size wr (wr.alloc (.cells #[.int .u8 ((q : Int) % 256)] 5)) := (Below.refl _ _).alloc (Nat.le_refl _) _
      have hown1 : (wr.alloc (.cells #[.int .u8 ((q : Int) % 256)] 5)).ownsRow w.heap.size 5 1 (.slice (some ⟨wr.heap.size, 0, none⟩) 1 1) 1 [.int .u8 ((q : Int) % 256)] := own_of_block' HB.out.size (heap_alloc_new _ _) rfl (by unfold maxLen; omega)
      have hsz1 : w.heap.size ≤ (wr.alloc (.cells #[.int .u8 ((q : Int) % 256)] 5)).heap.size := Nat.le_trans HB.out.size hb1.size
      have HCell := Lib.hid hcell
      have HNext := Lib.hid hnext
      have HQ2 := Lib.hid hq2
      have HQ3 := Lib.hid hq3
      have HB1 := Lib.hid (HB.out.trans (hb1.mono HB.out.size))
      have HOwn := Lib.hid hown1
      have HSee := Lib.hid ((Sees.of_own HBy.out).below hb1)
      have hw8 : IntKind.u8.wrap ((q : Int) % 256) = (q : Int) % 256 := IntWalk.u8_in _ (by omega)
      clear hbyte hcell hnext hq2 hq3 hb1 hown1
      go_wp2_with (at_builtin; refine wpList_app elem_u8P rfl _ _ rfl w.heap.size (.slice (some ⟨wr.heap.size, 0, none⟩) 1 1) 1 [.int .u8 ((q : Int) % 256)] rfl HOwn.out A k c ((be n k).map by8) rfl HSee.out (by simp [be_length]) (one_by8P _) (by omega) hsz1 ?_)
      intro v2 w2 hown hgr _
      obtain ⟨A2, c2, rfl, _, _⟩ := own_full hown
      have HB2 := Lib.hid (HB1.out.own HOwn.out hgr hsz1 (Nat.le_refl _))
      have hby : w2.ownsRow w.heap.size 5 1 (.slice A2 (k + 1) c2) (k + 1) ((be n (k + 1)).map by8) := by
        rw [HNext.out]
        have := hown
        rw [HCell.out, Nat.add_comm] at this
        exact this
      have HBy2 := Lib.hid hby
      clear hown hgr hby hw8
      go_wp2_with fail
      go_roundw
      case rel => exact ⟨k + 1, q / 256, A2, c2, by omega, by omega, by go_num, by rw [HQ2.out], by rw [Nat.add_comm], HQ3.out, HBy2.out, HB2.out⟩
      case measure => simp [intOf]; omega
    · obtain rfl : k = width := by omega
      have hkI : decide ((k : Int) < (k : Int)) = false := by simp
      obtain rfl : q = 0 := by rw [HQ.out]; exact HZ.out
      have t0 : decide (0 < 0) = false := by simp
      have t1 : decide ((0 : Int) < 0) = false := by simp
      go_wp2_with fail
      go_ret2
      exact ⟨A, c, rfl, HBy.out, HB.out⟩

theorem rbigo_ok (n width : Nat) (w : World) (hn : n < 256 ^ width) (hn64 : n < 18446744073709551616) (h1 : 1 ≤ width) (h8 : width ≤ 8) :
    Calls Try.prog 53 #[.int .u64 (n : Int), .int .i64 (width : Int)] w (ToldBe1O n width w) := by
  have P1 := Lib.hid (rputo_ok n width w hn hn64 h1 h8)
  clear hn hn64
  go_enter Try.func53, Try.ntmps53
  go_wp2_with fail
  refine (P1.out).mono ?_
  rintro e w1 ⟨A, c, rfl, hb, hB⟩
  go_wp2_with fail
  go_ret
  exact ⟨A, c, rfl, hb, hB⟩
/-- The reference's Text of bytes that fit. -/
def ToldTx (b : List UInt8) (w : World) (e : Ending) (w' : World) : Prop := ∃ A c, e = .returned (.tuple #[.slice A (2 + b.length) c, .int .i64 0]) ∧ Bytes w' A (be b.length 2 ++ b) ∧ Below w.heap.size w w'
theorem rtxt_ok (A : Option Addr) (b : List UInt8) (c : Nat) (w : World) (hb : Bytes w A b) (hl : b.length ≤ 65535) :
    Calls Try.prog 54 #[.slice A b.length c] w (ToldTx b w) := by
  have P1 := Lib.hid (rbigo_ok b.length 2 w (by omega) (by omega) (by omega) (by omega))
  unfold ToldTx
  have HB := Lib.hid hb
  obtain ⟨n, hn⟩ : ∃ n, n = b.length := ⟨_, rfl⟩
  rw [← hn] at P1 hl ⊢
  have HN := Lib.hid hn
  have d1 : decide ((65535 : Int) < (n : Int)) = false := by simp; omega
  have d1' : decide (65535 < n) = false := by simp; omega
  have HLn : Hid ((b.map by8).length = n * 1) := by show _ = _; rw [List.length_map, HN.out, Nat.mul_one]
  clear hb hn
  go_enter Try.func54, Try.ntmps54
  go_wp2_with fail
  refine (P1.out).mono ?_
  rintro e w1 ⟨A1, c1, rfl, ho, hB1⟩
  have HO := Lib.hid ho
  have HB1 := Lib.hid hB1
  clear ho hB1 P1
  go_wp2_with (at_builtin; refine wpList_app elem_u8P rfl _ _ rfl w.heap.size (.slice A1 2 c1) 2 ((be n 2).map by8) rfl HO.out A n c (b.map by8) rfl (HB.out.below HB1.out) HLn.out (one_by8P _) (by omega) HB1.out.size ?_)
  intro v2 w2 hown hgr _
  obtain ⟨A2, c2, rfl, _, _⟩ := own_full hown
  have HB2 := Lib.hid (HB1.out.own HO.out hgr HB1.out.size (Nat.le_refl _))
  have HS2 := Lib.hid (Sees.of_own hown)
  clear hown hgr
  go_wp2_with fail
  go_ret2
  exact ⟨A2, c2, rfl, by have := HS2.out; rw [← List.map_append] at this; exact this, HB2.out⟩
end Go.Proofs.Ytjdpljhhlmcbaaa
