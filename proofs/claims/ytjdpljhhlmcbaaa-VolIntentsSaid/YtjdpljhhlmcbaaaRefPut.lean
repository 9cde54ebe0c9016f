/- Bytes of a number that fits, the reference's: the contracts of Put and Big. Condition: widths 1 to 8. -/
import Derived.Test.YtjdpljhhlmcbaaaFixOut
namespace Go.Proofs.Ytjdpljhhlmcbaaa
open Go.RowKit Go.Cat

theorem elem_u8P : Elem Try.prog 35 5 (.int .u8 0) 1 1 := ⟨Try.underlying35, info8, rfl, by decide, by decide⟩
theorem one_by8P (l : List UInt8) : ∀ u ∈ l.map by8, u.oneCell' = true := by intro u hu; simp [by8] at hu; obtain ⟨a, _, rfl⟩ := hu; rfl
/-- What the reference's Put tells of a number that fits. -/
def ToldBe (n width : Nat) (w : World) (e : Ending) (w' : World) : Prop := ∃ A c, e = .returned (.tuple #[.slice A width c, .int .i64 0]) ∧ Bytes w' A (be n width) ∧ Below w.heap.size w w'
def ToldBe1 (n width : Nat) (w : World) (e : Ending) (w' : World) : Prop := ∃ A c, e = .returned (.slice A width c) ∧ Bytes w' A (be n width) ∧ Below w.heap.size w w'

set_option maxRecDepth 100000 in
theorem rput_ok (n width : Nat) (w : World) (hn : n < 256 ^ width) (hn64 : n < 18446744073709551616) (h1 : 1 ≤ width) (h8 : width ≤ 8) :
    Calls Try.prog 75 #[.int .u64 (n : Int), .int .i64 (width : Int)] w (ToldBe n width w) := by
  have d1 : decide (width < 1) = false := by simp; omega
  have d1' : decide ((width : Int) < 1) = false := by simp; omega
  have d1'' : decide (width = 0) = false := by simp; omega
  have d2 : decide ((8 : Int) < (width : Int)) = false := by simp; omega
  have d2' : decide (8 < width) = false := by simp; omega
  have hz : n / 256 ^ width = 0 := Nat.div_eq_of_lt hn
  have HZ := Lib.hid hz
  clear hz hn
  go_enter Try.func75, Try.ntmps75
  go_wp2_with fail
  go_loopw [0, 6, 7] (fun nv ov iv wr => ∃ (k q : Nat) (A : Option Addr) (c : Nat), k ≤ width ∧ q < 18446744073709551616 ∧ iv = .int .i64 k ∧ nv = .int .u64 (q : Int) ∧ ov = .slice A k c ∧ Hid (q = n / 256 ^ k) ∧ Hid (Bytes wr A (be n k)) ∧ Hid (Below w.heap.size w wr)) (fun _ _ iv _ => width - (intOf iv).toNat)
  case atStart => exact ⟨0, n, none, 0, Nat.zero_le _, hn64, rfl, rfl, rfl, by show _ = _; simp, .inl rfl, Below.refl _ _⟩
  case round =>
    obtain ⟨k, q, A, c, hk, hq64, rfl, rfl, rfl, HQ, HBy, HB⟩ := hrel
    by_cases hlt : k < width
    · have hkI : decide ((k : Int) < (width : Int)) = true := by simp; omega
      obtain ⟨byte, hbyte⟩ : ∃ b : UInt8, b = UInt8.ofNat (q % 256) := ⟨_, rfl⟩
      have hcell : Value.int .u8 ((q : Int) % 256) = by8 byte := by
        unfold by8
        rw [hbyte, UInt8.toNat_ofNat', Nat.mod_mod]
        congr 1
      have hnext : be n (k + 1) = byte :: be n k := by rw [be_cons, ← HQ.out, hbyte]
      have hq2 : ((q : Int) / 256) = ((q / 256 : Nat) : Int) := by omega
      have hq3 : q / 256 = n / 256 ^ (k + 1) := by rw [HQ.out, Nat.pow_succ, Nat.div_div_eq_div_mul]
      have hb1 : Below wr.heap.size wr (wr.alloc (.cells #[.int .u8 ((q : Int) % 256)] 5)) := (Below.refl _ _).alloc (Nat.le_refl _) _
      have hown1 : (wr.alloc (.cells #[.int .u8 ((q : Int) % 256)] 5)).ownsRow w.heap.size 5 1 (.slice (some ⟨wr.heap.size, 0, none⟩) 1 1) 1 [.int .u8 ((q : Int) % 256)] := own_of_block' HB.out.size (heap_alloc_new _ _) rfl (by unfold maxLen; omega)
      have hsz1 : w.heap.size ≤ (wr.alloc (.cells #[.int .u8 ((q : Int) % 256)] 5)).heap.size := Nat.le_trans HB.out.size hb1.size
      have HCell := Lib.hid hcell
      have HNext := Lib.hid hnext
      have HQ2 := Lib.hid hq2
      have HQ3 := Lib.hid hq3
      have HB1 := Lib.hid (HB.out.trans (hb1.mono HB.out.size))
      have HOwn := Lib.hid hown1
      have HSee := Lib.hid (HBy.out.below hb1)
      have hw8 : IntKind.u8.wrap ((q : Int) % 256) = (q : Int) % 256 := IntWalk.u8_in _ (by omega)
      clear hbyte hcell hnext hq2 hq3 hb1 hown1
      go_wp2_with (at_builtin; refine wpList_app elem_u8P rfl _ _ rfl w.heap.size (.slice (some ⟨wr.heap.size, 0, none⟩) 1 1) 1 [.int .u8 ((q : Int) % 256)] rfl HOwn.out A k c ((be n k).map by8) rfl HSee.out (by simp [be_length]) (one_by8P _) (by omega) hsz1 ?_)
      intro v2 w2 hown hgr _
      obtain ⟨A2, c2, rfl, _, _⟩ := own_full hown
      have HB2 := Lib.hid (HB1.out.own HOwn.out hgr hsz1 (Nat.le_refl _))
      have hby : Bytes w2 A2 (be n (k + 1)) := by
        rw [HNext.out]
        have := Sees.of_own hown
        rw [HCell.out] at this
        exact this
      have HBy2 := Lib.hid hby
      clear hown hgr hby hw8
      go_wp2_with fail
      go_roundw
      case rel => exact ⟨k + 1, q / 256, A2, c2, by omega, by omega, by go_num, by rw [HQ2.out], by rw [Nat.add_comm], HQ3.out, HBy2.out, HB2.out⟩
      case measure => simp [intOf]; omega
    · obtain rfl : k = width := by omega
      have hkI : decide ((k : Int) < (k : Int)) = false := by simp
      obtain rfl : q = 0 := by rw [HQ.out]; exact HZ.out
      have t0 : decide (0 < 0) = false := by simp
      have t1 : decide ((0 : Int) < 0) = false := by simp
      go_wp2_with fail
      go_ret2
      exact ⟨A, c, rfl, HBy.out, HB.out⟩

theorem rbig_ok (n width : Nat) (w : World) (hn : n < 256 ^ width) (hn64 : n < 18446744073709551616) (h1 : 1 ≤ width) (h8 : width ≤ 8) :
    Calls Try.prog 53 #[.int .u64 (n : Int), .int .i64 (width : Int)] w (ToldBe1 n width w) := by
  have P1 := Lib.hid (rput_ok n width w hn hn64 h1 h8)
  clear hn hn64
  go_enter Try.func53, Try.ntmps53
  go_wp2_with fail
  refine (P1.out).mono ?_
  rintro e w1 ⟨A, c, rfl, hb, hB⟩
  go_wp2_with fail
  go_ret
  exact ⟨A, c, rfl, hb, hB⟩
end Go.Proofs.Ytjdpljhhlmcbaaa
