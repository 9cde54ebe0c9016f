/- The contract of the law's awake. No condition. -/
import Derived.Test.YtobndboogafjpaaVersPutOk
import Derived.Test.YtobndboogafjpaaVersSame
namespace Go.Cat.Vers
def e1 : Ver := ⟨1, 4, []⟩
def e2 : Ver := ⟨2, 9, []⟩
theorem rising2 : Rising [e1, e2] := by
  intro i j hij hj
  simp at hj
  obtain rfl : i = 0 := by omega
  obtain rfl : j = 1 := by omega
  simp [e1, e2]
theorem cleaned2 {k : Nat} (h : Cleaned [e1, e2] 6 k) : k = 1 := by
  refine h.uniq ⟨by simp, ?_, ?_⟩
  · intro i hi
    obtain rfl : i = 0 := by omega
    simp [e1]
  · intro i h1 h2
    simp at h2
    obtain rfl : i = 1 := by omega
    simp [e2]
theorem small2 : Small [e1, e2] := ⟨by simp, by intro v hv; simp at hv; rcases hv with rfl | rfl <;> simp [e1, e2]⟩
end Go.Cat.Vers
namespace Go.Proofs.Ytobndboogafjpaa
open Go.RowKit Go.Cat Go.Cat.Vers

theorem field_ver0 (a b : Int) (A : Option Addr) (n c : Nat) (w : World) : (Instr.field 29 (.agg #[.int .u64 a, .int .u64 b, .slice A n c]) 0).run Try.prog w = .ok (.int .u64 a) w := by kernel_rfl
theorem field_ver2 (a b : Int) (A : Option Addr) (n c : Nat) (w : World) : (Instr.field 29 (.agg #[.int .u64 a, .int .u64 b, .slice A n c]) 2).run Try.prog w = .ok (.slice A n c) w := by kernel_rfl

set_option maxRecDepth 100000 in
theorem awake_any (w : World) : Calls Try.prog 7 #[] w fun e w' => e = .returned (.bool true) ∧ Below w.heap.size w w' := by
  go_enter Try.func7, Try.ntmps7
  go_wp2_with fail
  refine (new_any w).mono ?_
  rintro e w1 ⟨rfl, h1, hB1⟩
  have p1 := put_ok w.heap.size w.heap.size _ [] e1 none 0 w1 h1 (by simp) (by simp [e1]) Bytes.nil_ (by simp [e1]) (by simp [e1]) (by simp [e1]) (by simp) hB1.size
  have P1 := Lib.hid p1
  have H1 := Lib.hid h1
  clear p1 h1
  go_wp2_with fail
  refine (P1.out).mono ?_
  rintro e w2 ⟨rfl, R2, h2, _, ht2⟩
  have hB2 : Below w.heap.size w w2 := hB1.trans (ht2.below hB1.size fun k hk => (H1.out.mine k hk).1)
  have p2 := put_ok w.heap.size w.heap.size R2 [e1] e2 none 0 w2 h2 (by simp) (by simp [e2]) Bytes.nil_ (by simp [e2]) (by simp [e2]) (by simp [e2]) (by simp [e1, e2]) hB2.size
  have P2 := Lib.hid p2
  have H2 := Lib.hid h2
  clear p2 h2 ht2
  go_wp2_with fail
  refine (P2.out).mono ?_
  rintro e w3 ⟨rfl, R3, h3, _, ht3⟩
  have hB3 : Below w.heap.size w w3 := hB2.trans (ht3.below hB2.size fun k hk => (H2.out.mine k hk).1)
  have hb3 : Blk w3 (some ⟨w.heap.size, 0, none⟩) [e1, e2] := h3.blk
  clear h3 ht3
  go_wp2_with fail
  refine (cleanV_any (some ⟨w.heap.size, 0, none⟩) [e1, e2] 6 w3 hb3 small2 rising2).mono ?_
  rintro e w4 ⟨k, hk, A4, c4, rfl, _, hB4⟩
  obtain rfl := cleaned2 hk
  clear hk
  have hb4 := hb3.below hB4
  have hB5 := hB3.trans (hB4.mono hB3.size)
  have hv4 : (atV [e1, e2] (((1 : Nat) : Int) - 1)) = e1 := rfl
  rw [hv4]
  clear hv4 hb3 hB3 hB4
  have hfd := field_ver0
  go_wp2_with fail
  refine (dirty_any (some ⟨w.heap.size, 0, none⟩) [e1, e2] 6 w4 hb4 small2).mono ?_
  rintro e w5 ⟨rfl, hB6⟩
  have hd1 : dirty [e1, e2] 6 = true := by decide
  rw [hd1]
  have hb5 := hb4.below hB6
  have hB7 := hB5.trans (hB6.mono hB5.size)
  clear hd1 hb4 hB5 hB6
  go_wp2_with fail
  refine (dirty_any (some ⟨w.heap.size, 0, none⟩) [e1, e2] 9 w5 hb5 small2).mono ?_
  rintro e w6 ⟨rfl, hB8⟩
  have hd2 : dirty [e1, e2] 9 = false := by decide
  rw [hd2]
  have hb6 := hb5.below hB8
  have hB9 := hB7.trans (hB8.mono hB7.size)
  clear hd2 hb5 hB7 hB8
  go_wp2_with fail
  refine (len_any (some ⟨w.heap.size, 0, none⟩) [e1, e2] w6 hb6).mono ?_
  rintro e w7 ⟨rfl, rfl⟩
  go_wp2_with fail
  go_ret
  exact ⟨rfl, hB9⟩
end Go.Proofs.Ytobndboogafjpaa
