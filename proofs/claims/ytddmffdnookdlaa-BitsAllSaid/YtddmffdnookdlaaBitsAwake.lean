/- The page's example (awake) answers true; and the law BitsTakes walks to true. No condition but the law's own lengths. -/
import Derived.Test.YtddmffdnookdlaaBitsGive
import Derived.Test.YtddmffdnookdlaaSame
import Derived.Test.YtddmffdnookdlaaSameI
namespace Go.Cat.Bits
theorem fits5 : FitsP [5] 5 := by
  refine ⟨by decide, by decide, .inr (by decide), fun i hi => ?_⟩
  have hi : 5 ≤ i := hi
  by_cases h : i < 8
  · have : i = 5 ∨ i = 6 ∨ i = 7 := by omega
    rcases this with rfl | rfl | rfl <;> decide
  · exact bit_out (by simp; omega)
theorem free5 : free [5] 5 = [1, 3, 4] := by decide
theorem take5 {out : List UInt8} {got : List Int} {e : Int} (h : TakeTo [5] 5 2 out got e) : out = [15] ∧ got = [1, 3] ∧ e = 0 := by
  have h' : TakeTo [5] 5 2 [15] [1, 3] 0 := by
    refine .inr (.inr (.inr ⟨fits5, by decide, by rw [free5]; decide, by rw [free5]; rfl, ⟨by decide, fun j => ?_⟩, rfl⟩))
    by_cases hj : j < 8
    · have : ∀ j, j < 8 → bit [15] j = (decide (j < (5 : Int).toNat) && (bit [5] j || decide ((j : Int) ∈ [(1 : Int), 3]))) := by decide
      exact this j hj
    · rw [bit_out (by simp; omega)]
      have : ¬ j < (5 : Int).toNat := by show ¬ j < 5; omega
      rw [decide_eq_false this, Bool.false_and]
  exact h.uniq h'
end Go.Cat.Bits
namespace Go.Proofs.Ytddmffdnookdlaa
open Go.RowKit Go.Cat Go.Cat.Bits

theorem awake_any (w : World) : Calls Try.prog 7 #[] w fun e w' => e = .returned (.bool true) ∧ Below w.heap.size w w' := by
  have hb0 : Bytes (w.alloc (.cells #[.int .u8 5] 5)) (some ⟨w.heap.size, 0, none⟩) [5] := sees_new w [.int .u8 5] 5
  go_enter Try.func7, Try.ntmps7
  go_wp2_with fail
  refine (take_any (some ⟨w.heap.size, 0, none⟩) 1 1 [5] 5 2 (w.alloc (.cells #[.int .u8 5] 5)) hb0 rfl (by decide)).mono ?_
  rintro e w1 ⟨out, got, z, A', c', B, d, hto, rfl, hb1, hi1, hB1⟩
  obtain ⟨rfl, rfl, rfl⟩ := take5 hto
  have hB1' : Below w.heap.size w w1 := ((Below.refl _ _).alloc (Nat.le_refl _) _).trans (hB1.mono (by simp))
  obtain ⟨b, off, rfl, _, hc⟩ := hb1.at_ (by decide)
  have e1 : w1.cell? ⟨b, off, none⟩ = some (.int .u8 15) := hc 0 (by decide)
  clear hc hto hB1 hb0
  have hi2 : Ints (w1.alloc (.cells #[.int .i64 1, .int .i64 3] 3)) B [1, 3] := hi1.alloc _
  have hi3 : Ints (w1.alloc (.cells #[.int .i64 1, .int .i64 3] 3)) (some ⟨w1.heap.size, 0, none⟩) [1, 3] := sees_new w1 [.int .i64 1, .int .i64 3] 3
  go_wp2_with fail
  refine (sameI_any B _ 2 2 d 2 [1, 3] [1, 3] _ hi2 hi3 rfl rfl (by decide) (by decide)).mono ?_
  rintro e w' ⟨rfl, k, rfl⟩
  go_wp2
  go_ret
  exact ⟨rfl, below_drewN (hB1'.alloc hB1'.size _) _⟩
end Go.Proofs.Ytddmffdnookdlaa
