/- bytes.Equal of two lists of bytes, by the shelf's contract. Condition: none but lengths. -/
import Derived.Shelf.Bytes.SlEqualAll
import Derived.Lib.LazyBuf
import Derived.Test.YtobndboogafjpaaProg
import Derived.Test.YtobndboogafjpaaLib
namespace Go.Proofs
open Go.Shelf
def Try.lays115_ren : Go.Shelf.Ren := ⟨fun | 115 => 31 | n => n, fun | 4 => 4 | 5 => 5 | 9 => 9 | 37 => 23 | n => n, fun | n => n⟩
theorem Try.lays115 : Go.Proofs.Lays.nb115 Try.prog Try.lays115_ren := {
  mixed := by kernel_rfl
  f115 := Try.func31.trans (congrArg some (by kernel_rfl))
  t4 := Try.underlying4
  a4 := Try.isAgg4
  z4 := Try.sizeOf4
  v4 := Try.zeroValue4
  t5 := Try.underlying5
  a5 := Try.isAgg5
  z5 := Try.sizeOf5
  v5 := Try.zeroValue5
  t9 := Try.underlying9
  a9 := Try.isAgg9
  z9 := Try.sizeOf9
  v9 := Try.zeroValue9
  t37 := Try.underlying23
  a37 := Try.isAgg23
  z37 := Try.sizeOf23
  v37 := Try.zeroValue23 }
end Go.Proofs
namespace Go.Proofs.Ytobndboogafjpaa
open Go.RowKit Go.Cat Go.Shelf

theorem bytesIn {w : World} {A : Option Addr} {bs : List UInt8} (h : Bytes w A bs) : Lib.BytesIn w A bs.length (bs.map fun b => (b.toNat : Int)) := by
  intro h0
  obtain ⟨b, off, hA, _, hc⟩ := h.at_ h0
  refine ⟨b, off, hA, fun i hi => (hc i hi).trans ?_⟩
  simp [List.getD_eq_getElem?_getD, hi]

theorem equal_any (A B : Option Addr) (c d : Nat) (xs ys : List UInt8) (w : World) (ha : Bytes w A xs) (hb : Bytes w B ys) :
    Calls Try.prog 31 #[.slice A xs.length c, .slice B ys.length d] w fun e w' => e = .returned (.bool (decide (xs = ys))) ∧ w' = w := by
  have h := Any.bytes_Equal_all Try.lays115 A B xs.length c ys.length d _ _ w (by simp) (by simp) (bytesIn ha) (bytesIn hb)
  have e : (Lib.bytesOf (xs.map fun b => (b.toNat : Int)) == Lib.bytesOf (ys.map fun b => (b.toNat : Int))) = decide (xs = ys) := by
    have hx : ∀ zs : List UInt8, Lib.bytesOf (zs.map fun b => (b.toNat : Int)) = zs := by
      intro zs
      rw [Lib.bytesOf, List.map_map]
      conv => rhs; rw [← List.map_id zs]
      apply List.map_congr_left
      intro b _
      simp
    rw [hx, hx, Bool.beq_eq_decide_eq]
  rw [e] at h
  exact h
end Go.Proofs.Ytobndboogafjpaa
