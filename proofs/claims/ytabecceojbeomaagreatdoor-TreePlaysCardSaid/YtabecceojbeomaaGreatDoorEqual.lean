/- bytes.Equal of two lists of bytes, by the shelf's contract. Condition: none but lengths. -/
import Derived.Shelf.Bytes.SlEqualAll
import Derived.Lib.LazyBuf
import Derived.Test.YtabecceojbeomaaGreatDoorProg
import Derived.Test.YtabecceojbeomaaGreatDoorLib
namespace Go.Proofs
open Go.Shelf
def Tryz.lays115_ren : Go.Shelf.Ren := ⟨fun | 115 => 45 | n => n, fun | 4 => 4 | 5 => 5 | 9 => 9 | 37 => 23 | n => n, fun | n => n⟩
theorem Tryz.lays115 : Go.Proofs.Lays.nb115 Tryz.prog Tryz.lays115_ren := {
  mixed := by kernel_rfl
  f115 := Tryz.func45.trans (congrArg some (by kernel_rfl))
  t4 := Tryz.underlying4
  a4 := Tryz.isAgg4
  z4 := Tryz.sizeOf4
  v4 := Tryz.zeroValue4
  t5 := Tryz.underlying5
  a5 := Tryz.isAgg5
  z5 := Tryz.sizeOf5
  v5 := Tryz.zeroValue5
  t9 := Tryz.underlying9
  a9 := Tryz.isAgg9
  z9 := Tryz.sizeOf9
  v9 := Tryz.zeroValue9
  t37 := Tryz.underlying23
  a37 := Tryz.isAgg23
  z37 := Tryz.sizeOf23
  v37 := Tryz.zeroValue23 }
end Go.Proofs
namespace Go.Proofs.YtabecceojbeomaaGreatDoor
open Go.RowKit Go.Cat Go.Shelf

theorem bytesIn {w : World} {A : Option Addr} {bs : List UInt8} (h : Bytes w A bs) : Lib.BytesIn w A bs.length (bs.map fun b => (b.toNat : Int)) := by
  intro h0
  obtain ⟨b, off, hA, _, hc⟩ := h.at_ h0
  refine ⟨b, off, hA, fun i hi => (hc i hi).trans ?_⟩
  simp [List.getD_eq_getElem?_getD, hi]

theorem equal_any (A B : Option Addr) (c d : Nat) (xs ys : List UInt8) (w : World) (ha : Bytes w A xs) (hb : Bytes w B ys) :
    Calls Tryz.prog 45 #[.slice A xs.length c, .slice B ys.length d] w fun e w' => e = .returned (.bool (decide (xs = ys))) ∧ w' = w := by
  have h := Any.bytes_Equal_all Tryz.lays115 A B xs.length c ys.length d _ _ w (by simp) (by simp) (bytesIn ha) (bytesIn hb)
  have e : (Lib.bytesOf (xs.map fun b => (b.toNat : Int)) == Lib.bytesOf (ys.map fun b => (b.toNat : Int))) = decide (xs = ys) := by
    have hx : ∀ zs : List UInt8, Lib.bytesOf (zs.map fun b => (b.toNat : Int)) = zs := by
      intro zs
      rw [Lib.bytesOf, List.map_map]
      conv => rhs; rw [← List.map_id zs]
      apply List.map_congr_left
      intro b _
      simp
    rw [hx, hx, Bool.beq_eq_decide_eq]
  rw [e] at h
  exact h
end Go.Proofs.YtabecceojbeomaaGreatDoor
