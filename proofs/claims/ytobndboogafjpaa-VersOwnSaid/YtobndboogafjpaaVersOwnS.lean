/- What the walks of the law VersOwn share: the cells of x and y in a later world. -/
import Derived.Test.YtobndboogafjpaaVersAwake
import Derived.Test.YtobndboogafjpaaVersList
import Derived.Test.YtobndboogafjpaaVersSpoil
import Derived.Test.YtobndboogafjpaaFrameV
import Derived.Deep.RegionHeld3
namespace Go.Proofs.Ytobndboogafjpaa
open Go.RowKit Go.Cat Go.Cat.Vers

/-- The cells of x and y, in a later world. -/
def OwnS (H : Nat) (x y : Ver) (A B : Option Addr) (c d : Nat) (w w' : World) : Prop :=
  w'.cell? ⟨H, 0, none⟩ = some (.int .u64 x.ver) ∧ w'.cell? ⟨H, 1, none⟩ = some (.int .u64 x.seq) ∧ w'.cell? ⟨H, 2, none⟩ = some (.slice A x.data.length c) ∧
    w'.cell? ⟨H + 1, 0, none⟩ = some (.int .u64 y.ver) ∧ w'.cell? ⟨H + 1, 1, none⟩ = some (.int .u64 y.seq) ∧ w'.cell? ⟨H + 1, 2, none⟩ = some (.slice B y.data.length d) ∧ Below H w w'
theorem OwnS.next {H : Nat} {x y : Ver} {A B : Option Addr} {c d : Nat} {w w1 w2 : World} (h : OwnS H x y A B c d w w1) (hB : Below w1.heap.size w1 w2) : OwnS H x y A B c d w w2 := by
  obtain ⟨a1, a2, a3, a4, a5, a6, a9⟩ := h
  have g : H < w1.heap.size := World.block_lt_of_cell? _ _ a1
  have g' : H + 1 < w1.heap.size := World.block_lt_of_cell? _ _ a6
  exact ⟨(hB.cell g).trans a1, (hB.cell g).trans a2, (hB.cell g).trans a3, (hB.cell g').trans a4, (hB.cell g').trans a5, (hB.cell g').trans a6, a9.trans (hB.mono (by omega))⟩
theorem OwnS.nextB {H B0 : Nat} {x y : Ver} {A B : Option Addr} {c d : Nat} {w w1 w2 : World} (h : OwnS H x y A B c d w w1) (hB : Below B0 w1 w2) (hlt : H + 1 < B0) : OwnS H x y A B c d w w2 := by
  obtain ⟨a1, a2, a3, a4, a5, a6, a9⟩ := h
  have g : H < B0 := by omega
  exact ⟨(hB.cell g).trans a1, (hB.cell g).trans a2, (hB.cell g).trans a3, (hB.cell hlt).trans a4, (hB.cell hlt).trans a5, (hB.cell hlt).trans a6, a9.trans (hB.mono (by omega))⟩
theorem OwnS.bel {H : Nat} {x y : Ver} {A B : Option Addr} {c d : Nat} {w w1 : World} (h : OwnS H x y A B c d w w1) : Below H w w1 := h.2.2.2.2.2.2

end Go.Proofs.Ytobndboogafjpaa
