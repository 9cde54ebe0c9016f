/- What Of tells, with extents of its own; rows behind stores into a box. -/
import Derived.Test.YtjdpljhhlmcbaaaInoCheckA
namespace Go.Cat.Ino
open Go.RowKit Go.Cat
theorem sees_touch {K : Nat → Prop} {w w' : World} {A : Option Addr} {xs : List Value} (h : Sees w A xs) (ht : Tch K w w') (hne : ∀ a, A = some a → ¬ K a.block) : Sees w' A xs := by
  rcases h with h | ⟨b, off, hA, hc⟩
  · exact .inl h
  · refine .inr ⟨b, off, hA, fun j u hu => ?_⟩
    have h1 := hc j u hu
    have hlt : b < w.heap.size := World.block_lt_of_cell? _ _ h1
    have hk : ¬ K b := hne _ hA
    have hb := ht.block b hlt hk
    rw [← h1]
    unfold World.cell? 
    simp only [hb]
theorem own_addr {w : World} {base n c size : Nat} {e : TypeId} {A : Option Addr} {xs : List Value} (h : w.ownsRow base e size (.slice A n c) n xs) : ∀ a, A = some a → base ≤ a.block := by
  intro a ha
  subst ha
  rcases h.2 with ⟨h0, _⟩ | ⟨g', cap, cur, h0, hb', _⟩
  · cases h0
  · injection h0 with h1
    injection h1 with h1
    rw [h1]
    exact hb'
theorem sees_set3 {w : World} {g : Nat} {A : Option Addr} {xs : List Value} (h : Sees w A xs) (hne : ∀ a, A = some a → a.block ≠ g) (x y z : Value) : Sees (((w.setCell ⟨g, 0, none⟩ x).setCell ⟨g, 1, none⟩ y).setCell ⟨g, 2, none⟩ z) A xs :=
  sees_touch h (((Tch.set w g 0 x).trans (Tch.set _ g 1 y)).trans (Tch.set _ g 2 z)) hne
end Go.Cat.Ino
namespace Go.Proofs.Ytjdpljhhlmcbaaa
open Go.RowKit Go.Shelf Go.Cat Go.Cat.Ino
/-- What is told of an inode and an error: the inode's extents are new. -/
def ToldW (x : InV) (err : Int) (w : World) (e : Ending) (w' : World) : Prop :=
  ∃ A c, e = .returned (.tuple #[iv x.1 x.2.1 A x.2.2.length c, .int .i64 err]) ∧ Sees w' A (erows x.2.2) ∧ (∀ a, A = some a → w.heap.size ≤ a.block) ∧ Below w.heap.size w w'
theorem ToldW.none_ (err : Int) {w w' : World} (h : Below w.heap.size w w') : ToldW (0, 0, []) err w (.returned (.tuple #[iv 0 0 none 0 0, .int .i64 err])) w' := ⟨none, 0, rfl, .inl rfl, fun _ h => (by cases h), h⟩
theorem ToldW.told {x : InV} {err : Int} {w : World} {e : Ending} {w' : World} (h : ToldW x err w e w') : ToldI x err w e w' := by
  obtain ⟨A, c, h1, h2, _, h4⟩ := h
  exact ⟨A, c, h1, h2, h4⟩
end Go.Proofs.Ytjdpljhhlmcbaaa
