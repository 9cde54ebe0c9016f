/- slices.Concat of two lists of numbers that were just laid beside each other. Condition: at most 10^9 numbers together. -/
import Derived.Test.YtkeebkackbkfhaaConcatI
import Derived.Test.YtkeebkackbkfhaaInoCollect
namespace Go.Proofs.Ytkeebkackbkfhaa
open Go.RowKit Go.Cat Go.Cat.Ino
theorem concat2_any (A B : Option Addr) (xs ys : List Int) (c d : Nat) (w : World) (ha : Ints w A xs) (hb : Ints w B ys) (hm : xs.length + ys.length ≤ 1000000000) :
    Calls Try.prog 35 #[.slice (some ⟨w.heap.size, 0, none⟩) 2 2] (w.alloc (.cells #[.slice A xs.length c, .slice B ys.length d] 22)) fun e w' => ∃ A' c', e = .returned (.slice A' (xs.length + ys.length) c') ∧ Ints w' A' (xs ++ ys) ∧ Below w.heap.size w w' := by
  have hb1 : Below w.heap.size w (w.alloc (.cells #[.slice A xs.length c, .slice B ys.length d] 22)) := (Below.refl _ _).alloc (Nat.le_refl _) _
  have h := concati_any (some ⟨w.heap.size, 0, none⟩) [(A, xs, c), (B, ys, d)] 2 (w.alloc (.cells #[.slice A xs.length c, .slice B ys.length d] 22)) (sees_new w [.slice A xs.length c, .slice B ys.length d] 22)
    (by
      intro p hp
      simp at hp
      rcases hp with rfl | rfl
      · exact ha.below hb1
      · exact hb.below hb1) (by simpa using hm) (by simp)
  refine h.mono fun e w' ⟨A', c', h1, h2, h3⟩ => ?_
  simp only [List.flatMap_cons, List.flatMap_nil, List.append_nil, List.length_append] at h1 h2
  exact ⟨A', c', h1, Sees.of_own h2, hb1.trans (h3.mono hb1.size)⟩
end Go.Proofs.Ytkeebkackbkfhaa
