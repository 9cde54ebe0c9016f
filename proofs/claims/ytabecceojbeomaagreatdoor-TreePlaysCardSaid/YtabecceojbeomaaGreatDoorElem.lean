/- The element types' rows of this seat's table, in the words that the append laws ask. No condition. -/
import Derived.Test.YtabecceojbeomaaGreatDoorProg
import Derived.Test.YtabecceojbeomaaGreatDoorHeap
namespace Go.Proofs.YtabecceojbeomaaGreatDoor
open Go.RowKit Go.Cat

theorem info_u8 : (Tryz.prog.info? 5).map (fun i => (i.zero, i.size, i.bytes)) = some (some (.int .u8 0), 1, 1) := by kernel_rfl
theorem elem_u8 : Elem Tryz.prog 23 5 (.int .u8 0) 1 1 := ⟨Tryz.underlying23, info_u8, rfl, by decide, by decide⟩
theorem one_i64 (l : List Int) : ∀ u ∈ l.map i64, u.oneCell' = true := by intro u hu; simp [i64] at hu; obtain ⟨a, _, rfl⟩ := hu; rfl
theorem one_by8 (l : List UInt8) : ∀ u ∈ l.map by8, u.oneCell' = true := by intro u hu; simp [by8] at hu; obtain ⟨a, _, rfl⟩ := hu; rfl
theorem own_form {w : World} {base size : Nat} {e : TypeId} {v : Value} {n : Nat} {xs : List Value} (h : w.ownsRow base e size v n xs) : ∃ A c, v = .slice A n c ∧ Sees w A xs := by
  obtain ⟨A, c, rfl, _, _⟩ := own_full h
  exact ⟨A, c, rfl, ownN_sees h⟩
end Go.Proofs.YtabecceojbeomaaGreatDoor
