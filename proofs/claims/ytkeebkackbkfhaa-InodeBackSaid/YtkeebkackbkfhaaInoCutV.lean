/- What Cut tells, plain. No condition. -/
import Derived.Test.YtkeebkackbkfhaaInoGrow
namespace Go.Cat.Ino
open Go.RowKit Go.Cat
theorem ints_drop {w : World} {A : Option Addr} {b : List Int} (h : Ints w A b) (n : Nat) : Ints w (A.map fun x => x.add n) (b.drop n) := by
  rcases h with h | ⟨k, o, rfl, hc⟩
  · left
    have : b = [] := by simpa using h
    simp [this]
  · refine .inr ⟨k, o + n, by simp [Addr.add], fun j u hu => ?_⟩
    rw [Nat.add_assoc]
    refine hc _ _ ?_
    rw [← hu, List.getElem?_map, List.getElem?_map, List.getElem?_drop]
theorem addr_add_blk (x : Addr) (n : Nat) : (x.add n).block = x.block := by unfold Addr.add; split <;> rfl
theorem need_mono {a b : Int} (h : a ≤ b) : need a ≤ need b := by
  unfold need
  split <;> split <;> omega
theorem need_nonneg (a : Int) : 0 ≤ need a := by unfold need; split <;> omega
/-- What Cut tells. -/
noncomputable def cutV (m s : Int) (xs : List Ext) (size : Int) : InV × List Int × Int :=
  if checkI m s xs ≠ 0 then ((0, 0, []), [], checkI m s xs) else if m = 0 then ((0, 0, []), [], 12) else if size < 0 ∨ s < size then ((0, 0, []), [], 20)
  else ((ofV m size ((blks xs).take (need size).toNat)).1, (blks xs).drop (need size).toNat, (ofV m size ((blks xs).take (need size).toNat)).2)
section
variable {m s : Int} {xs : List Ext} {size : Int}
theorem cutV_err (h : checkI m s xs ≠ 0) : cutV m s xs size = ((0, 0, []), [], checkI m s xs) := by unfold cutV; rw [if_pos h]
theorem cutV_state (h : checkI m s xs = 0) (h2 : m = 0) : cutV m s xs size = ((0, 0, []), [], 12) := by unfold cutV; rw [if_neg (by simpa using h), if_pos h2]
theorem cutV_range (h : checkI m s xs = 0) (h2 : m ≠ 0) (h3 : size < 0 ∨ s < size) : cutV m s xs size = ((0, 0, []), [], 20) := by unfold cutV; rw [if_neg (by simpa using h), if_neg h2, if_pos h3]
theorem cutV_ok (h : checkI m s xs = 0) (h2 : m ≠ 0) (h3 : ¬ (size < 0 ∨ s < size)) : cutV m s xs size = ((ofV m size ((blks xs).take (need size).toNat)).1, (blks xs).drop (need size).toNat, (ofV m size ((blks xs).take (need size).toNat)).2) := by
  unfold cutV; rw [if_neg (by simpa using h), if_neg h2, if_neg h3]
theorem need_fits (h : checkI m s xs = 0) (h3 : ¬ (size < 0 ∨ s < size)) : (need size).toNat ≤ (blks xs).length := by
  have h1 := (check_zero h).need
  have h2 := need_mono (show size ≤ s by omega)
  omega
end
end Go.Cat.Ino
namespace Go.Proofs.Ytkeebkackbkfhaa
open Go.RowKit Go.Shelf Go.Cat Go.Cat.Ino
/-- What is told of an inode, blocks and an error. -/
def ToldC (r : InV × List Int × Int) (w : World) (e : Ending) (w' : World) : Prop :=
  ∃ A c B d, e = .returned (.tuple #[iv r.1.1 r.1.2.1 A r.1.2.2.length c, .slice B r.2.1.length d, .int .i64 r.2.2]) ∧ Sees w' A (erows r.1.2.2) ∧ (∀ a, A = some a → w.heap.size ≤ a.block) ∧ Ints w' B r.2.1 ∧ Below w.heap.size w w'
theorem ToldC.none_ (err : Int) {w w' : World} (h : Below w.heap.size w w') : ToldC ((0, 0, []), [], err) w (.returned (.tuple #[iv 0 0 none 0 0, .slice none 0 0, .int .i64 err])) w' := ⟨none, 0, none, 0, rfl, .inl rfl, fun _ h => (by cases h), .inl rfl, h⟩
theorem ret_ii3 {fn : Func} {p u v : Tmp} (h : fn.results = #[.cell p 26, .tmp u, .tmp v]) {tmps : Array Value} {w : World} {g : Nat} {a b c : Value} {fr : Nat × Nat} (hp : tmps.getD p undef = .pointer (some ⟨g, 0, none⟩)) (hg : w.heap[g]? = some (.cells #[a, b, c] 26 fr)) :
    (results fn tmps).run Try.prog w = .ok (.tuple #[.agg #[a, b, c], tmps.getD u undef, tmps.getD v undef]) w := by
  have hp' : tmps[p]?.getD undef = .pointer (some ⟨g, 0, none⟩) := by simpa using hp
  simp [results, h, hp', asAddr, run_loadVar_row w g _ _ _ _ _ hg Try.underlying26 rfl (by kernel_rfl)]
theorem ret_rii3 {fn : Func} {p u v : Tmp} (h : fn.results = #[.cell p 32, .tmp u, .tmp v]) {tmps : Array Value} {w : World} {g : Nat} {a b c : Value} {fr : Nat × Nat} (hp : tmps.getD p undef = .pointer (some ⟨g, 0, none⟩)) (hg : w.heap[g]? = some (.cells #[a, b, c] 32 fr)) :
    (results fn tmps).run Try.prog w = .ok (.tuple #[.agg #[a, b, c], tmps.getD u undef, tmps.getD v undef]) w := by
  have hp' : tmps[p]?.getD undef = .pointer (some ⟨g, 0, none⟩) := by simpa using hp
  simp [results, h, hp', asAddr, run_loadVar_row w g _ _ _ _ _ hg Try.underlying32 rfl (by kernel_rfl)]
end Go.Proofs.Ytkeebkackbkfhaa
