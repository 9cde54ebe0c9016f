/- The contract of bytes.Clone: a copy in new memory. Condition: less than 2^47 bytes. -/
import Derived.Test.YtabecceojbeomaaGreatDoorElem
namespace Go.Proofs.YtabecceojbeomaaGreatDoor
open Go.RowKit Go.Cat

theorem nil_u8 : ∀ (w : World) (a : Option Addr) (n c n' c' : Nat), (binOp .eql 23 (.slice a n c) (.slice none n' c')).run Tryz.prog w = .ok (.bool a.isNone) w := fun w a n c n' c' => Lib.run_eql_slice_nil w _ _ a n c n' c' Tryz.underlying23

theorem clone_any (A : Option Addr) (n c : Nat) (bs : List UInt8) (w : World) (hb : Bytes w A bs) (hn : n = bs.length) (hm : bs.length ≤ 140737488355328) :
    Calls Tryz.prog 29 #[.slice A n c] w fun e w' => ∃ A' c', e = .returned (.slice A' bs.length c') ∧ w'.ownsRow w.heap.size 5 1 (.slice A' bs.length c') bs.length (bs.map by8) ∧ Below w.heap.size w w' := by
  cases A with
  | none =>
    have h0 : bs = [] := by
      rcases hb with h | ⟨b, off, hA, _⟩
      · simpa using h
      · cases hA
    subst h0
    obtain rfl : n = 0 := by simpa using hn
    clear hm hn hb
    have hnil := nil_u8
    go_enter Tryz.func29, Tryz.ntmps29
    go_wp2
    go_ret
    exact ⟨none, 0, rfl, World.ownsRow_nil _ _ _ _, Below.refl _ _⟩
  | some ad =>
    subst hn
    have hnil := nil_u8
    have hrow := World.ownsRow_lit (base := w.heap.size) (e := 5) (size := 1) w #[] 0 (Nat.le_refl _) (by unfold maxLen; omega) rfl
    go_enter Tryz.func29, Tryz.ntmps29
    go_wp2_with (at_builtin; refine wpList_app elem_u8 rfl _ _ rfl w.heap.size _ 0 [] rfl hrow (some ad) bs.length c (bs.map by8) rfl (hb.alloc _) (by simp) (one_by8 _) (by omega) (by simp) ?_)
    intro v2 w2 hown2 hg2 _
    have hB2 : Below w.heap.size w w2 := ((Below.refl _ _).alloc (Nat.le_refl _) _).own hrow hg2 (by simp) (Nat.le_refl _)
    replace hown2 : w2.ownsRow w.heap.size 5 1 v2 bs.length (bs.map by8) := by simpa using hown2
    obtain ⟨V2, C2, rfl, _⟩ := own_form hown2
    clear hg2 hrow
    go_wp2
    go_ret
    exact ⟨V2, C2, rfl, hown2, hB2⟩
end Go.Proofs.YtabecceojbeomaaGreatDoor
