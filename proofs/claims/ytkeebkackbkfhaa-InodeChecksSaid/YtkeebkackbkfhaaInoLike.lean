/- The contract of the law's like, at inodes that are the same. Condition: at most 1000000 extents. -/
import Derived.Test.YtkeebkackbkfhaaInoOurs
import Derived.Test.YtkeebkackbkfhaaInoSame
import Derived.Deep.RegionHeld3
namespace Go.Proofs.Ytkeebkackbkfhaa
open Go.RowKit Go.Shelf Go.Cat Go.Cat.Ino

/-- Both boxes, in a later world. -/
def LikS (H : Nat) (m s : Int) (xs : List Ext) (n : Nat) (A B : Option Addr) (c d : Nat) (w w' : World) : Prop :=
  w'.cell? ⟨H, 0, none⟩ = some (.int .i64 m) ∧ w'.cell? ⟨H, 1, none⟩ = some (.int .i64 s) ∧ w'.cell? ⟨H, 2, none⟩ = some (.slice A n c) ∧
  w'.cell? ⟨H + 1, 0, none⟩ = some (.int .i64 m) ∧ w'.cell? ⟨H + 1, 1, none⟩ = some (.int .i64 s) ∧ w'.cell? ⟨H + 1, 2, none⟩ = some (.slice B n d) ∧
  Sees w' A (erows xs) ∧ Sees w' B (erows xs) ∧ Below H w w'
section
variable {H : Nat} {m s : Int} {xs : List Ext} {n : Nat} {A B : Option Addr} {c d : Nat} {w w1 w2 : World}
theorem LikS.next (h : LikS H m s xs n A B c d w w1) (hb : Below w1.heap.size w1 w2) : LikS H m s xs n A B c d w w2 := by
  obtain ⟨h0, h1, h2, h3, h4, h5, h6, h7, h8⟩ := h
  have g : H + 1 < w1.heap.size := World.block_lt_of_cell? _ _ h3
  have g0 : H < w1.heap.size := by omega
  exact ⟨(hb.cell (p := ⟨H, _, none⟩) g0).trans h0, (hb.cell (p := ⟨H, _, none⟩) g0).trans h1, (hb.cell (p := ⟨H, _, none⟩) g0).trans h2, (hb.cell (p := ⟨H + 1, _, none⟩) g).trans h3, (hb.cell (p := ⟨H + 1, _, none⟩) g).trans h4, (hb.cell (p := ⟨H + 1, _, none⟩) g).trans h5, h6.below hb, h7.below hb, h8.trans (hb.mono (by omega))⟩
theorem LikS.a (h : LikS H m s xs n A B c d w w1) : Sees w1 A (erows xs) := h.2.2.2.2.2.2.1
theorem LikS.b (h : LikS H m s xs n A B c d w w1) : Sees w1 B (erows xs) := h.2.2.2.2.2.2.2.1
theorem LikS.bel (h : LikS H m s xs n A B c d w w1) : Below H w w1 := h.2.2.2.2.2.2.2.2
theorem LikS.new {t u : TypeId} (ha : Sees w A (erows xs)) (hb : Sees w B (erows xs)) : LikS w.heap.size m s xs n A B c d w ((w.alloc (.cells #[.int .i64 m, .int .i64 s, .slice A n c] t)).alloc (.cells #[.int .i64 m, .int .i64 s, .slice B n d] u)) := by
  have hB := below2i w (.cells #[.int .i64 m, .int .i64 s, .slice A n c] t) (.cells #[.int .i64 m, .int .i64 s, .slice B n d] u)
  have h1 := heap21i w (.cells #[.int .i64 m, .int .i64 s, .slice A n c] t) (.cells #[.int .i64 m, .int .i64 s, .slice B n d] u)
  have h2 := heap2i w (.cells #[.int .i64 m, .int .i64 s, .slice A n c] t) (.cells #[.int .i64 m, .int .i64 s, .slice B n d] u)
  exact ⟨cell_of_row _ _ 0 _ _ _ h1, cell_of_row _ _ 1 _ _ _ h1, cell_of_row _ _ 2 _ _ _ h1, cell_of_row _ _ 0 _ _ _ h2, cell_of_row _ _ 1 _ _ _ h2, cell_of_row _ _ 2 _ _ _ h2, ha.below hB, hb.below hB, hB⟩
end

set_option maxRecDepth 100000 in
set_option maxHeartbeats 2000000 in
theorem like_eq (m s : Int) (xs : List Ext) (A B : Option Addr) (c d : Nat) (w : World) (ha : Sees w A (erows xs)) (hb : Sees w B (erows xs)) (hn : xs.length ≤ 1000000) :
    Calls Try.prog 11 #[iv m s A xs.length c, iv m s B xs.length d] w fun e w' => e = .returned (.bool true) ∧ Below w.heap.size w w' := by
  have p1 := fun W (h : Sees W B (erows xs)) => ours_any m s B xs d W h hn
  have p2 := fun C k W (h : Sees W A (erows xs)) (h' : Sees W C (erows xs)) => isame_any m s A xs c m s C xs k W h h' hn hn
  simp only [and_self, decide_true, eq_self] at p2
  obtain ⟨n, hnn⟩ : ∃ n, n = xs.length := ⟨_, rfl⟩
  rw [← hnn] at p2 ⊢
  have p1' := fun W (h : Sees W B (erows xs)) => (p1 W h).mono (R' := fun e w' => ∃ C k, e = .returned (iv m s C n k) ∧ Sees w' C (erows xs) ∧ Below W.heap.size W w') fun e w' ⟨C, k, h1, h2, h3⟩ => ⟨C, k, by rw [h1, hnn], h2, h3⟩
  rw [← hnn] at p1'
  have P1 := Lib.hid p1'
  have P2 := Lib.hid p2
  have HS := Lib.hid (LikS.new (m := m) (s := s) (n := n) (c := c) (d := d) (t := 26) (u := 32) ha hb)
  have e1 : (m == m) = true := by simp
  have e2 : ((n : Int) == (n : Int)) = true := by simp
  clear p1 p1' p2 hn hnn ha hb
  go_enter Try.func11, Try.ntmps11
  go_wp2_with fail
  go_region_held3 (fun w' => w'.cell? ⟨w.heap.size, 0, none⟩ = some (.int .i64 m) ∧ w'.cell? ⟨w.heap.size, 1, none⟩ = some (.int .i64 s) ∧ w'.cell? ⟨w.heap.size, 2, none⟩ = some (.slice A n c) ∧
      w'.cell? ⟨w.heap.size + 1, 0, none⟩ = some (.int .i64 m) ∧ w'.cell? ⟨w.heap.size + 1, 1, none⟩ = some (.int .i64 s) ∧ w'.cell? ⟨w.heap.size + 1, 2, none⟩ = some (.slice B n d) ∧
      Sees w' A (erows xs) ∧ Sees w' B (erows xs) ∧ Below w.heap.size w w')
    (first | exact HS.out.next ((Below.refl _ _).drew) | exact LikS.next (by assumption) hL1 | exact LikS.next (by assumption) hL2)
    (first
      | (go_at_call 17; refine (P1.out _ (LikS.b (by assumption))).mono ?_; rintro e wO ⟨C, kO, rfl, hsO, hL1⟩)
      | (go_at_call 25; refine (P2.out C kO _ (LikS.a (by assumption)) hsO).mono ?_; rintro e wS ⟨rfl, hL2⟩))
  all_goals
    rename_i FS
    have hfin := LikS.bel FS
    clear FS
    go_wp2_with fail
    go_ret
    exact ⟨rfl, hfin⟩
end Go.Proofs.Ytkeebkackbkfhaa
