/- The contracts of vol.Node, vol.Whole and of the reference's. Condition: lengths within a slice's. -/
import Derived.Test.YtjdpljhhlmcbaaaInoGetP
import Derived.Test.YtjdpljhhlmcbaaaInoGetR
import Derived.Test.YtjdpljhhlmcbaaaInoBackG
import Derived.Laws.CopyOwn
namespace Go.Cat.Ino
open Go.RowKit Go.Cat
/-- What Node tells. -/
noncomputable def nodeV (i : Int) (b : List UInt8) : InV × Int := if i = 1 ∧ b = [] then ((2, 0, []), 0) else getI b
theorem node_root : nodeV 1 [] = ((2, 0, []), 0) := by unfold nodeV; rw [if_pos ⟨rfl, rfl⟩]
theorem node_get {i : Int} {b : List UInt8} (h : ¬ (i = 1 ∧ b = [])) : nodeV i b = getI b := by unfold nodeV; rw [if_neg h]
/-- A block's data, all of it. -/
def wholeTo (b : List UInt8) (k : Nat) : List UInt8 := b.take k ++ List.replicate (k - b.length) 0
theorem wholeTo_length (b : List UInt8) (k : Nat) : (wholeTo b k).length = k := by unfold wholeTo; rw [List.length_append, List.length_take, List.length_replicate]; omega
theorem wholeTo_in {b : List UInt8} {k : Nat} (h : k < b.length) : wholeTo b (k + 1) = wholeTo b k ++ [b[k]] := by
  unfold wholeTo
  rw [show k + 1 - b.length = 0 by omega, show k - b.length = 0 by omega, List.take_succ_eq_append_getElem h]
  simp
theorem wholeTo_out {b : List UInt8} {k : Nat} (h : ¬ k < b.length) : wholeTo b (k + 1) = wholeTo b k ++ [0] := by
  unfold wholeTo
  rw [List.take_of_length_le (by omega), List.take_of_length_le (by omega), show k + 1 - b.length = (k - b.length) + 1 by omega, List.replicate_succ', List.append_assoc]
theorem check_root : checkI 2 0 [] = 0 := MayBe.check ⟨by omega, by omega, by omega, by omega, fun h => by omega, by simp, ⟨fun i hi => absurd hi (Nat.not_lt_zero i), by simp [blks]⟩, rfl⟩
theorem node_in {i : Int} {b : List UInt8} : ∀ e ∈ (nodeV i b).1.2.2, ExK e := by
  by_cases h : i = 1 ∧ b = []
  · obtain ⟨rfl, rfl⟩ := h; rw [node_root]; intro e he; cases he
  · rw [node_get h]; exact gotI_in
theorem node_len {i : Int} {b : List UInt8} : (nodeV i b).1.2.2.length ≤ 8 := by
  by_cases h : i = 1 ∧ b = []
  · obtain ⟨rfl, rfl⟩ := h; rw [node_root]; exact Nat.zero_le _
  · rw [node_get h]; exact gotI_len
theorem node_put {i : Int} {b : List UInt8} (h0 : (nodeV i b).2 = 0) : (putI (nodeV i b).1.1 (nodeV i b).1.2.1 (nodeV i b).1.2.2).2 = 0 := by
  by_cases h : i = 1 ∧ b = []
  · obtain ⟨rfl, rfl⟩ := h
    rw [node_root]
    show (putI 2 0 []).2 = 0
    rw [putI_yes check_root]
  · rw [node_get h] at h0 ⊢
    by_cases hb : b = []
    · subst hb; exact putI_nil
    · rw [putI_back hb h0]
end Go.Cat.Ino
namespace Go.Proofs.Ytjdpljhhlmcbaaa
open Go.RowKit Go.Cat Go.Cat.Ino

set_option maxRecDepth 100000 in
theorem vnode_any (i : Int) (A : Option Addr) (c : Nat) (bs : List UInt8) (w : World) (hb : Bytes w A bs) (hbm : bs.length ≤ 140737488355328) :
    Calls Try.prog 29 #[.int .i64 i, .slice A bs.length c] w (ToldW (nodeV i bs).1 (nodeV i bs).2 w) := by
  by_cases h : i = 1 ∧ bs = []
  · obtain ⟨rfl, rfl⟩ := h
    rw [node_root]
    clear hb hbm
    go_enter Try.func29, Try.ntmps29
    go_wp2_with fail
    refine bodyPost_ret (ret_ii rfl (by rfl) (heap_alloc_new _ _)) rfl ?_
    exact ⟨none, 0, rfl, .inl rfl, (fun a h => by cases h), (Below.refl _ _).alloc (Nat.le_refl _) _⟩
  · rw [node_get h]
    have hb0 : Below w.heap.size w (w.alloc (.cells #[.int .i64 0, .int .i64 0, .slice none 0 0] 59)) := (Below.refl _ _).alloc (Nat.le_refl _) _
    have p1 := iget_any A c bs (w.alloc (.cells #[.int .i64 0, .int .i64 0, .slice none 0 0] 59)) (hb.below hb0) hbm
    obtain ⟨X, hX⟩ : ∃ X, X = getI bs := ⟨_, rfl⟩
    rw [← hX] at p1 ⊢
    obtain ⟨⟨m, s, xs⟩, er⟩ := X
    obtain ⟨n, hn⟩ : ∃ n, n = xs.length := ⟨_, rfl⟩
    obtain ⟨l, hl⟩ : ∃ l, l = bs.length := ⟨_, rfl⟩
    have P1 : Hid (Calls Try.prog 55 #[.slice A l c] (w.alloc (.cells #[.int .i64 0, .int .i64 0, .slice none 0 0] 59)) fun e w' => ∃ A' c', e = .returned (.tuple #[iv m s A' n c', .int .i64 er]) ∧ Sees w' A' (erows xs) ∧ (∀ a, A' = some a → w.heap.size + 1 ≤ a.block) ∧ Below (w.alloc (.cells #[.int .i64 0, .int .i64 0, .slice none 0 0] 59)).heap.size (w.alloc (.cells #[.int .i64 0, .int .i64 0, .slice none 0 0] 59)) w') := by
      rw [hn, hl]
      exact p1.mono fun e w' ⟨A', c', h1, h2, h3, h4⟩ => ⟨A', c', h1, h2, fun a ha => by have := h3 a ha; simpa using this, h4⟩
    have hd : (i == 1) = false ∨ ((i == 1) = true ∧ ((l : Int) == 0) = false) := by
      by_cases h1 : i = 1
      · right
        refine ⟨by simpa using h1, ?_⟩
        have : bs ≠ [] := fun e => h ⟨h1, e⟩
        have := List.length_pos_iff.2 this
        simp; omega
      · left; simpa using h1
    have HN := Lib.hid hn
    have HB0 := Lib.hid hb0
    rw [← hl]
    clear h hb hbm p1 hX hn hl hb0
    go_enter Try.func29, Try.ntmps29
    rcases hd with d1 | ⟨d1, d2⟩
    all_goals
      go_wp2_with fail
      refine (P1.out).mono ?_
      rintro e w1 ⟨A1, c1, rfl, hs1, ha1, hB1⟩
      have hr1 : w1.heap[w.heap.size]? = some (.cells #[.int .i64 0, .int .i64 0, .slice none 0 0] 59 (0, 0)) := (hB1.block _ (by simp)).trans (heap_alloc_new _ _)
      have hB1w : Below w.heap.size w w1 := HB0.out.trans (hB1.mono (by simp))
      have r0 := cell_of_row w1 _ 0 _ _ _ hr1
      have r1 := cell_of_row w1 _ 1 _ _ _ hr1
      have r2 := cell_of_row w1 _ 2 _ _ _ hr1
      have g0 := frozen_of_row w1 _ 0 _ _ hr1
      have g1 := frozen_of_row w1 _ 1 _ _ hr1
      have g2 := frozen_of_row w1 _ 2 _ _ hr1
      simp at r0 r1 r2
      have HR := Lib.hid hr1
      have HS := Lib.hid hs1
      have HA := Lib.hid ha1
      have HB := Lib.hid hB1w
      clear hr1 hs1 ha1 hB1 hB1w
      go_wp2_with fail
      refine bodyPost_ret (ret_ii rfl (by rfl) (set3_block _ _ _ HR.out)) rfl ?_
      exact ⟨A1, c1, by rw [HN.out]; rfl, sees_set3 HS.out (fun a ha e => by have := HA.out a ha; omega) _ _ _, fun a ha => by have := HA.out a ha; omega, below_set3 HB.out (Nat.le_refl _) _ _ _⟩

set_option maxRecDepth 100000 in
theorem rvnode_any (i : Int) (A : Option Addr) (c : Nat) (bs : List UInt8) (w : World) (hb : Bytes w A bs) (hbm : bs.length ≤ c) (hcm : c ≤ maxLen) (hnil : A = none → c = 0) :
    Calls Try.prog 30 #[.int .i64 i, .slice A bs.length c] w (ToldW (nodeV i bs).1 (nodeV i bs).2 w) := by
  by_cases h : i = 1 ∧ bs = []
  · obtain ⟨rfl, rfl⟩ := h
    rw [node_root]
    clear hb hbm hcm hnil
    go_enter Try.func30, Try.ntmps30
    go_wp2_with fail
    refine bodyPost_ret (ret_rii rfl (by rfl) (heap_alloc_new _ _)) rfl ?_
    exact ⟨none, 0, rfl, .inl rfl, (fun a h => by cases h), (Below.refl _ _).alloc (Nat.le_refl _) _⟩
  · rw [node_get h]
    have hb0 : Below w.heap.size w (w.alloc (.cells #[.int .i64 0, .int .i64 0, .slice none 0 0] 64)) := (Below.refl _ _).alloc (Nat.le_refl _) _
    have p1 := riget_any A c bs (w.alloc (.cells #[.int .i64 0, .int .i64 0, .slice none 0 0] 64)) (hb.below hb0) hbm hcm hnil
    obtain ⟨X, hX⟩ : ∃ X, X = getI bs := ⟨_, rfl⟩
    rw [← hX] at p1 ⊢
    obtain ⟨⟨m, s, xs⟩, er⟩ := X
    obtain ⟨n, hn⟩ : ∃ n, n = xs.length := ⟨_, rfl⟩
    obtain ⟨l, hl⟩ : ∃ l, l = bs.length := ⟨_, rfl⟩
    have P1 : Hid (Calls Try.prog 56 #[.slice A l c] (w.alloc (.cells #[.int .i64 0, .int .i64 0, .slice none 0 0] 64)) fun e w' => ∃ A' c', e = .returned (.tuple #[iv m s A' n c', .int .i64 er]) ∧ Sees w' A' (erows xs) ∧ (∀ a, A' = some a → w.heap.size + 1 ≤ a.block) ∧ Below (w.alloc (.cells #[.int .i64 0, .int .i64 0, .slice none 0 0] 64)).heap.size (w.alloc (.cells #[.int .i64 0, .int .i64 0, .slice none 0 0] 64)) w') := by
      rw [hn, hl]
      exact p1.mono fun e w' ⟨A', c', h1, h2, h3, h4⟩ => ⟨A', c', h1, h2, fun a ha => by have := h3 a ha; simpa using this, h4⟩
    have hd : ((l : Int) == 0) = false ∨ (((l : Int) == 0) = true ∧ (i == 1) = false) := by
      by_cases h1 : bs = []
      · right
        refine ⟨by rw [hl, h1]; rfl, ?_⟩
        have : i ≠ 1 := fun e => h ⟨e, h1⟩
        simpa using this
      · left
        have := List.length_pos_iff.2 h1
        simp; omega
    have HN := Lib.hid hn
    have HB0 := Lib.hid hb0
    rw [← hl]
    clear h hb hbm hcm hnil p1 hX hn hl hb0
    go_enter Try.func30, Try.ntmps30
    rcases hd with d1 | ⟨d1, d2⟩
    all_goals
      go_wp2_with fail
      refine (P1.out).mono ?_
      rintro e w1 ⟨A1, c1, rfl, hs1, ha1, hB1⟩
      have hr1 : w1.heap[w.heap.size]? = some (.cells #[.int .i64 0, .int .i64 0, .slice none 0 0] 64 (0, 0)) := (hB1.block _ (by simp)).trans (heap_alloc_new _ _)
      have hB1w : Below w.heap.size w w1 := HB0.out.trans (hB1.mono (by simp))
      have r0 := cell_of_row w1 _ 0 _ _ _ hr1
      have r1 := cell_of_row w1 _ 1 _ _ _ hr1
      have r2 := cell_of_row w1 _ 2 _ _ _ hr1
      have g0 := frozen_of_row w1 _ 0 _ _ hr1
      have g1 := frozen_of_row w1 _ 1 _ _ hr1
      have g2 := frozen_of_row w1 _ 2 _ _ hr1
      simp at r0 r1 r2
      have HR := Lib.hid hr1
      have HS := Lib.hid hs1
      have HA := Lib.hid ha1
      have HB := Lib.hid hB1w
      clear hr1 hs1 ha1 hB1 hB1w
      go_wp2_with fail
      refine bodyPost_ret (ret_rii rfl (by rfl) (set3_block _ _ _ HR.out)) rfl ?_
      exact ⟨A1, c1, by rw [HN.out]; rfl, sees_set3 HS.out (fun a ha e => by have := HA.out a ha; omega) _ _ _, fun a ha => by have := HA.out a ha; omega, below_set3 HB.out (Nat.le_refl _) _ _ _⟩
end Go.Proofs.Ytjdpljhhlmcbaaa
