/- The walk of the law InodeChecks: it answers true, whatever comes in. Condition: numbers within their kinds. -/
import Derived.Test.YtkeebkackbkfhaaInoGetP
import Derived.Test.YtkeebkackbkfhaaInoBackG
import Derived.Test.YtkeebkackbkfhaaInoRBytes
import Derived.Test.YtkeebkackbkfhaaInoRSame
import Derived.Test.YtkeebkackbkfhaaInoLike
import Derived.Test.YtkeebkackbkfhaaInoAwake
import Derived.Test.YtkeebkackbkfhaaInoCheckA
import Derived.Test.YtkeebkackbkfhaaSame
import Derived.Test.YtkeebkackbkfhaaSameI
import Derived.Deep.RegionHeld3
namespace Go.Proofs.Ytkeebkackbkfhaa
open Go.RowKit Go.Shelf Go.Cat Go.Cat.Ino

theorem rsame_both (m s : Int) (A : Option Addr) (xs : List Ext) (c : Nat) (m2 s2 : Int) (B : Option Addr) (ys : List Ext) (d : Nat) (w : World) (ha : Sees w A (erows xs)) (hb : Sees w B (erows ys)) (hx : xs.length ≤ 1000000) :
    Calls Try.prog 26 #[iv m s A xs.length c, iv m2 s2 B ys.length d] w fun e w' => e = .returned (.bool (decide (m = m2 ∧ s = s2 ∧ xs = ys))) ∧ Below w.heap.size w w' := by
  by_cases h : m = m2 ∧ s = s2 ∧ xs.length = ys.length
  · obtain ⟨rfl, rfl, h3⟩ := h
    have := rsame_eq m s A B xs.length c d xs ys (decide (xs = ys)) w ha hb rfl h3.symm hx rfl
    rw [← h3]
    simpa using this
  · have hf : decide (m = m2 ∧ s = s2 ∧ xs = ys) = false := by
      rw [decide_eq_false_iff_not]
      rintro ⟨h1, h2, h3⟩
      exact h ⟨h1, h2, by rw [h3]⟩
    rw [hf]
    refine rsame_ne m s A xs.length c m2 s2 B ys.length d w ?_
    by_cases h1 : m = m2
    · by_cases h2 : s = s2
      · exact .inr (.inr fun h3 => h ⟨h1, h2, h3⟩)
      · exact .inr (.inl h2)
    · exact .inl h1

/-- The rows, and the argument's boxes, in a later world. -/
structure ChR (A B : Option Addr) (xs ys : List Ext) (w w' : World) : Prop where
  a : Sees w' A (erows xs)
  b : Sees w' B (erows ys)
  bel : Below w.heap.size w w'
def ChS (H : Nat) (m s : Int) (n : Nat) (A : Option Addr) (c : Nat) (m2 s2 : Int) (l : Nat) (B : Option Addr) (d : Nat) (xs ys : List Ext) (w w' : World) : Prop :=
  w'.cell? ⟨H, 0, none⟩ = some (.int .i64 m) ∧ w'.cell? ⟨H, 1, none⟩ = some (.int .i64 s) ∧ w'.cell? ⟨H, 2, none⟩ = some (.slice A n c) ∧
  w'.cell? ⟨H + 1, 0, none⟩ = some (.int .i64 m2) ∧ w'.cell? ⟨H + 1, 1, none⟩ = some (.int .i64 s2) ∧ w'.cell? ⟨H + 1, 2, none⟩ = some (.slice B l d) ∧ ChR A B xs ys w w'
section
variable {H n c l d : Nat} {m s m2 s2 : Int} {A B : Option Addr} {xs ys : List Ext} {w w1 w2 : World}
theorem ChS.next (h : ChS H m s n A c m2 s2 l B d xs ys w w1) (hb : Below w1.heap.size w1 w2) : ChS H m s n A c m2 s2 l B d xs ys w w2 := by
  obtain ⟨h0, h1, h2, h3, h4, h5, h6⟩ := h
  have g : H < w1.heap.size := World.block_lt_of_cell? _ _ h0
  have g' : H + 1 < w1.heap.size := World.block_lt_of_cell? _ _ h3
  exact ⟨(hb.cell (p := ⟨H, _, none⟩) g).trans h0, (hb.cell (p := ⟨H, _, none⟩) g).trans h1, (hb.cell (p := ⟨H, _, none⟩) g).trans h2, (hb.cell (p := ⟨H + 1, _, none⟩) g').trans h3, (hb.cell (p := ⟨H + 1, _, none⟩) g').trans h4, (hb.cell (p := ⟨H + 1, _, none⟩) g').trans h5, h6.a.below hb, h6.b.below hb, h6.bel.trans (hb.mono h6.bel.size)⟩
theorem ChS.r (h : ChS H m s n A c m2 s2 l B d xs ys w w1) : ChR A B xs ys w w1 := h.2.2.2.2.2.2
theorem ChS.new {T : TypeId} (ha : Sees w A (erows xs)) (hb : Sees w B (erows ys)) : ChS w.heap.size m s n A c m2 s2 l B d xs ys w ((w.alloc (.cells #[.int .i64 m, .int .i64 s, .slice A n c] T)).alloc (.cells #[.int .i64 m2, .int .i64 s2, .slice B l d] T)) := by
  have h1 := heap21i w (.cells #[.int .i64 m, .int .i64 s, .slice A n c] T) (.cells #[.int .i64 m2, .int .i64 s2, .slice B l d] T)
  have h2 := heap2i w (.cells #[.int .i64 m, .int .i64 s, .slice A n c] T) (.cells #[.int .i64 m2, .int .i64 s2, .slice B l d] T)
  have hB := below2i w (.cells #[.int .i64 m, .int .i64 s, .slice A n c] T) (.cells #[.int .i64 m2, .int .i64 s2, .slice B l d] T)
  exact ⟨cell_of_row _ _ 0 _ _ _ h1, cell_of_row _ _ 1 _ _ _ h1, cell_of_row _ _ 2 _ _ _ h1, cell_of_row _ _ 0 _ _ _ h2, cell_of_row _ _ 1 _ _ _ h2, cell_of_row _ _ 2 _ _ _ h2, ha.below hB, hb.below hB, hB⟩
end

theorem checks_far (m s : Int) (A : Option Addr) (n c : Nat) (m2 s2 : Int) (B : Option Addr) (l d : Nat) (w : World) (h : 40 < n ∨ 40 < l) :
    Calls Try.prog 6 #[iv m s A n c, iv m2 s2 B l d] w fun e w' => e = .returned (.bool true) ∧ Below w.heap.size w w' := by
  have hb : Below w.heap.size w ((w.alloc (.cells #[.int .i64 m, .int .i64 s, .slice A n c] 32)).alloc (.cells #[.int .i64 m2, .int .i64 s2, .slice B l d] 32)) := below2i _ _ _
  have HB := Lib.hid hb
  clear hb
  by_cases h1 : 40 < n
  · have d1 : decide ((40 : Int) < (n : Int)) = true := by simp; omega
    clear h h1
    go_enter Try.func6, Try.ntmps6
    go_wp2_with fail
    refine (awake_any _).mono ?_
    rintro e w9 ⟨rfl, hB9⟩
    go_wp2
    go_ret
    exact ⟨rfl, HB.out.trans (hB9.mono HB.out.size)⟩
  · have d1 : decide ((40 : Int) < (n : Int)) = false := by simp; omega
    have d2 : decide ((40 : Int) < (l : Int)) = true := by simp; omega
    clear h h1
    go_enter Try.func6, Try.ntmps6
    go_wp2_with fail
    refine (awake_any _).mono ?_
    rintro e w9 ⟨rfl, hB9⟩
    go_wp2
    go_ret
    exact ⟨rfl, HB.out.trans (hB9.mono HB.out.size)⟩

set_option maxRecDepth 100000 in
set_option maxHeartbeats 8000000 in
theorem checks_near (m s : Int) (A : Option Addr) (xs : List Ext) (c : Nat) (m2 s2 : Int) (B : Option Addr) (ys : List Ext) (d : Nat) (w : World) (hs : Sees w A (erows xs)) (hin : ∀ e ∈ xs, ExK e) (hn : xs.length ≤ 40) (ht : Sees w B (erows ys)) (hl : ys.length ≤ 40) :
    Calls Try.prog 6 #[iv m s A xs.length c, iv m2 s2 B ys.length d] w fun e w' => e = .returned (.bool true) ∧ Below w.heap.size w w' := by
  have p0 := fun W (h : Sees W A (erows xs)) => ours_any m s A xs c W h (by omega)
  have p1 := fun W (h : Sees W B (erows ys)) => ours_any m2 s2 B ys d W h (by omega)
  have p2 := fun C k W (h : Sees W C (erows xs)) => icheck_any m s C xs k W h hin (by omega)
  have p3 := fun C k W (h : Sees W C (erows xs)) => iput_any m s C xs k W h hin (by omega)
  have p4 := fun W (h : Sees W A (erows xs)) => richeck_any m s A xs c W h hin (by omega)
  have p5 := fun C k D j W (h : Sees W C (erows xs)) (h' : Sees W D (erows ys)) => isame_any m s C xs k m2 s2 D ys j W h h' (by omega) (by omega)
  have p6 := fun W (h : Sees W A (erows xs)) (h' : Sees W B (erows ys)) => rsame_both m s A xs c m2 s2 B ys d W h h' (by omega)
  have p7 := fun C k W (h : Sees W C (erows xs)) => blocks_any m s C xs k W h (by omega)
  have p8 := fun W (h : Sees W A (erows xs)) => rblocks_any m s A xs c W h (by omega)
  have hbq := blks_length xs
  obtain ⟨V, hV⟩ : ∃ V, V = checkI m s xs := ⟨_, rfl⟩
  obtain ⟨Y, hY⟩ : ∃ Y, Y = putI m s xs := ⟨_, rfl⟩
  obtain ⟨bb, hbb⟩ : ∃ bb, bb = decide (m = m2 ∧ s = s2 ∧ xs = ys) := ⟨_, rfl⟩
  rw [← hV] at p2 p4
  rw [← hY] at p3
  rw [← hbb] at p6
  have p5' := fun C k D j W (h : Sees W C (erows xs)) (h' : Sees W D (erows ys)) => (p5 C k D j W h h')
  rw [← hbb] at p5'
  have hYno : V ≠ 0 → Y = ([], V) := fun h => by rw [hY, hV]; exact putI_no (by rw [← hV]; exact h)
  have hYok : V = 0 → Y = (encIv m s xs, 0) := fun h => by rw [hY]; exact putI_yes (by rw [← hV]; exact h)
  have hY2 : Y.2 = V := by
    by_cases h : V = 0
    · rw [hYok h, h]
    · rw [hYno h]
  obtain ⟨y, pe⟩ := Y
  replace hY2 : pe = V := hY2
  subst hY2
  obtain ⟨n, hnn⟩ : ∃ n, n = xs.length := ⟨_, rfl⟩
  obtain ⟨l, hll⟩ : ∃ l, l = ys.length := ⟨_, rfl⟩
  obtain ⟨q, hq⟩ : ∃ q, q = y.length := ⟨_, rfl⟩
  obtain ⟨kb, hkb⟩ : ∃ kb, kb = (blks xs).length := ⟨_, rfl⟩
  have P0 : Hid (∀ W, Sees W A (erows xs) → Calls Try.prog 17 #[iv m s A n c] W fun e w' => ∃ A' c', e = .returned (iv m s A' n c') ∧ Sees w' A' (erows xs) ∧ Below W.heap.size W w') := by
    rw [hnn]; exact fun W h => (p0 W h).mono fun e w' h => h
  have P1 : Hid (∀ W, Sees W B (erows ys) → Calls Try.prog 17 #[iv m2 s2 B l d] W fun e w' => ∃ A' c', e = .returned (iv m2 s2 A' l c') ∧ Sees w' A' (erows ys) ∧ Below W.heap.size W w') := by
    rw [hll]; exact fun W h => (p1 W h).mono fun e w' h => h
  have P2 : Hid (∀ C k W, Sees W C (erows xs) → Calls Try.prog 22 #[iv m s C n k] W fun e w' => e = .returned (.int .i64 pe) ∧ Below W.heap.size W w') := by
    rw [hnn]; exact p2
  have P3 : Hid (∀ C k W, Sees W C (erows xs) → Calls Try.prog 23 #[iv m s C n k] W fun e w' => ∃ A' c', e = .returned (.tuple #[.slice A' q c', .int .i64 pe]) ∧ Bytes w' A' y ∧ Below W.heap.size W w') := by
    rw [hnn, hq]; exact fun C k W h => (p3 C k W h).mono fun e w' h => h
  have P4 : Hid (∀ W, Sees W A (erows xs) → Calls Try.prog 24 #[iv m s A n c] W fun e w' => e = .returned (.int .i64 pe) ∧ Below W.heap.size W w') := by
    rw [hnn]; exact p4
  have P5 : Hid (∀ C k D j W, Sees W C (erows xs) → Sees W D (erows ys) → Calls Try.prog 25 #[iv m s C n k, iv m2 s2 D l j] W fun e w' => e = .returned (.bool bb) ∧ Below W.heap.size W w') := by
    rw [hnn, hll, hbb]; exact p5
  have P6 : Hid (∀ W, Sees W A (erows xs) → Sees W B (erows ys) → Calls Try.prog 26 #[iv m s A n c, iv m2 s2 B l d] W fun e w' => e = .returned (.bool bb) ∧ Below W.heap.size W w') := by
    rw [hnn, hll]; exact p6
  have P7 : Hid (∀ C k W, Sees W C (erows xs) → Calls Try.prog 15 #[iv m s C n k] W fun e w' => ∃ A9 c9, e = .returned (.slice A9 kb c9) ∧ Ints w' A9 (blks xs) ∧ Below W.heap.size W w') := by
    rw [hnn, hkb]; exact fun C k W h => (p7 C k W h).mono fun e w' ⟨A9, c9, h1, h2, h3⟩ => ⟨A9, c9, h1, Sees.of_own h2, h3⟩
  have P8 : Hid (∀ W, Sees W A (erows xs) → Calls Try.prog 21 #[iv m s A n c] W fun e w' => ∃ A9 c9, e = .returned (.slice A9 kb c9) ∧ Ints w' A9 (blks xs) ∧ Below W.heap.size W w') := by
    rw [hnn, hkb]; exact fun W h => (p8 W h).mono fun e w' ⟨A9, c9, h1, h2, h3⟩ => ⟨A9, c9, h1, Sees.of_own h2, h3⟩
  have P9 : Hid (∀ B C b b' W, Ints W B (blks xs) → Ints W C (blks xs) → Calls Try.prog 14 #[.slice B kb b, .slice C kb b'] W fun e w' => e = .returned (.bool true) ∧ Below W.heap.size W w') := by
    rw [hkb]; exact fun B C b b' W h1 h2 => (sameI_any B C _ _ b b' _ _ W h1 h2 rfl rfl (by omega) (by omega)).mono fun e w' ⟨h3, q, h4⟩ => ⟨by rw [h3]; simp, by rw [h4]; exact below_drewN (Below.refl _ _) _⟩
  have PL : Hid (∀ C k W, Sees W C (erows xs) → Sees W A (erows xs) → Calls Try.prog 11 #[iv m s C n k, iv m s A n c] W fun e w' => e = .returned (.bool true) ∧ Below W.heap.size W w') := by
    rw [hnn]; exact fun C k W h1 h2 => like_eq m s xs C A k c W h1 h2 (by omega)
  have hget : pe = 0 → q = y.length ∧ q ≤ 1000 ∧ checkI m s xs = 0 ∧ y = encIv m s xs := fun h => by
    have h1 := hYok h
    injection h1 with h1 _
    have h2 : checkI m s xs = 0 := by rw [← hV]; exact h
    refine ⟨hq, ?_, h2, h1⟩
    rw [hq, h1, ← encIT_all, encIT_length _ (Nat.le_refl _)]
    have := (check_zero h2).len
    omega
  have hno : pe ≠ 0 → q = 0 := fun h => by
    have h1 := hYno h
    injection h1 with h1 _
    rw [hq, h1]; rfl
  have d0 : decide ((40 : Int) < (n : Int)) = false := by rw [hnn]; simp; omega
  have d1 : decide ((40 : Int) < (l : Int)) = false := by rw [hll]; simp; omega
  have e1 : (pe != pe) = false := by simp
  have e2 : (bb != bb) = false := by cases bb <;> rfl
  obtain ⟨W0, hW0⟩ : ∃ W0, W0 = (w.alloc (.cells #[.int .i64 m, .int .i64 s, .slice A n c] 32)).alloc (.cells #[.int .i64 m2, .int .i64 s2, .slice B l d] 32) := ⟨_, rfl⟩
  have hc0 : ChS w.heap.size m s n A c m2 s2 l B d xs ys w W0 := by rw [hW0]; exact ChS.new hs ht
  rw [← hnn, ← hll]
  have HW0 := Lib.hid hW0
  have HC0 := Lib.hid hc0
  have HGet := Lib.hid hget
  have HNo := Lib.hid hno
  have HN := Lib.hid hnn
  clear p0 p1 p2 p3 p4 p5 p5' p6 p7 p8 hbq hV hY hbb hYno hYok hnn hll hq hkb hget hno hW0 hc0 hs hin hn ht hl
  go_enter Try.func6, Try.ntmps6
  go_upto_region 1 with (fail)
  rw [← HW0.out]
  obtain ⟨a0, a1, a2, b0, b1, b2, _⟩ := HC0.out
  have P0' := Lib.hid (P0.out W0 HC0.out.r.a)
  go_wp2_with fail
  refine (P0'.out).mono ?_
  rintro e w1 ⟨A1, c1, rfl, hs1, hB1⟩
  have HC1 := Lib.hid (HC0.out.next hB1)
  have P2' := Lib.hid (P2.out A1 c1 w1 hs1)
  clear a0 a1 a2 b0 b1 b2 hs1 hB1 P0' HC0 HW0
  go_wp2_with fail
  refine (P2'.out).mono ?_
  rintro e w2 ⟨rfl, hB2⟩
  have HC2 := Lib.hid (HC1.out.next hB2)
  have P0' := Lib.hid (P0.out w2 HC2.out.r.a)
  clear hB2 P2' HC1
  obtain ⟨a0, a1, a2, b0, b1, b2, _⟩ := HC2.out
  go_wp2_with fail
  refine (P0'.out).mono ?_
  rintro e w3 ⟨A3, c3, rfl, hs3, hB3⟩
  have HC3 := Lib.hid (HC2.out.next hB3)
  have P3' := Lib.hid (P3.out A3 c3 w3 hs3)
  clear a0 a1 a2 b0 b1 b2 hs3 hB3 P0' HC2
  go_wp2_with fail
  refine (P3'.out).mono ?_
  rintro e w4 ⟨A4, c4, rfl, hy4, hB4⟩
  have HC4 := Lib.hid (HC3.out.next hB4)
  have HY4 := Lib.hid hy4
  clear hy4 hB4 P3' HC3
  obtain ⟨a0, a1, a2, b0, b1, b2, _⟩ := HC4.out
  go_wp2_with fail
  go_region_held3 (fun w' => w'.cell? ⟨w.heap.size, 0, none⟩ = some (.int .i64 m) ∧ w'.cell? ⟨w.heap.size, 1, none⟩ = some (.int .i64 s) ∧ w'.cell? ⟨w.heap.size, 2, none⟩ = some (.slice A n c) ∧
      w'.cell? ⟨w.heap.size + 1, 0, none⟩ = some (.int .i64 m2) ∧ w'.cell? ⟨w.heap.size + 1, 1, none⟩ = some (.int .i64 s2) ∧ w'.cell? ⟨w.heap.size + 1, 2, none⟩ = some (.slice B l d) ∧ ChR A B xs ys w w')
    (first | exact K9.out | exact K8.out | exact K7.out | exact K6.out | exact K5.out | exact K4.out | exact K3.out | exact K2.out | exact K1.out | exact HC4.out.next ((Below.refl _ _).drew))
    (first
      | (go_at_call 14; refine (P9'.out).mono ?_; rintro e v9 ⟨rfl, hL9⟩; have K9 := Lib.hid (K8.out.next hL9); have HY9 := Lib.hid (HY8.out.below hL9); clear hL9)
      | (go_at_call 21; refine (P8.out v7 K7.out.r.a).mono ?_; rintro e v8 ⟨E8, d8, rfl, hE8, hL8⟩; have K8 := Lib.hid (K7.out.next hL8); have HY8 := Lib.hid (HY7.out.below hL8); have P9' := Lib.hid (P9.out E7 E8 d7 d8 v8 (HE7.out.below hL8) hE8); clear hE8 hL8)
      | (go_at_call 15; refine (P7'.out).mono ?_; rintro e v7 ⟨E7, d7, rfl, hE7, hL7⟩; have K7 := Lib.hid (K6.out.next hL7); have HY7 := Lib.hid (HY6.out.below hL7); have HE7 := Lib.hid hE7; clear hE7 hL7)
      | (go_at_call 17; refine (P0.out v5 K5.out.r.a).mono ?_; rintro e v6 ⟨E6, d6, rfl, hE6, hL6⟩; have K6 := Lib.hid (K5.out.next hL6); have HY6 := Lib.hid (HY5.out.below hL6); have P7' := Lib.hid (P7.out E6 d6 v6 hE6); clear hE6 hL6)
      | (go_at_call 26; refine (P6.out v4 K4.out.r.a K4.out.r.b).mono ?_; rintro e v5 ⟨rfl, hL5⟩; have K5 := Lib.hid (K4.out.next hL5); have HY5 := Lib.hid (HY4'.out.below hL5); clear hL5)
      | (go_at_call 25; refine (P5'.out).mono ?_; rintro e v4 ⟨rfl, hL4⟩; have K4 := Lib.hid (K3.out.next hL4); have HY4' := Lib.hid (HY3.out.below hL4); clear hL4)
      | (go_at_call 17; refine (P1.out v2 K2.out.r.b).mono ?_; rintro e v3 ⟨E3, d3, rfl, hE3, hL3⟩; have K3 := Lib.hid (K2.out.next hL3); have HY3 := Lib.hid (HY2.out.below hL3); have P5' := Lib.hid (P5.out E2 d2 E3 d3 v3 (HE2.out.below hL3) hE3); clear hE3 hL3)
      | (go_at_call 17; refine (P0.out v1 K1.out.r.a).mono ?_; rintro e v2 ⟨E2, d2, rfl, hE2, hL2⟩; have K2 := Lib.hid (K1.out.next hL2); have HY2 := Lib.hid (HY1.out.below hL2); have HE2 := Lib.hid hE2; clear hE2 hL2)
      | (go_at_call 24; refine (P4.out _ (Sees.drew HC4.out.r.a)).mono ?_; rintro e v1 ⟨rfl, hL1⟩; have K1 := Lib.hid (HC4.out.next ((Below.refl _ _).drew.trans hL1)); have HY1 : Hid (Bytes v1 A4 y) := (HY4.out.below (below_undrew hL1)); clear hL1)
      | fail)
  all_goals
    clear P0 P1 P2 P3 P4 P5 P6 P7 P8 P9 a0 a1 a2 b0 b1 b2
    by_cases h0 : pe = 0
    · obtain ⟨g1, g2, g3, g4⟩ := HGet.out h0
      have t0 : (pe != 0) = false := by simpa using h0
      subst h0
      have p10 := iget_any A4 c4 y v9 HY9.out (by omega)
      rw [g4, getI_put g3, ← g4, ← g1] at p10
      have P10 : Hid (Calls Try.prog 27 #[.slice A4 q c4] v9 fun e w' => ∃ A' c', e = .returned (.tuple #[iv m s A' n c', .int .i64 0]) ∧ Sees w' A' (erows xs) ∧ Below v9.heap.size v9 w') := by
        rw [HN.out]; exact p10.mono fun e w' h => h.told
      have P11 : Hid (∀ W, Sees W A (erows xs) → Calls Try.prog 29 #[iv m s A n c] W fun e w' => ∃ A' c', e = .returned (.slice A' q c') ∧ Bytes w' A' y ∧ Below W.heap.size W w') := by
        rw [HN.out, g1, g4]; exact fun W h => (rbytes_ok m s A xs c W h g3).mono fun e w' h => h
      have P12 : Hid (∀ D k W, Bytes W A4 y → Bytes W D y → Calls Try.prog 28 #[.slice A4 q c4, .slice D q k] W fun e w' => e = .returned (.bool true) ∧ Below W.heap.size W w') := by
        exact fun D k W h1 h2 => (same8_any A4 D q q c4 k y y W h1 h2 g1 g1 (by omega) (by omega)).mono fun e w' ⟨h3, q, h4⟩ => ⟨by rw [h3]; simp, by rw [h4]; exact below_drewN (Below.refl _ _) _⟩
      clear g1 g2 g3 g4 p10
      go_wp2_with fail
      refine (P10.out).mono ?_
      rintro e u1 ⟨A11, c11, rfl, hs11, hB11⟩
      obtain ⟨U2, hU2⟩ : ∃ U2, U2 = u1.alloc (.cells #[.int .i64 m, .int .i64 s, .slice A11 n c11] 26) := ⟨_, rfl⟩
      have hz2 : IbS u1.heap.size m s A11 xs c11 u1 U2 := by rw [hU2, HN.out]; exact IbS.new hs11
      have hbz : Below u1.heap.size u1 U2 := hz2.bel
      have HC12 := Lib.hid ((K9.out.next hB11).next hbz)
      have HY12 := Lib.hid ((HY9.out.below hB11).below hbz)
      have HZ12 := Lib.hid hz2
      have HU2 := Lib.hid hU2
      clear hs11 hB11 hU2 hz2 hbz P10
      go_upto_region 10 with (fail)
      rw [← HU2.out]
      clear HU2
      obtain ⟨a0, a1, a2, b0, b1, b2, _⟩ := HC12.out
      have P11' := Lib.hid (P11.out U2 HC12.out.r.a)
      go_wp2_with fail
      refine (P11'.out).mono ?_
      rintro e u3 ⟨A13, c13, rfl, hy13, hB13⟩
      have HC13 := Lib.hid (HC12.out.next hB13)
      have HZ13 := Lib.hid (HZ12.out.below hB13)
      have P12' := Lib.hid (P12.out A13 c13 u3 (HY12.out.below hB13) hy13)
      clear a0 a1 a2 b0 b1 b2 hy13 hB13 P11' P11 P12 HC12 HZ12
      go_wp2_with fail
      refine (P12'.out).mono ?_
      rintro e u4 ⟨rfl, hB14⟩
      have HC14 := Lib.hid (HC13.out.next hB14)
      have HZ14 := Lib.hid (HZ13.out.below hB14)
      clear hB14 P12' HC13 HZ13
      obtain ⟨a0, a1, a2, b0, b1, b2, _⟩ := HC14.out
      obtain ⟨z0, z1, z2, hz, _⟩ := HZ14.out
      rw [← HN.out] at z2
      have PL' := Lib.hid (PL.out A11 c11 u4 hz HC14.out.r.a)
      clear hz PL
      go_wp2_with fail
      refine (PL'.out).mono ?_
      rintro e u5 ⟨rfl, hB15⟩
      have HF15 := Lib.hid ((HC14.out.next hB15).r.bel)
      clear hB15
      go_wp2_with fail
      refine (awake_any u5).mono ?_
      rintro e u6 ⟨rfl, hB16⟩
      go_wp2
      go_ret
      exact ⟨rfl, HF15.out.trans (hB16.mono HF15.out.size)⟩
    · have t0 : (pe != 0) = true := by simpa using h0
      have hq0 := HNo.out h0
      have t1 : ((q : Int) == 0) = true := by simpa using hq0
      have HF := Lib.hid K9.out.r.bel
      clear h0 hq0
      go_wp2_with fail
      refine (awake_any v9).mono ?_
      rintro e u6 ⟨rfl, hB16⟩
      go_wp2
      go_ret
      exact ⟨rfl, HF.out.trans (hB16.mono HF.out.size)⟩

theorem checks_walk (m s : Int) (A : Option Addr) (xs : List Ext) (c : Nat) (m2 s2 : Int) (B : Option Addr) (ys : List Ext) (d : Nat) (w : World) (hs : Sees w A (erows xs)) (hin : ∀ e ∈ xs, ExK e) (ht : Sees w B (erows ys)) :
    Calls Try.prog 6 #[iv m s A xs.length c, iv m2 s2 B ys.length d] w fun e w' => e = .returned (.bool true) ∧ Below w.heap.size w w' := by
  by_cases h : 40 < xs.length ∨ 40 < ys.length
  · exact checks_far m s A xs.length c m2 s2 B ys.length d w h
  · exact checks_near m s A xs c m2 s2 B ys d w hs hin (by omega) ht (by omega)
end Go.Proofs.Ytkeebkackbkfhaa
