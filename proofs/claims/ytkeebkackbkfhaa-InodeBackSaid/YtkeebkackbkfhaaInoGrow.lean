/- The contract of inode.Grow. Condition: at most 1000000 extents and blocks, each an int. -/
import Derived.Test.YtkeebkackbkfhaaInoOf
import Derived.Test.YtkeebkackbkfhaaInoConcat
import Derived.Deep.RegionWith
import Derived.Deep.DeepCutAuto
namespace Go.Cat.Ino
open Go.RowKit Go.Cat
/-- What Grow tells. -/
noncomputable def growV (mode s0 : Int) (xs : List Ext) (size : Int) (zs : List Int) : InV × Int :=
  if checkI mode s0 xs ≠ 0 then ((0, 0, []), checkI mode s0 xs) else if mode = 0 ∨ size < s0 then ((0, 0, []), 12) else ofV mode size (blks xs ++ zs)
theorem growV_err {mode s0 : Int} {xs : List Ext} {size : Int} {zs : List Int} (h : checkI mode s0 xs ≠ 0) : growV mode s0 xs size zs = ((0, 0, []), checkI mode s0 xs) := by unfold growV; rw [if_pos h]
theorem growV_state {mode s0 : Int} {xs : List Ext} {size : Int} {zs : List Int} (h : checkI mode s0 xs = 0) (h2 : mode = 0 ∨ size < s0) : growV mode s0 xs size zs = ((0, 0, []), 12) := by unfold growV; rw [if_neg (by simpa using h), if_pos h2]
theorem growV_ok {mode s0 : Int} {xs : List Ext} {size : Int} {zs : List Int} (h : checkI mode s0 xs = 0) (h2 : ¬ (mode = 0 ∨ size < s0)) : growV mode s0 xs size zs = ofV mode size (blks xs ++ zs) := by unfold growV; rw [if_neg (by simpa using h), if_neg h2]
/-- Two boxes: an argument and an empty result. -/
structure TwoI (w : World) (T : TypeId) (m s : Int) (A : Option Addr) (n c : Nat) (wr : World) : Prop where
  xx : wr.heap[w.heap.size]? = some (.cells #[.int .i64 m, .int .i64 s, .slice A n c] T (0, 0))
  rr : wr.heap[w.heap.size + 1]? = some (.cells #[.int .i64 0, .int .i64 0, .slice none 0 0] T (0, 0))
  bel : Below w.heap.size w wr
section
variable {w wr w1 : World} {T : TypeId} {m s : Int} {A : Option Addr} {n c : Nat}
theorem TwoI.new (w : World) (T : TypeId) (m s : Int) (A : Option Addr) (n c : Nat) : TwoI w T m s A n c ((w.alloc (.cells #[.int .i64 m, .int .i64 s, .slice A n c] T)).alloc (.cells #[.int .i64 0, .int .i64 0, .slice none 0 0] T)) := ⟨heap21i _ _ _, heap2i _ _ _, below2i _ _ _⟩
theorem TwoI.lt (h : TwoI w T m s A n c wr) : w.heap.size + 1 < wr.heap.size := (Array.getElem?_eq_some_iff.1 h.rr).1
theorem TwoI.below (h : TwoI w T m s A n c wr) (hb : Below wr.heap.size wr w1) : TwoI w T m s A n c w1 :=
  ⟨(hb.block _ (by have := h.lt; omega)).trans h.xx, (hb.block _ h.lt).trans h.rr, h.bel.trans (hb.mono h.bel.size)⟩
theorem TwoI.cells (h : TwoI w T m s A n c wr) : wr.cell? ⟨w.heap.size, 0, none⟩ = some (.int .i64 m) ∧ wr.cell? ⟨w.heap.size, 1, none⟩ = some (.int .i64 s) ∧ wr.cell? ⟨w.heap.size, 2, none⟩ = some (.slice A n c) :=
  ⟨cell_of_row _ _ 0 _ _ _ h.xx, cell_of_row _ _ 1 _ _ _ h.xx, cell_of_row _ _ 2 _ _ _ h.xx⟩
theorem TwoI.res (h : TwoI w T m s A n c wr) : (wr.cell? ⟨w.heap.size + 1, 0, none⟩ = some (.int .i64 0) ∧ wr.cell? ⟨w.heap.size + 1, 1, none⟩ = some (.int .i64 0) ∧ wr.cell? ⟨w.heap.size + 1, 2, none⟩ = some (.slice none 0 0)) ∧
    wr.frozen? ⟨w.heap.size + 1, 0, none⟩ = false ∧ wr.frozen? ⟨w.heap.size + 1, 1, none⟩ = false ∧ wr.frozen? ⟨w.heap.size + 1, 2, none⟩ = false :=
  ⟨⟨cell_of_row _ _ 0 _ _ _ h.rr, cell_of_row _ _ 1 _ _ _ h.rr, cell_of_row _ _ 2 _ _ _ h.rr⟩, frozen_of_row _ _ 0 _ _ h.rr, frozen_of_row _ _ 1 _ _ h.rr, frozen_of_row _ _ 2 _ _ h.rr⟩
end
end Go.Cat.Ino
namespace Go.Proofs.Ytkeebkackbkfhaa
open Go.RowKit Go.Shelf Go.Cat Go.Cat.Ino

set_option maxRecDepth 100000 in
set_option maxHeartbeats 8000000 in
theorem grow_any (m s : Int) (A : Option Addr) (xs : List Ext) (c : Nat) (size : Int) (B : Option Addr) (zs : List Int) (d : Nat) (w : World) (hs : Sees w A (erows xs)) (hin : ∀ e ∈ xs, ExK e) (hn : xs.length ≤ 1000000) (hb : Ints w B zs) (hz : ∀ z ∈ zs, -9223372036854775808 ≤ z ∧ z ≤ 9223372036854775807) (hl : zs.length ≤ 100000)
    (hbz : checkI m s xs = 0 → ∀ z ∈ blks xs, -9223372036854775808 ≤ z ∧ z ≤ 9223372036854775807) (hbl : checkI m s xs = 0 → (blks xs).length ≤ 100) :
    Calls Try.prog 16 #[iv m s A xs.length c, .int .i64 size, .slice B zs.length d] w (ToldW (growV m s xs size zs).1 (growV m s xs size zs).2 w) := by
  obtain ⟨W0, hW0⟩ : ∃ W0, W0 = (w.alloc (.cells #[.int .i64 m, .int .i64 s, .slice A xs.length c] 26)).alloc (.cells #[.int .i64 0, .int .i64 0, .slice none 0 0] 26) := ⟨_, rfl⟩
  have h0 : TwoI w 26 m s A xs.length c W0 := by rw [hW0]; exact TwoI.new _ _ _ _ _ _ _
  have p1 := icheck_any m s A xs c W0 (hs.below h0.bel) hin hn
  obtain ⟨V, hV⟩ : ∃ V, V = checkI m s xs := ⟨_, rfl⟩
  have herr : V ≠ 0 → growV m s xs size zs = ((0, 0, []), V) := fun h => by rw [hV] at h ⊢; exact growV_err h
  have hst : V = 0 → (m = 0 ∨ size < s) → growV m s xs size zs = ((0, 0, []), 12) := fun h h2 => growV_state (by rw [← hV]; exact h) h2
  have hok : V = 0 → ¬ (m = 0 ∨ size < s) → growV m s xs size zs = ofV m size (blks xs ++ zs) := fun h h2 => growV_ok (by rw [← hV]; exact h) h2
  have p2 := fun W (h : Sees W A (erows xs)) => blocks_any m s A xs c W h hn
  rw [← hV] at p1 hbz hbl
  obtain ⟨n, hnn⟩ : ∃ n, n = xs.length := ⟨_, rfl⟩
  obtain ⟨q, hq⟩ : ∃ q, q = (blks xs).length := ⟨_, rfl⟩
  obtain ⟨l, hll⟩ : ∃ l, l = zs.length := ⟨_, rfl⟩
  have P2 : Hid (∀ W, Sees W A (erows xs) → Calls Try.prog 15 #[iv m s A n c] W fun e w' => ∃ A' c', e = .returned (.slice A' q c') ∧ Ints w' A' (blks xs) ∧ Below W.heap.size W w') := by
    rw [hnn, hq]; exact fun W h => (p2 W h).mono fun e w' ⟨A', c', h1, h2, h3⟩ => ⟨A', c', h1, Sees.of_own h2, h3⟩
  have P3 : Hid (V = 0 → ∀ A' c' W, Ints W A' (blks xs) → Ints W B zs → Calls Try.prog 35 #[.slice (some ⟨W.heap.size, 0, none⟩) 2 2] (W.alloc (.cells #[.slice A' q c', .slice B l d] 22)) fun e w' => ∃ A'' c'', e = .returned (.slice A'' (q + l) c'') ∧ Ints w' A'' (blks xs ++ zs) ∧ Below W.heap.size W w') := by
    rw [hq, hll]; exact fun hv A' c' W h1 h2 => concat2_any A' B (blks xs) zs c' d W h1 h2 (by have := hbl hv; omega)
  have P4 : Hid (V = 0 → ∀ A' c' W, Ints W A' (blks xs ++ zs) → Calls Try.prog 9 #[.int .i64 m, .int .i64 size, .slice A' (q + l) c'] W (ToldW (ofV m size (blks xs ++ zs)).1 (ofV m size (blks xs ++ zs)).2 W)) := by
    have e : q + l = (blks xs ++ zs).length := by rw [List.length_append, hq, hll]
    rw [e]
    exact fun hv A' c' W h => iof_new m size A' (blks xs ++ zs) c' W h (fun z hz' => by rcases List.mem_append.1 hz' with h | h; exact hbz hv z h; exact hz z h) (by rw [List.length_append]; have := hbl hv; omega)
  rw [← hnn] at p1 h0 hW0 ⊢
  rw [← hll]
  have P1 := Lib.hid p1
  have HW0 := Lib.hid hW0
  have H0 := Lib.hid h0
  have HErr := Lib.hid herr
  have HSt := Lib.hid hst
  have HOk := Lib.hid hok
  have HS := Lib.hid hs
  have HB := Lib.hid hb
  clear hW0 h0 p1 p2 hV herr hst hok hs hin hn hb hz hl hbz hbl hnn hq hll
  go_enter Try.func16, Try.ntmps16
  go_upto_region 1 with (fail)
  rw [← HW0.out]
  obtain ⟨a0, a1, a2⟩ := H0.out.cells
  go_wp2_with fail
  refine (P1.out).mono ?_
  rintro e w1 ⟨rfl, hB1⟩
  have H1 := Lib.hid (H0.out.below hB1)
  clear a0 a1 a2 hB1 P1 HW0 H0
  obtain ⟨a0, a1, a2⟩ := H1.out.cells
  obtain ⟨⟨r0, r1, r2⟩, g0, g1, g2⟩ := H1.out.res
  have hlt := H1.out.lt
  by_cases hv : V = 0
  · have dv : (V != 0) = false := by simpa using hv
    by_cases hm : m = 0
    · have d1 : (m == 0) = true := by simpa using hm
      have HE := Lib.hid (HSt.out hv (.inl hm))
      subst hv
      clear hm
      go_wp2_with fail
      refine bodyPost_ret (ret_ii rfl (by rfl) (set3_block _ _ _ H1.out.rr)) rfl ?_
      rw [HE.out]
      exact ToldW.none_ _ (below_set3 H1.out.bel (by omega) _ _ _)
    · have d1 : (m == 0) = false := by simpa using hm
      by_cases hsz : size < s
      · have d2 : decide (size < s) = true := by simpa using hsz
        have HE := Lib.hid (HSt.out hv (.inr hsz))
        subst hv
        clear hm hsz
        go_wp2_with fail
        refine bodyPost_ret (ret_ii rfl (by rfl) (set3_block _ _ _ H1.out.rr)) rfl ?_
        rw [HE.out]
        exact ToldW.none_ _ (below_set3 H1.out.bel (by omega) _ _ _)
      · have d2 : decide (size < s) = false := by simpa using hsz
        have HE := Lib.hid (HOk.out hv (by omega))
        have P3' := Lib.hid (P3.out hv)
        have P4' := Lib.hid (P4.out hv)
        subst hv
        clear hm hsz P3 P4 HErr HSt HOk
        go_wp2_with fail
        go_region_law (first
          | (go_simp; go_at_call 15; refine (P2.out _ (HS.out.below H1.out.bel.drew)).mono ?_; rintro e w2 ⟨A2, c2, rfl, hz2, hB2⟩; have H2 := Lib.hid (H1.out.below (below_undrew hB2)); obtain ⟨b0, b1, b2⟩ := H2.out.cells; have HZ2 := Lib.hid hz2; have hl2 : w.heap.size < w2.heap.size := Nat.lt_of_succ_lt H2.out.lt; have b3 := fun o => (World.cell?_alloc_lt w2 o ⟨w.heap.size, 0, none⟩ hl2).trans b0)
          | (go_simp; go_at_call 35; refine (P3'.out A2 c2 w2 HZ2.out (HB.out.below H2.out.bel)).mono ?_; rintro e w3 ⟨A3, c3, rfl, hz3, hB3⟩; have H3 := Lib.hid (H2.out.below hB3); obtain ⟨e0, e1, e2⟩ := H3.out.cells; have HZ3 := Lib.hid hz3)
          | (go_simp; go_at_call 9; refine (P4'.out A3 c3 w3 HZ3.out).mono ?_; rintro e w4 ⟨A4, c4, rfl, hs4, ha4, hB4⟩; have H4 := Lib.hid (H3.out.below hB4); obtain ⟨⟨x0, x1, x2⟩, y0, y1, y2⟩ := H4.out.res; have HS4 := Lib.hid hs4; have HA4 := Lib.hid ha4; have hlt4 := H4.out.lt; have hle3 := H3.out.lt; clear ha4 hs4))
        all_goals
          go_wp2_with fail
          refine bodyPost_ret (ret_ii rfl (by rfl) (set3_block _ _ _ H4.out.rr)) rfl ?_
          rw [HE.out]
          exact ⟨A4, c4, rfl, sees_set3 HS4.out (fun a ha e => by have := HA4.out a ha; omega) _ _ _, fun a ha => by have := HA4.out a ha; omega, below_set3 H4.out.bel (by omega) _ _ _⟩
  · have dv : (V != 0) = true := by simpa using hv
    have HE := Lib.hid (HErr.out hv)
    clear hv
    go_wp2_with fail
    refine bodyPost_ret (ret_ii rfl (by rfl) (set3_block _ _ _ H1.out.rr)) rfl ?_
    rw [HE.out]
    exact ToldW.none_ _ (below_set3 H1.out.bel (by omega) _ _ _)
end Go.Proofs.Ytkeebkackbkfhaa
