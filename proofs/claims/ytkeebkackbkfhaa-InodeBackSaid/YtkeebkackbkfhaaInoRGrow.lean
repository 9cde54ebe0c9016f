/- The contract of the reference's Grow. Condition: at most 1000000 extents and blocks, each an int. -/
import Derived.Test.YtkeebkackbkfhaaInoROf
import Derived.Test.YtkeebkackbkfhaaInoGrow
namespace Go.Cat.Ino
open Go.RowKit Go.Cat
theorem TwoI.belowB {w wr w1 : World} {T : TypeId} {m s : Int} {A : Option Addr} {n c B : Nat} (h : TwoI w T m s A n c wr) (hb : Below B wr w1) (hB : w.heap.size + 2 ≤ B) : TwoI w T m s A n c w1 :=
  ⟨(hb.block _ (by omega)).trans h.xx, (hb.block _ (by omega)).trans h.rr, h.bel.trans (hb.mono (by omega))⟩
theorem ints_app {w : World} {base n c : Nat} {e : TypeId} {A : Option Addr} {xs ys : List Int} (h : w.ownsRow base e 1 (.slice A n c) n (xs.map i64 ++ ys.map i64)) : Ints w A (xs ++ ys) := by
  have h2 := Sees.of_own h
  rw [← List.map_append] at h2
  exact h2
end Go.Cat.Ino
namespace Go.Proofs.Ytkeebkackbkfhaa
open Go.RowKit Go.Shelf Go.Cat Go.Cat.Ino

set_option maxRecDepth 100000 in
set_option maxHeartbeats 8000000 in
theorem rgrow_any (m s : Int) (A : Option Addr) (xs : List Ext) (c : Nat) (size : Int) (B : Option Addr) (zs : List Int) (d : Nat) (w : World) (hs : Sees w A (erows xs)) (hin : ∀ e ∈ xs, ExK e) (hn : xs.length ≤ 1000000) (hb : Ints w B zs) (hz : ∀ z ∈ zs, -9223372036854775808 ≤ z ∧ z ≤ 9223372036854775807) (hl : zs.length ≤ 100000)
    (hbz : checkI m s xs = 0 → ∀ z ∈ blks xs, -9223372036854775808 ≤ z ∧ z ≤ 9223372036854775807) (hbl : checkI m s xs = 0 → (blks xs).length ≤ 100) :
    Calls Try.prog 18 #[iv m s A xs.length c, .int .i64 size, .slice B zs.length d] w (ToldW (growV m s xs size zs).1 (growV m s xs size zs).2 w) := by
  obtain ⟨W0, hW0⟩ : ∃ W0, W0 = (w.alloc (.cells #[.int .i64 m, .int .i64 s, .slice A xs.length c] 32)).alloc (.cells #[.int .i64 0, .int .i64 0, .slice none 0 0] 32) := ⟨_, rfl⟩
  have h0 : TwoI w 32 m s A xs.length c W0 := by rw [hW0]; exact TwoI.new _ _ _ _ _ _ _
  have p1 := richeck_any m s A xs c W0 (hs.below h0.bel) hin hn
  obtain ⟨V, hV⟩ : ∃ V, V = checkI m s xs := ⟨_, rfl⟩
  have herr : V ≠ 0 → growV m s xs size zs = ((0, 0, []), V) := fun h => by rw [hV] at h ⊢; exact growV_err h
  have hst : V = 0 → (m = 0 ∨ size < s) → growV m s xs size zs = ((0, 0, []), 12) := fun h h2 => growV_state (by rw [← hV]; exact h) h2
  have hok : V = 0 → ¬ (m = 0 ∨ size < s) → growV m s xs size zs = ofV m size (blks xs ++ zs) := fun h h2 => growV_ok (by rw [← hV]; exact h) h2
  have p2 := fun W (h : Sees W A (erows xs)) => rblocks_any m s A xs c W h hn
  rw [← hV] at p1 hbz hbl
  obtain ⟨n, hnn⟩ : ∃ n, n = xs.length := ⟨_, rfl⟩
  obtain ⟨q, hq⟩ : ∃ q, q = (blks xs).length := ⟨_, rfl⟩
  obtain ⟨l, hll⟩ : ∃ l, l = zs.length := ⟨_, rfl⟩
  have P2 : Hid (∀ W, Sees W A (erows xs) → Calls Try.prog 21 #[iv m s A n c] W fun e w' => ∃ A' c', e = .returned (.slice A' q c') ∧ w'.ownsRow W.heap.size 3 1 (.slice A' q c') q ((blks xs).map i64) ∧ Below W.heap.size W w') := by
    rw [hnn, hq]; exact fun W h => p2 W h
  have hql : V = 0 → q + l ≤ 1000000 := fun hv => by have := hbl hv; omega
  have HQL := Lib.hid hql
  have P4 : Hid (V = 0 → ∀ A' c' W, Ints W A' (blks xs ++ zs) → Calls Try.prog 10 #[.int .i64 m, .int .i64 size, .slice A' (q + l) c'] W (ToldW (ofV m size (blks xs ++ zs)).1 (ofV m size (blks xs ++ zs)).2 W)) := by
    have e : q + l = (blks xs ++ zs).length := by rw [List.length_append, hq, hll]
    rw [e]
    exact fun hv A' c' W h => rof_new m size A' (blks xs ++ zs) c' W h (fun z hz' => by rcases List.mem_append.1 hz' with h | h; exact hbz hv z h; exact hz z h) (by rw [List.length_append]; have := hbl hv; omega)
  rw [← hnn] at p1 h0 hW0 ⊢
  rw [← hll]
  have P1 := Lib.hid p1
  have HW0 := Lib.hid hW0
  have H0 := Lib.hid h0
  have HErr := Lib.hid herr
  have HSt := Lib.hid hst
  have HOk := Lib.hid hok
  have HS := Lib.hid hs
  have HB := Lib.hid hb
  have HL := Lib.hid hll
  clear hW0 h0 p1 p2 hV herr hst hok hs hin hn hb hz hl hbz hbl hnn hq hll hql
  go_enter Try.func18, Try.ntmps18
  go_upto_region 1 with (fail)
  rw [← HW0.out]
  obtain ⟨a0, a1, a2⟩ := H0.out.cells
  go_wp2_with fail
  refine (P1.out).mono ?_
  rintro e w1 ⟨rfl, hB1⟩
  have H1 := Lib.hid (H0.out.below hB1)
  clear a0 a1 a2 hB1 P1 HW0 H0
  obtain ⟨a0, a1, a2⟩ := H1.out.cells
  obtain ⟨⟨r0, r1, r2⟩, g0, g1, g2⟩ := H1.out.res
  have hlt := H1.out.lt
  by_cases hv : V = 0
  · have dv : (V != 0) = false := by simpa using hv
    by_cases hm : m = 0
    · have d1 : (m == 0) = true := by simpa using hm
      have HE := Lib.hid (HSt.out hv (.inl hm))
      subst hv
      clear hm
      go_wp2_with fail
      refine bodyPost_ret (ret_rii rfl (by rfl) (set3_block _ _ _ H1.out.rr)) rfl ?_
      rw [HE.out]
      exact ToldW.none_ _ (below_set3 H1.out.bel (by omega) _ _ _)
    · have d1 : (m == 0) = false := by simpa using hm
      by_cases hsz : size < s
      · have d2 : decide (size < s) = true := by simpa using hsz
        have HE := Lib.hid (HSt.out hv (.inr hsz))
        subst hv
        clear hm hsz
        go_wp2_with fail
        refine bodyPost_ret (ret_rii rfl (by rfl) (set3_block _ _ _ H1.out.rr)) rfl ?_
        rw [HE.out]
        exact ToldW.none_ _ (below_set3 H1.out.bel (by omega) _ _ _)
      · have d2 : decide (size < s) = false := by simpa using hsz
        have HE := Lib.hid (HOk.out hv (by omega))
        have hqle := HQL.out hv
        have P4' := Lib.hid (P4.out hv)
        subst hv
        clear hm hsz P4 HErr HSt HOk
        go_wp2_with fail
        have hz2' : w.heap.size + 2 ≤ w1.heap.size := by omega
        go_region_law (first
          | (refine step_app elem_int rfl (.tmp 29) (.tmp 30) rfl w1.heap.size (.slice A2 q c2) q ((blks xs).map i64) rfl HO2.out B l d (zs.map i64) rfl HZ2.out (by simp [HL.out]) (one_i64 _) (by omega) hsz2 ?_; intro v3 w3 hown3 hgr3 _; obtain ⟨A3, c3, rfl, _, _⟩ := own_full hown3; have H3 := Lib.hid (H2.out.belowB ((Below.refl _ _).own HO2.out hgr3 hsz2 (Nat.le_refl _)) hz2'); obtain ⟨e0, e1, e2⟩ := H3.out.cells; have HZ3 : Hid (Ints w3 A3 (blks xs ++ zs)) := ints_app hown3; have hle3 := H3.out.lt; clear hown3 hgr3)
          | (go_simp; go_at_call 21; refine (P2.out _ (HS.out.below H1.out.bel.drew)).mono ?_; rintro e w2 ⟨A2, c2, rfl, hz2, hB2⟩; have H2 := Lib.hid (H1.out.below (below_undrew hB2)); obtain ⟨b0, b1, b2⟩ := H2.out.cells; have HO2 : Hid (w2.ownsRow w1.heap.size 3 1 (.slice A2 q c2) q ((blks xs).map i64)) := hz2; have HZ2 := Lib.hid (HB.out.below H2.out.bel); have hsz2 : w1.heap.size ≤ w2.heap.size := hB2.size; clear hz2 hB2)
          | (go_simp; go_at_call 10; refine (P4'.out A3 c3 w3 HZ3.out).mono ?_; rintro e w4 ⟨A4, c4, rfl, hs4, ha4, hB4⟩; have H4 := Lib.hid (H3.out.below hB4); obtain ⟨⟨x0, x1, x2⟩, y0, y1, y2⟩ := H4.out.res; have HS4 := Lib.hid hs4; have HA4 := Lib.hid ha4; have hlt4 := H4.out.lt; clear ha4 hs4))
        all_goals
          go_wp2_with fail
          refine bodyPost_ret (ret_rii rfl (by rfl) (set3_block _ _ _ H4.out.rr)) rfl ?_
          rw [HE.out]
          exact ⟨A4, c4, rfl, sees_set3 HS4.out (fun a ha e => by have := HA4.out a ha; omega) _ _ _, fun a ha => by have := HA4.out a ha; omega, below_set3 H4.out.bel (by omega) _ _ _⟩
  · have dv : (V != 0) = true := by simpa using hv
    have HE := Lib.hid (HErr.out hv)
    clear hv
    go_wp2_with fail
    refine bodyPost_ret (ret_rii rfl (by rfl) (set3_block _ _ _ H1.out.rr)) rfl ?_
    rw [HE.out]
    exact ToldW.none_ _ (below_set3 H1.out.bel (by omega) _ _ _)
end Go.Proofs.Ytkeebkackbkfhaa
