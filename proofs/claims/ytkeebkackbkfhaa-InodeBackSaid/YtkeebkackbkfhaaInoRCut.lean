/- The contract of the reference's Cut. Condition: at most 1000000 extents, each start and length an int. -/
import Derived.Test.YtkeebkackbkfhaaInoCutV
import Derived.Test.YtkeebkackbkfhaaInoROf
import Derived.Deep.RegionWith
import Derived.Deep.DeepCutAuto
namespace Go.Proofs.Ytkeebkackbkfhaa
open Go.RowKit Go.Shelf Go.Cat Go.Cat.Ino

set_option maxRecDepth 100000 in
set_option maxHeartbeats 8000000 in
theorem rcuti_any (m s : Int) (A : Option Addr) (xs : List Ext) (c : Nat) (size : Int) (w : World) (hs : Sees w A (erows xs)) (hin : ∀ e ∈ xs, ExK e) (hn : xs.length ≤ 1000000) (hs0 : -9223372036854775808 ≤ size) (hs1 : size ≤ 9223372036854775807)
    (hbz : checkI m s xs = 0 → ∀ z ∈ blks xs, -9223372036854775808 ≤ z ∧ z ≤ 9223372036854775807) (hbl : checkI m s xs = 0 → (blks xs).length ≤ 100) :
    Calls Try.prog 20 #[iv m s A xs.length c, .int .i64 size] w (ToldC (cutV m s xs size) w) := by
  obtain ⟨W0, hW0⟩ : ∃ W0, W0 = (w.alloc (.cells #[.int .i64 m, .int .i64 s, .slice A xs.length c] 32)).alloc (.cells #[.int .i64 0, .int .i64 0, .slice none 0 0] 32) := ⟨_, rfl⟩
  have h0 : TwoI w 32 m s A xs.length c W0 := by rw [hW0]; exact TwoI.new _ _ _ _ _ _ _
  have p1 := richeck_any m s A xs c W0 (hs.below h0.bel) hin hn
  obtain ⟨V, hV⟩ : ∃ V, V = checkI m s xs := ⟨_, rfl⟩
  have herr : V ≠ 0 → cutV m s xs size = ((0, 0, []), [], V) := fun h => by rw [hV] at h ⊢; exact cutV_err h
  have hst : V = 0 → m = 0 → cutV m s xs size = ((0, 0, []), [], 12) := fun h h2 => cutV_state (by rw [← hV]; exact h) h2
  have hrg : V = 0 → m ≠ 0 → (size < 0 ∨ s < size) → cutV m s xs size = ((0, 0, []), [], 20) := fun h h2 h3 => cutV_range (by rw [← hV]; exact h) h2 h3
  have hok : V = 0 → m ≠ 0 → ¬ (size < 0 ∨ s < size) → cutV m s xs size = ((ofV m size ((blks xs).take (need size).toNat)).1, (blks xs).drop (need size).toNat, (ofV m size ((blks xs).take (need size).toNat)).2) := fun h h2 h3 => cutV_ok (by rw [← hV]; exact h) h2 h3
  have hfit : V = 0 → ¬ (size < 0 ∨ s < size) → (need size).toNat ≤ (blks xs).length := fun h h3 => need_fits (by rw [← hV]; exact h) h3
  have p2 := fun W (h : Sees W A (erows xs)) => rblocks_any m s A xs c W h hn
  rw [← hV] at p1 hbz hbl
  obtain ⟨n, hnn⟩ : ∃ n, n = xs.length := ⟨_, rfl⟩
  obtain ⟨q, hq⟩ : ∃ q, q = (blks xs).length := ⟨_, rfl⟩
  obtain ⟨k, hk⟩ : ∃ k, k = (need size).toNat := ⟨_, rfl⟩
  have hkn : need size = (k : Int) := by have := need_nonneg size; omega
  have P2 : Hid (∀ W, Sees W A (erows xs) → Calls Try.prog 21 #[iv m s A n c] W fun e w' => ∃ A' c', e = .returned (.slice A' q c') ∧ (Ints w' A' (blks xs) ∧ (∀ a, A' = some a → W.heap.size ≤ a.block) ∧ q ≤ c' ∧ c' ≤ maxLen) ∧ Below W.heap.size W w') := by
    rw [hnn, hq]; exact fun W h => (p2 W h).mono fun e w' ⟨A', c', h1, h2, h3⟩ => ⟨A', c', h1, by
      obtain ⟨A2, c2, he, h4, h5⟩ := own_full h2
      injection he with e1 _ e2
      subst e1 e2
      exact ⟨Sees.of_own h2, own_addr h2, h4, h5⟩, h3⟩
  have P5 : Hid (∀ W, Calls Try.prog 13 #[.int .i64 size] W fun e w' => e = .returned (.int .i64 (k : Int)) ∧ W = w') := by
    rw [← hkn]; exact fun W => rneed_any size W hs0 hs1
  rw [← hk] at hok hfit
  obtain ⟨X, hX⟩ : ∃ X, X = ofV m size ((blks xs).take k) := ⟨_, rfl⟩
  obtain ⟨⟨m', s', ys⟩, er⟩ := X
  obtain ⟨l, hll⟩ : ∃ l, l = ys.length := ⟨_, rfl⟩
  have P4 : Hid (V = 0 → k ≤ q → ∀ A' c' W, Ints W A' (blks xs) → Calls Try.prog 10 #[.int .i64 m, .int .i64 size, .slice A' k c'] W fun e w' => ∃ A4 c4, e = .returned (.tuple #[iv m' s' A4 l c4, .int .i64 er]) ∧ Sees w' A4 (erows ys) ∧ (∀ a, A4 = some a → W.heap.size ≤ a.block) ∧ Below W.heap.size W w') := by
    refine fun hv hkq A' c' W h => ?_
    have e : k = ((blks xs).take k).length := by rw [List.length_take, ← hq]; omega
    have hof := rof_new m size A' ((blks xs).take k) c' W (Ints.take h k) (fun z hz => hbz hv z (List.mem_of_mem_take hz)) (by have := hbl hv; rw [← e]; omega)
    rw [← e, ← hX] at hof
    rw [hll]
    exact hof.mono fun e w' h => h
  rw [← hX] at hok
  have hdl : ((blks xs).drop k).length = q - k := by rw [List.length_drop, hq]
  rw [← hq] at hfit
  have hq100 : V = 0 → q ≤ 100 := fun h => by rw [hq]; exact hbl h
  rw [← hnn] at p1 h0 hW0 ⊢
  have P1 := Lib.hid p1
  have HW0 := Lib.hid hW0
  have H0 := Lib.hid h0
  have HErr := Lib.hid herr
  have HSt := Lib.hid hst
  have HRg := Lib.hid hrg
  have HOk := Lib.hid hok
  have HFit := Lib.hid hfit
  have HQ := Lib.hid hq100
  have HDl := Lib.hid hdl
  have HLL := Lib.hid hll
  have HS := Lib.hid hs
  clear hW0 h0 p1 p2 hV herr hst hrg hok hfit hs hin hn hs0 hs1 hbz hbl hnn hq hk hkn hX hll hdl hq100
  go_enter Try.func20, Try.ntmps20
  go_upto_region 1 with (fail)
  rw [← HW0.out]
  obtain ⟨a0, a1, a2⟩ := H0.out.cells
  go_wp2_with fail
  refine (P1.out).mono ?_
  rintro e w1 ⟨rfl, hB1⟩
  have H1 := Lib.hid (H0.out.below hB1)
  clear a0 a1 a2 hB1 P1 HW0 H0
  obtain ⟨a0, a1, a2⟩ := H1.out.cells
  obtain ⟨⟨r0, r1, r2⟩, g0, g1, g2⟩ := H1.out.res
  have hlt := H1.out.lt
  by_cases hv : V = 0
  · have dv : (V != 0) = false := by simpa using hv
    by_cases hm : m = 0
    · have d1 : (m == 0) = true := by simpa using hm
      have HE := Lib.hid (HSt.out hv hm)
      subst hv
      clear hm
      go_wp2_with fail
      refine bodyPost_ret (ret_rii3 rfl (by rfl) (set3_block _ _ _ H1.out.rr)) rfl ?_
      rw [HE.out]
      exact ToldC.none_ _ (below_set3 H1.out.bel (by omega) _ _ _)
    · have d1 : (m == 0) = false := by simpa using hm
      by_cases h0 : size < 0
      · have d2 : decide (size < 0) = true := by simpa using h0
        have HE := Lib.hid (HRg.out hv hm (.inl h0))
        subst hv
        clear hm h0
        go_wp2_with fail
        refine bodyPost_ret (ret_rii3 rfl (by rfl) (set3_block _ _ _ H1.out.rr)) rfl ?_
        rw [HE.out]
        exact ToldC.none_ _ (below_set3 H1.out.bel (by omega) _ _ _)
      · have d2 : decide (size < 0) = false := by simpa using h0
        by_cases h2 : s < size
        · have d3 : decide (s < size) = true := by simpa using h2
          have HE := Lib.hid (HRg.out hv hm (.inr h2))
          subst hv
          clear hm h0 h2
          go_wp2_with fail
          refine bodyPost_ret (ret_rii3 rfl (by rfl) (set3_block _ _ _ H1.out.rr)) rfl ?_
          rw [HE.out]
          exact ToldC.none_ _ (below_set3 H1.out.bel (by omega) _ _ _)
        · have d3 : decide (s < size) = false := by simpa using h2
          have hno : ¬ (size < 0 ∨ s < size) := by omega
          have HE := Lib.hid (HOk.out hv hm hno)
          have hkq : k ≤ q := HFit.out hv hno
          have hq1 : q ≤ 100 := HQ.out hv
          have P4' := Lib.hid (P4.out hv hkq)
          subst hv
          clear hm h0 h2 hno P4 HErr HSt HRg HOk HFit HQ
          go_wp2_with fail
          refine (P2.out _ (HS.out.below H1.out.bel)).mono ?_
          rintro e w2 ⟨A2, c2, rfl, ⟨hz2, ha2, hqc, hcm⟩, hB2⟩
          have H2 := Lib.hid (H1.out.below hB2)
          have HA2 : Hid (∀ a, A2 = some a → a.block ≠ w.heap.size + 1) := fun a ha e => by have := ha2 a ha; omega
          have HZ2 := Lib.hid hz2
          unfold maxLen at hcm
          clear a0 a1 a2 r0 r1 r2 g0 g1 g2 hlt hz2 ha2 hB2 H1
          obtain ⟨a0, a1, a2⟩ := H2.out.cells
          have hlt := H2.out.lt
          have hl2 : w.heap.size < w2.heap.size := Nat.lt_of_succ_lt hlt
          have a3 := fun o => (World.cell?_alloc_lt w2 o ⟨w.heap.size, 0, none⟩ hl2).trans a0
          have hkI : (k : Int) ≤ (c2 : Int) := by omega
          have hkc : k ≤ c2 := by omega
          have hkqI : (k : Int) ≤ (q : Int) := by omega
          have hqcI : (q : Int) ≤ (c2 : Int) := by omega
          have hk0 : (0 : Int) ≤ (k : Int) := by omega
          have hmx : max (k : Int) 0 = (k : Int) := by omega
          go_wp2_with fail
          go_region_law (first | (go_simp; go_at_call 10; refine (P4'.out A2 _ _ (HZ2.out.below (Below.refl _ _).drew)).mono ?_; rintro e w4 ⟨A4, c4, rfl, hs4, ha4, hB4⟩; have H4 := Lib.hid (H2.out.below (below_undrew hB4)); have HS4 := Lib.hid hs4; have HA4 : Hid (∀ a, A4 = some a → w.heap.size + 2 ≤ a.block) := (fun a ha => Nat.le_trans hlt (ha4 a ha)); have HB24 : Hid (Below w2.heap.size w2 w4) := below_undrew hB4; clear hs4 ha4 hB4) | (go_simp; go_at_call 10; refine (P4'.out A2 _ _ (HZ2.out.below ((Below.refl _ _).alloc (Nat.le_refl _) (.cells #[.int .i64 0, .int .i64 0, .slice none 0 0] 32)).drew)).mono ?_; rintro e w4 ⟨A4, c4, rfl, hs4, ha4, hB4⟩; have hb24 := ((Below.refl w2.heap.size w2).alloc (Nat.le_refl _) (.cells #[.int .i64 0, .int .i64 0, .slice none 0 0] 32)).drew.trans (hB4.mono (by simp)); have H4 := Lib.hid (H2.out.below hb24); have HS4 := Lib.hid hs4; have HA4J : Hid (∀ a, A4 = some a → w2.heap.size + 1 ≤ a.block) := (fun a ha => by have := ha4 a ha; simp at this; omega); have HA4 : Hid (∀ a, A4 = some a → w.heap.size + 2 ≤ a.block) := (fun a ha => by have := HA4J.out a ha; omega); have HB24 : Hid (Below w2.heap.size w2 w4) := hb24; have hJ4 : w4.heap[w2.heap.size]? = some (.cells #[.int .i64 0, .int .i64 0, .slice none 0 0] 32 (0, 0)) := (hB4.block _ (by simp)).trans (heap_alloc_new w2 _); have j0 := cell_of_row w4 _ 0 _ _ _ hJ4; have j1 := cell_of_row w4 _ 1 _ _ _ hJ4; have j2 := cell_of_row w4 _ 2 _ _ _ hJ4; have jf0 := frozen_of_row w4 _ 0 _ _ hJ4; have jf1 := frozen_of_row w4 _ 1 _ _ hJ4; have jf2 := frozen_of_row w4 _ 2 _ _ hJ4; simp at j0 j1 j2; have HJ4 := Lib.hid hJ4; clear hs4 ha4 hB4 hb24 hJ4) | (go_simp; go_at_call 13; refine (P5.out _).mono ?_; rintro e w3 ⟨rfl, rfl⟩) | fail)
          all_goals
            first
            | (obtain ⟨W5, hW5⟩ : ∃ W5, W5 = w4.alloc (.cells #[.int .i64 m', .int .i64 s', .slice A4 l c4] 32) := ⟨_, rfl⟩
               have hb5 : Below w4.heap.size w4 W5 := by rw [hW5]; exact (Below.refl _ _).alloc (Nat.le_refl _) _
               have hx5 : W5.heap[w4.heap.size]? = some (.cells #[.int .i64 m', .int .i64 s', .slice A4 l c4] 32 (0, 0)) := by rw [hW5]; exact heap_alloc_new _ _
               have H5 := Lib.hid (H4.out.below hb5)
               have HS5 := Lib.hid (HS4.out.below hb5)
               have HZ5 := Lib.hid (HZ2.out.below (HB24.out.trans (hb5.mono HB24.out.size)))
               clear a0 a1 a2 a3
               go_upto_region 10 with (fail)
               rw [← hW5]
               clear hb5 hW5)
            | (obtain ⟨W5, hW5⟩ : ∃ W5, W5 = ((w4.setCell ⟨w2.heap.size, 0, none⟩ (.int .i64 m')).setCell ⟨w2.heap.size, 1, none⟩ (.int .i64 s')).setCell ⟨w2.heap.size, 2, none⟩ (.slice A4 l c4) := ⟨_, rfl⟩
               have hb5 : Below w2.heap.size w2 W5 := by rw [hW5]; exact below_set3 HB24.out (Nat.le_refl _) _ _ _
               have hx5 : W5.heap[w2.heap.size]? = some (.cells #[.int .i64 m', .int .i64 s', .slice A4 l c4] 32 (0, 0)) := by rw [hW5]; exact set3_block _ _ _ HJ4.out
               have H5 := Lib.hid (H2.out.below hb5)
               have HS5 : Hid (Sees W5 A4 (erows ys)) := by show Sees _ _ _; rw [hW5]; exact sees_set3 HS4.out (fun a ha e => by have := HA4J.out a ha; omega) _ _ _
               have HZ5 := Lib.hid (HZ2.out.below hb5)
               clear a0 a1 a2 a3 j0 j1 j2 jf0 jf1 jf2
               go_upto_region 10 with (fail)
               rw [← hW5]
               clear hb5 hW5)
            obtain ⟨⟨r0, r1, r2⟩, g0, g1, g2⟩ := H5.out.res
            have hlt5 := H5.out.lt
            have hx0 := cell_of_row W5 _ 0 _ _ _ hx5
            have hx1 := cell_of_row W5 _ 1 _ _ _ hx5
            have hx2 := cell_of_row W5 _ 2 _ _ _ hx5
            simp at hx0 hx1 hx2
            clear hx5
            have fin : ∀ Bf df, Ints W5 Bf ((blks xs).drop k) → (∀ a, Bf = some a → a.block ≠ w.heap.size + 1) → ToldC (cutV m s xs size) w (.returned (.tuple #[iv m' s' A4 l c4, .slice Bf (q - k) df, .int .i64 er])) (((W5.setCell ⟨w.heap.size + 1, 0, none⟩ (.int .i64 m')).setCell ⟨w.heap.size + 1, 1, none⟩ (.int .i64 s')).setCell ⟨w.heap.size + 1, 2, none⟩ (.slice A4 l c4)).drew := fun Bf df h1 h2 => by
              rw [HE.out]
              exact ⟨A4, c4, Bf, df, by rw [← HLL.out, HDl.out], Sees.drew (sees_set3 HS5.out (fun a ha e => by have := HA4.out a ha; omega) _ _ _), fun a ha => by have := HA4.out a ha; omega, Sees.drew (sees_set3 h1 h2 _ _ _), (below_set3 H5.out.bel (by omega) _ _ _).drew⟩
            have HFin := Lib.hid fin
            clear fin
            by_cases hcc : c2 = k
            · subst hcc
              have hqq : q = c2 := by omega
              subst hqq
              go_region_law (first | (go_simp; go_at_call 13; refine (P5.out _).mono ?_; rintro e w3 ⟨rfl, rfl⟩) | fail)
              all_goals
                go_wp2_with fail
                refine bodyPost_ret (ret_rii3 rfl (by rfl) (set3_block _ _ _ H5.out.rr)) rfl ?_
                have hf := HFin.out A2 0 (by rw [List.drop_eq_nil_of_le (by have := HDl.out; rw [List.length_drop] at this; omega)]; exact .inl rfl) (fun a ha => HA2.out a ha)
                rw [Nat.sub_self] at hf
                exact hf
            · have hne : (c2 = k) = False := eq_false hcc
              go_region_law (first | (go_simp; go_at_call 13; refine (P5.out _).mono ?_; rintro e w3 ⟨rfl, rfl⟩) | fail)
              all_goals
                go_wp2_with fail
                refine bodyPost_ret (ret_rii3 rfl (by rfl) (set3_block _ _ _ H5.out.rr)) rfl ?_
                exact HFin.out _ _ (ints_drop HZ5.out k) (fun a ha => by obtain ⟨x, hx, rfl⟩ := Option.map_eq_some_iff.1 ha; rw [addr_add_blk]; exact HA2.out x hx)
  · have dv : (V != 0) = true := by simpa using hv
    have HE := Lib.hid (HErr.out hv)
    clear hv
    go_wp2_with fail
    refine bodyPost_ret (ret_rii3 rfl (by rfl) (set3_block _ _ _ H1.out.rr)) rfl ?_
    rw [HE.out]
    exact ToldC.none_ _ (below_set3 H1.out.bel (by omega) _ _ _)
end Go.Proofs.Ytkeebkackbkfhaa
