/- The walk of the law InodeTurns: it answers true, whatever comes in. Condition: numbers within their kinds. -/
import Derived.Test.YtkeebkackbkfhaaInoRGrow
import Derived.Test.YtkeebkackbkfhaaInoRCut
import Derived.Test.YtkeebkackbkfhaaInoCut
import Derived.Test.YtkeebkackbkfhaaInoMakes
namespace Go.Cat.Ino
open Go.RowKit Go.Cat
theorem bAt_in (e : Ext) (j : Nat) : -9223372036854775808 ≤ bAt e j ∧ bAt e j ≤ 9223372036854775807 := by
  unfold bAt wrap64
  omega
theorem blks_in {xs : List Ext} : ∀ z ∈ blks xs, -9223372036854775808 ≤ z ∧ z ≤ 9223372036854775807 := by
  intro z hz
  obtain ⟨e, _, he⟩ := List.mem_flatMap.1 hz
  unfold blk at he
  split at he
  · obtain ⟨j, _, rfl⟩ := List.mem_map.1 he
    exact bAt_in e j
  · cases he
theorem blks_few {m s : Int} {xs : List Ext} (h : checkI m s xs = 0) : (blks xs).length ≤ 8 := by
  have h1 := check_zero h
  have h2 := h1.need
  have h3 := need_le h1.s1
  omega
theorem growV_len {m s size : Int} {xs : List Ext} {zs : List Int} (hz : ∀ z ∈ zs, -9223372036854775808 ≤ z ∧ z ≤ 9223372036854775807) : (growV m s xs size zs).1.2.2.length ≤ 8 + zs.length := by
  by_cases h : checkI m s xs = 0
  · by_cases h2 : m = 0 ∨ size < s
    · rw [growV_state h h2]; exact Nat.zero_le _
    · rw [growV_ok h h2]
      have h3 := ofV_len m size (zs := blks xs ++ zs) (fun z h => by rcases List.mem_append.1 h with h | h; exact blks_in z h; exact hz z h)
      rw [List.length_append] at h3
      have := blks_few h
      omega
  · rw [growV_err h]; exact Nat.zero_le _
theorem cutV_len {m s size : Int} {xs : List Ext} : (cutV m s xs size).1.2.2.length ≤ 8 ∧ (cutV m s xs size).2.1.length ≤ 8 := by
  by_cases h : checkI m s xs = 0
  · by_cases h2 : m = 0
    · rw [cutV_state h h2]; exact ⟨Nat.zero_le _, Nat.zero_le _⟩
    · by_cases h3 : size < 0 ∨ s < size
      · rw [cutV_range h h2 h3]; exact ⟨Nat.zero_le _, Nat.zero_le _⟩
      · rw [cutV_ok h h2 h3]
        have h4 := ofV_len m size (zs := (blks xs).take (need size).toNat) (fun z h => blks_in z (List.mem_of_mem_take h))
        have := blks_few h
        rw [List.length_take] at h4
        refine ⟨by show (ofV m size _).1.2.2.length ≤ 8; omega, by show ((blks xs).drop _).length ≤ 8; rw [List.length_drop]; omega⟩
  · rw [cutV_err h]; exact ⟨Nat.zero_le _, Nat.zero_le _⟩
end Go.Cat.Ino
namespace Go.Proofs.Ytkeebkackbkfhaa
open Go.RowKit Go.Shelf Go.Cat Go.Cat.Ino

/-- The law's guard, true: the example alone. -/
theorem turns_far (m s : Int) (A : Option Addr) (n c : Nat) (size : Int) (B : Option Addr) (l d : Nat) (w : World) (h : 40 < n ∨ 40 < l) :
    Calls Try.prog 4 #[iv m s A n c, .int .i64 size, .slice B l d] w fun e w' => e = .returned (.bool true) ∧ Below w.heap.size w w' := by
  have hb : Below w.heap.size w (w.alloc (.cells #[.int .i64 m, .int .i64 s, .slice A n c] 32)) := (Below.refl _ _).alloc (Nat.le_refl _) _
  have HB := Lib.hid hb
  clear hb
  by_cases h2 : 40 < l
  · have d0 : decide ((40 : Int) < (l : Int)) = true := by simp; omega
    clear h h2
    go_enter Try.func4, Try.ntmps4
    go_wp2_with fail
    refine (awake_any _).mono ?_
    rintro e w9 ⟨rfl, hB9⟩
    go_wp2
    go_ret
    exact ⟨rfl, HB.out.trans (hB9.mono HB.out.size)⟩
  · have d0 : decide ((40 : Int) < (l : Int)) = false := by simp; omega
    have d1 : decide ((40 : Int) < (n : Int)) = true := by simp; omega
    clear h h2
    go_enter Try.func4, Try.ntmps4
    go_wp2_with fail
    refine (awake_any _).mono ?_
    rintro e w9 ⟨rfl, hB9⟩
    go_wp2
    go_ret
    exact ⟨rfl, HB.out.trans (hB9.mono HB.out.size)⟩

set_option maxRecDepth 100000 in
set_option maxHeartbeats 8000000 in
theorem turns_near (m s : Int) (A : Option Addr) (xs : List Ext) (c : Nat) (size : Int) (B : Option Addr) (zs : List Int) (d : Nat) (w : World) (hs : Sees w A (erows xs)) (hin : ∀ e ∈ xs, ExK e) (hn : xs.length ≤ 40) (hb : Ints w B zs) (hz : ∀ z ∈ zs, -9223372036854775808 ≤ z ∧ z ≤ 9223372036854775807) (hl : zs.length ≤ 40)
    (hs0 : -9223372036854775808 ≤ size) (hs1 : size ≤ 9223372036854775807) :
    Calls Try.prog 4 #[iv m s A xs.length c, .int .i64 size, .slice B zs.length d] w fun e w' => e = .returned (.bool true) ∧ Below w.heap.size w w' := by
  have hgl := growV_len (m := m) (s := s) (size := size) (xs := xs) hz
  have hcl := cutV_len (m := m) (s := s) (size := size) (xs := xs)
  have p0 := fun W (h : Sees W A (erows xs)) => ours_any m s A xs c W h (by omega)
  have p1 := fun A' c' W (h : Sees W A' (erows xs)) (h' : Ints W B zs) => grow_any m s A' xs c' size B zs d W h hin (by omega) h' hz (by omega) (fun _ => blks_in) (fun h => Nat.le_trans (blks_few h) (by omega))
  have p2 := fun W (h : Sees W A (erows xs)) (h' : Ints W B zs) => rgrow_any m s A xs c size B zs d W h hin (by omega) h' hz (by omega) (fun _ => blks_in) (fun h => Nat.le_trans (blks_few h) (by omega))
  have p3 := fun A' c' W (h : Sees W A' (erows xs)) => cuti_any m s A' xs c' size W h hin (by omega) hs0 hs1 (fun _ => blks_in) (fun h => Nat.le_trans (blks_few h) (by omega))
  have p4 := fun W (h : Sees W A (erows xs)) => rcuti_any m s A xs c size W h hin (by omega) hs0 hs1 (fun _ => blks_in) (fun h => Nat.le_trans (blks_few h) (by omega))
  obtain ⟨X, hX⟩ : ∃ X, X = growV m s xs size zs := ⟨_, rfl⟩
  obtain ⟨Y, hY⟩ : ∃ Y, Y = cutV m s xs size := ⟨_, rfl⟩
  rw [← hX] at hgl p1 p2
  rw [← hY] at hcl p3 p4
  obtain ⟨⟨gm, gs, gx⟩, ge⟩ := X
  obtain ⟨⟨cm, cs, cx⟩, cg, ce⟩ := Y
  obtain ⟨n, hnn⟩ : ∃ n, n = xs.length := ⟨_, rfl⟩
  obtain ⟨l, hll⟩ : ∃ l, l = zs.length := ⟨_, rfl⟩
  obtain ⟨gl, hggl⟩ : ∃ gl, gl = gx.length := ⟨_, rfl⟩
  obtain ⟨cl, hccl⟩ : ∃ cl, cl = cx.length := ⟨_, rfl⟩
  obtain ⟨gq, hgq⟩ : ∃ gq, gq = cg.length := ⟨_, rfl⟩
  have hgx : gx.length ≤ 8 + zs.length := hgl
  have hcx : cx.length ≤ 8 := hcl.1
  have hcg : cg.length ≤ 8 := hcl.2
  have P0 : Hid (∀ W, Sees W A (erows xs) → Calls Try.prog 17 #[iv m s A n c] W fun e w' => ∃ A' c', e = .returned (iv m s A' n c') ∧ Sees w' A' (erows xs) ∧ Below W.heap.size W w') := by
    rw [hnn]; exact fun W h => (p0 W h).mono fun e w' h => h
  have P1 : Hid (∀ A' c' W, Sees W A' (erows xs) → Ints W B zs → Calls Try.prog 16 #[iv m s A' n c', .int .i64 size, .slice B l d] W fun e w' => ∃ A' c', e = .returned (.tuple #[iv gm gs A' gl c', .int .i64 ge]) ∧ Sees w' A' (erows gx) ∧ Below W.heap.size W w') := by
    rw [hnn, hll, hggl]; exact fun A' c' W h h' => (p1 A' c' W h h').mono fun e w' h => h.told
  have P2 : Hid (∀ W, Sees W A (erows xs) → Ints W B zs → Calls Try.prog 18 #[iv m s A n c, .int .i64 size, .slice B l d] W fun e w' => ∃ A' c', e = .returned (.tuple #[iv gm gs A' gl c', .int .i64 ge]) ∧ Sees w' A' (erows gx) ∧ Below W.heap.size W w') := by
    rw [hnn, hll, hggl]; exact fun W h h' => (p2 W h h').mono fun e w' h => h.told
  have P3 : Hid (∀ A' c' W, Sees W A' (erows xs) → Calls Try.prog 19 #[iv m s A' n c', .int .i64 size] W fun e w' => ∃ A' c' D d', e = .returned (.tuple #[iv cm cs A' cl c', .slice D gq d', .int .i64 ce]) ∧ Sees w' A' (erows cx) ∧ Ints w' D cg ∧ Below W.heap.size W w') := by
    rw [hnn, hccl, hgq]; exact fun A' c' W h => (p3 A' c' W h).mono fun e w' ⟨A', c', D, d', h1, h2, _, h4, h5⟩ => ⟨A', c', D, d', h1, h2, h4, h5⟩
  have P4 : Hid (∀ W, Sees W A (erows xs) → Calls Try.prog 20 #[iv m s A n c, .int .i64 size] W fun e w' => ∃ A' c' D d', e = .returned (.tuple #[iv cm cs A' cl c', .slice D gq d', .int .i64 ce]) ∧ Sees w' A' (erows cx) ∧ Ints w' D cg ∧ Below W.heap.size W w') := by
    rw [hnn, hccl, hgq]; exact fun W h => (p4 W h).mono fun e w' ⟨A', c', D, d', h1, h2, _, h4, h5⟩ => ⟨A', c', D, d', h1, h2, h4, h5⟩
  have P5 : Hid (∀ B C b c' W, Sees W B (erows gx) → Sees W C (erows gx) → Calls Try.prog 11 #[iv gm gs B gl b, iv gm gs C gl c'] W fun e w' => e = .returned (.bool true) ∧ Below W.heap.size W w') := by
    rw [hggl]; exact fun B C b c' W h1 h2 => like_eq gm gs gx B C b c' W h1 h2 (by omega)
  have P6 : Hid (∀ B C b c' W, Sees W B (erows cx) → Sees W C (erows cx) → Calls Try.prog 11 #[iv cm cs B cl b, iv cm cs C cl c'] W fun e w' => e = .returned (.bool true) ∧ Below W.heap.size W w') := by
    rw [hccl]; exact fun B C b c' W h1 h2 => like_eq cm cs cx B C b c' W h1 h2 (by omega)
  have P7 : Hid (∀ B C b b' W, Ints W B cg → Ints W C cg → Calls Try.prog 14 #[.slice B gq b, .slice C gq b'] W fun e w' => e = .returned (.bool true) ∧ Below W.heap.size W w') := by
    rw [hgq]; exact fun B C b b' W h1 h2 => (sameI_any B C cg.length cg.length b b' cg cg W h1 h2 rfl rfl (by omega) (by omega)).mono fun e w' ⟨h3, q, h4⟩ => ⟨by rw [h3]; simp, by rw [h4]; exact below_drewN (Below.refl _ _) _⟩
  have d0 : decide ((40 : Int) < (l : Int)) = false := by rw [hll]; simp; omega
  have d1 : decide ((40 : Int) < (n : Int)) = false := by rw [hnn]; simp; omega
  have e1 : (ge == ge) = true := by simp
  have e2 : (ce == ce) = true := by simp
  obtain ⟨W0, hW0⟩ : ∃ W0, W0 = w.alloc (.cells #[.int .i64 m, .int .i64 s, .slice A n c] 32) := ⟨_, rfl⟩
  have hp0 : IbS w.heap.size m s A xs c w W0 := by rw [hW0, hnn]; exact IbS.new hs
  rw [← hnn, ← hll]
  have HW0 := Lib.hid hW0
  have HP0 := Lib.hid hp0
  have HN := Lib.hid hnn
  have HGL := Lib.hid hggl
  have HCL := Lib.hid hccl
  have HI := Lib.hid hb
  clear hgl hcl p0 p1 p2 p3 p4 hX hY hnn hll hggl hccl hgq hgx hcx hcg hW0 hp0 hs hin hn hb hz hl hs0 hs1
  go_enter Try.func4, Try.ntmps4
  go_upto_region 1 with (fail)
  rw [← HW0.out]
  obtain ⟨a0, a1, a2, ha, _⟩ := HP0.out
  rw [← HN.out] at a2
  have P0' := Lib.hid (P0.out W0 ha)
  clear ha
  go_wp2_with fail
  refine (P0'.out).mono ?_
  rintro e w1 ⟨A1, c1, rfl, hs1, hB1⟩
  have HP1 := Lib.hid (HP0.out.below hB1)
  have P1' := Lib.hid (P1.out A1 c1 w1 hs1 (HI.out.below HP1.out.bel))
  clear a0 a1 a2 hs1 hB1 P0'
  go_wp2_with fail
  refine (P1'.out).mono ?_
  rintro e w2 ⟨A2, c2, rfl, hs2, hB2⟩
  obtain ⟨W3, hW3⟩ : ∃ W3, W3 = w2.alloc (.cells #[.int .i64 gm, .int .i64 gs, .slice A2 gl c2] 26) := ⟨_, rfl⟩
  have ha3 : IbS w2.heap.size gm gs A2 gx c2 w2 W3 := by rw [hW3, HGL.out]; exact IbS.new hs2
  have HP3 := Lib.hid ((HP1.out.below hB2).below ha3.bel)
  have HA3 := Lib.hid ha3
  have HW3 := Lib.hid hW3
  clear hs2 hB2 P1' ha3 hW3
  go_upto_region 4 with (fail)
  rw [← HW3.out]
  obtain ⟨a0, a1, a2, ha, _⟩ := HP3.out
  rw [← HN.out] at a2
  have P2' := Lib.hid (P2.out W3 ha (HI.out.below HP3.out.bel))
  clear ha
  go_wp2_with fail
  refine (P2'.out).mono ?_
  rintro e w4 ⟨A4, c4, rfl, hs4, hB4⟩
  obtain ⟨W5, hW5⟩ : ∃ W5, W5 = w4.alloc (.cells #[.int .i64 gm, .int .i64 gs, .slice A4 gl c4] 32) := ⟨_, rfl⟩
  have hb5 : IbS w4.heap.size gm gs A4 gx c4 w4 W5 := by rw [hW5, HGL.out]; exact IbS.new hs4
  have HP5 := Lib.hid ((HP3.out.below hB4).below hb5.bel)
  have HA5 := Lib.hid ((HA3.out.below hB4).below hb5.bel)
  have HB5 := Lib.hid hb5
  have HW5 := Lib.hid hW5
  clear a0 a1 a2 hs4 hB4 P2' hb5 hW5
  go_upto_region 5 with (fail)
  rw [← HW5.out]
  obtain ⟨a0, a1, a2, ha, _⟩ := HP5.out
  rw [← HN.out] at a2
  have P0' := Lib.hid (P0.out W5 ha)
  clear ha
  go_wp2_with fail
  refine (P0'.out).mono ?_
  rintro e w6 ⟨A6, c6, rfl, hs6, hB6⟩
  have HP6 := Lib.hid (HP5.out.below hB6)
  have HA6 := Lib.hid (HA5.out.below hB6)
  have HB6 := Lib.hid (HB5.out.below hB6)
  have P3' := Lib.hid (P3.out A6 c6 w6 hs6)
  clear a0 a1 a2 hs6 hB6 P0'
  go_wp2_with fail
  refine (P3'.out).mono ?_
  rintro e w7 ⟨A7, c7, D7, d7, rfl, hs7, hi7, hB7⟩
  obtain ⟨W8, hW8⟩ : ∃ W8, W8 = w7.alloc (.cells #[.int .i64 cm, .int .i64 cs, .slice A7 cl c7] 26) := ⟨_, rfl⟩
  have hc8 : IbS w7.heap.size cm cs A7 cx c7 w7 W8 := by rw [hW8, HCL.out]; exact IbS.new hs7
  have HP8 := Lib.hid ((HP6.out.below hB7).below hc8.bel)
  have HA8 := Lib.hid ((HA6.out.below hB7).below hc8.bel)
  have HB8 := Lib.hid ((HB6.out.below hB7).below hc8.bel)
  have HC8 := Lib.hid hc8
  have HD8 := Lib.hid (hi7.below hc8.bel)
  have HW8 := Lib.hid hW8
  clear hs7 hi7 hB7 P3' hc8 hW8
  go_upto_region 6 with (fail)
  rw [← HW8.out]
  obtain ⟨a0, a1, a2, ha, _⟩ := HP8.out
  rw [← HN.out] at a2
  have P4' := Lib.hid (P4.out W8 ha)
  clear ha
  go_wp2_with fail
  refine (P4'.out).mono ?_
  rintro e w9 ⟨A9, c9, D9, d9, rfl, hs9, hi9, hB9⟩
  obtain ⟨W10, hW10⟩ : ∃ W10, W10 = w9.alloc (.cells #[.int .i64 cm, .int .i64 cs, .slice A9 cl c9] 32) := ⟨_, rfl⟩
  have hd10 : IbS w9.heap.size cm cs A9 cx c9 w9 W10 := by rw [hW10, HCL.out]; exact IbS.new hs9
  have HP10 := Lib.hid ((HP8.out.below hB9).below hd10.bel)
  have HA10 := Lib.hid ((HA8.out.below hB9).below hd10.bel)
  have HB10 := Lib.hid ((HB8.out.below hB9).below hd10.bel)
  have HC10 := Lib.hid ((HC8.out.below hB9).below hd10.bel)
  have HD10 := Lib.hid hd10
  have HE10 := Lib.hid ((HD8.out.below hB9).below hd10.bel)
  have HF10 := Lib.hid (hi9.below hd10.bel)
  have HW10 := Lib.hid hW10
  clear a0 a1 a2 hs9 hi9 hB9 P4' hd10 hW10
  go_upto_region 7 with (fail)
  rw [← HW10.out]
  obtain ⟨a0, a1, a2, ha, _⟩ := HA10.out
  obtain ⟨b0, b1, b2, hb, _⟩ := HB10.out
  rw [← HGL.out] at a2 b2
  have P5' := Lib.hid (P5.out A2 A4 c2 c4 W10 ha hb)
  clear ha hb
  go_wp2_with fail
  refine (P5'.out).mono ?_
  rintro e w11 ⟨rfl, hB11⟩
  have HP11 := Lib.hid (HP10.out.below hB11)
  have HC11 := Lib.hid (HC10.out.below hB11)
  have HD11 := Lib.hid (HD10.out.below hB11)
  have HE11 := Lib.hid (HE10.out.below hB11)
  have HF11 := Lib.hid (HF10.out.below hB11)
  clear a0 a1 a2 b0 b1 b2 hB11 P5'
  obtain ⟨a0, a1, a2, ha, _⟩ := HC11.out
  obtain ⟨b0, b1, b2, hb, _⟩ := HD11.out
  rw [← HCL.out] at a2 b2
  have P6' := Lib.hid (P6.out A7 A9 c7 c9 w11 ha hb)
  clear ha hb
  go_wp2_with fail
  refine (P6'.out).mono ?_
  rintro e w12 ⟨rfl, hB12⟩
  have HP12 := Lib.hid (HP11.out.below hB12)
  have P7' := Lib.hid (P7.out D7 D9 d7 d9 w12 (HE11.out.below hB12) (HF11.out.below hB12))
  clear a0 a1 a2 b0 b1 b2 hB12 P6'
  go_wp2_with fail
  refine (P7'.out).mono ?_
  rintro e w13 ⟨rfl, hB13⟩
  have HP13 := Lib.hid (HP12.out.below hB13)
  clear hB13
  go_wp2_with fail
  refine (awake_any w13).mono ?_
  rintro e w14 ⟨rfl, hB14⟩
  go_wp2
  go_ret
  exact ⟨rfl, HP13.out.bel.trans (hB14.mono HP13.out.bel.size)⟩

theorem turns_walk (m s : Int) (A : Option Addr) (xs : List Ext) (c : Nat) (size : Int) (B : Option Addr) (zs : List Int) (d : Nat) (w : World) (hs : Sees w A (erows xs)) (hin : ∀ e ∈ xs, ExK e) (hb : Ints w B zs) (hz : ∀ z ∈ zs, -9223372036854775808 ≤ z ∧ z ≤ 9223372036854775807)
    (hs0 : -9223372036854775808 ≤ size) (hs1 : size ≤ 9223372036854775807) :
    Calls Try.prog 4 #[iv m s A xs.length c, .int .i64 size, .slice B zs.length d] w fun e w' => e = .returned (.bool true) ∧ Below w.heap.size w w' := by
  by_cases h : 40 < xs.length ∨ 40 < zs.length
  · exact turns_far m s A xs.length c size B zs.length d w h
  · exact turns_near m s A xs c size B zs d w hs hin (by omega) hb hz (by omega) hs0 hs1
end Go.Proofs.Ytkeebkackbkfhaa
