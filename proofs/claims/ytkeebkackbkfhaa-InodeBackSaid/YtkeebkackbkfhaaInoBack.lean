/- The walk of the law InodeBack: it answers true, whatever comes in. Condition: numbers within their kinds. -/
import Derived.Test.YtkeebkackbkfhaaInoTurns
import Derived.Test.YtkeebkackbkfhaaInoBackV
import Derived.Deep.RegionHeld3
namespace Go.Proofs.Ytkeebkackbkfhaa
open Go.RowKit Go.Shelf Go.Cat Go.Cat.Ino

/-- The law's guard, true: the example alone. -/
theorem back_far (m s : Int) (A : Option Addr) (n c : Nat) (size : Int) (B : Option Addr) (l d : Nat) (w : World) (h : 40 < n ∨ 40 < l) :
    Calls Try.prog 5 #[iv m s A n c, .int .i64 size, .slice B l d] w fun e w' => e = .returned (.bool true) ∧ Below w.heap.size w w' := by
  have hb : Below w.heap.size w (w.alloc (.cells #[.int .i64 m, .int .i64 s, .slice A n c] 32)) := (Below.refl _ _).alloc (Nat.le_refl _) _
  have HB := Lib.hid hb
  clear hb
  by_cases h2 : 40 < l
  · have d0 : decide ((40 : Int) < (l : Int)) = true := by simp; omega
    clear h h2
    go_enter Try.func5, Try.ntmps5
    go_wp2_with fail
    refine (awake_any _).mono ?_
    rintro e w9 ⟨rfl, hB9⟩
    go_wp2
    go_ret
    exact ⟨rfl, HB.out.trans (hB9.mono HB.out.size)⟩
  · have d0 : decide ((40 : Int) < (l : Int)) = false := by simp; omega
    have d1 : decide ((40 : Int) < (n : Int)) = true := by simp; omega
    clear h h2
    go_enter Try.func5, Try.ntmps5
    go_wp2_with fail
    refine (awake_any _).mono ?_
    rintro e w9 ⟨rfl, hB9⟩
    go_wp2
    go_ret
    exact ⟨rfl, HB.out.trans (hB9.mono HB.out.size)⟩

/-- What lasts in the law's last line, besides the boxes' cells. -/
structure BkR (A A2 A7 D B C : Option Addr) (xs gx : List Ext) (zs bz : List Int) (w w' : World) : Prop where
  a : Sees w' A (erows xs)
  g : Sees w' A2 (erows gx)
  c : Sees w' A7 (erows xs)
  d : Ints w' D zs
  b : Ints w' B zs
  e : Ints w' C bz
  bel : Below w.heap.size w w'
theorem BkR.below {A A2 A7 D B C : Option Addr} {xs gx : List Ext} {zs bz : List Int} {w w1 w2 : World} (h : BkR A A2 A7 D B C xs gx zs bz w w1) (hb : Below w1.heap.size w1 w2) : BkR A A2 A7 D B C xs gx zs bz w w2 :=
  ⟨h.a.below hb, h.g.below hb, h.c.below hb, h.d.below hb, h.b.below hb, h.e.below hb, h.bel.trans (hb.mono h.bel.size)⟩
/-- Three boxes, and what lasts. -/
def BkS (P G Cx : Nat) (m s size : Int) (n c gl c2 c7 : Nat) (A A2 A7 D B C : Option Addr) (xs gx : List Ext) (zs bz : List Int) (w w' : World) : Prop :=
  w'.cell? ⟨P, 0, none⟩ = some (.int .i64 m) ∧ w'.cell? ⟨P, 1, none⟩ = some (.int .i64 s) ∧ w'.cell? ⟨P, 2, none⟩ = some (.slice A n c) ∧
  w'.cell? ⟨G, 0, none⟩ = some (.int .i64 m) ∧ w'.cell? ⟨G, 1, none⟩ = some (.int .i64 size) ∧ w'.cell? ⟨G, 2, none⟩ = some (.slice A2 gl c2) ∧
  w'.cell? ⟨Cx, 0, none⟩ = some (.int .i64 m) ∧ w'.cell? ⟨Cx, 1, none⟩ = some (.int .i64 s) ∧ w'.cell? ⟨Cx, 2, none⟩ = some (.slice A7 n c7) ∧
  BkR A A2 A7 D B C xs gx zs bz w w'
section
variable {P G Cx : Nat} {m s size : Int} {n c gl c2 c7 : Nat} {A A2 A7 D B C : Option Addr} {xs gx : List Ext} {zs bz : List Int} {w w1 w2 : World}
theorem BkS.next (h : BkS P G Cx m s size n c gl c2 c7 A A2 A7 D B C xs gx zs bz w w1) (hb : Below w1.heap.size w1 w2) : BkS P G Cx m s size n c gl c2 c7 A A2 A7 D B C xs gx zs bz w w2 := by
  obtain ⟨h0, h1, h2, h3, h4, h5, h6, h7, h8, h9⟩ := h
  have gP : P < w1.heap.size := World.block_lt_of_cell? _ _ h0
  have gG : G < w1.heap.size := World.block_lt_of_cell? _ _ h3
  have gC : Cx < w1.heap.size := World.block_lt_of_cell? _ _ h6
  exact ⟨(hb.cell (p := ⟨P, _, none⟩) gP).trans h0, (hb.cell (p := ⟨P, _, none⟩) gP).trans h1, (hb.cell (p := ⟨P, _, none⟩) gP).trans h2, (hb.cell (p := ⟨G, _, none⟩) gG).trans h3, (hb.cell (p := ⟨G, _, none⟩) gG).trans h4, (hb.cell (p := ⟨G, _, none⟩) gG).trans h5, (hb.cell (p := ⟨Cx, _, none⟩) gC).trans h6, (hb.cell (p := ⟨Cx, _, none⟩) gC).trans h7, (hb.cell (p := ⟨Cx, _, none⟩) gC).trans h8, h9.below hb⟩
theorem BkS.r (h : BkS P G Cx m s size n c gl c2 c7 A A2 A7 D B C xs gx zs bz w w1) : BkR A A2 A7 D B C xs gx zs bz w w1 := h.2.2.2.2.2.2.2.2.2
end

set_option maxRecDepth 100000 in
set_option maxHeartbeats 8000000 in
theorem back_near (m s : Int) (A : Option Addr) (xs : List Ext) (c : Nat) (size : Int) (B : Option Addr) (zs : List Int) (d : Nat) (w : World) (hs : Sees w A (erows xs)) (hin : ∀ e ∈ xs, ExK e) (hn : xs.length ≤ 40) (hb : Ints w B zs) (hz : ∀ z ∈ zs, -9223372036854775808 ≤ z ∧ z ≤ 9223372036854775807) (hl : zs.length ≤ 40)
    (hs0 : -9223372036854775808 ≤ s) (hs1 : s ≤ 9223372036854775807) :
    Calls Try.prog 5 #[iv m s A xs.length c, .int .i64 size, .slice B zs.length d] w fun e w' => e = .returned (.bool true) ∧ Below w.heap.size w w' := by
  have hgl := growV_len (m := m) (s := s) (size := size) (xs := xs) hz
  have p0 := fun W (h : Sees W A (erows xs)) => ours_any m s A xs c W h (by omega)
  have p1 := fun A' c' W (h : Sees W A' (erows xs)) (h' : Ints W B zs) => grow_any m s A' xs c' size B zs d W h hin (by omega) h' hz (by omega) (fun _ => blks_in) (fun h => Nat.le_trans (blks_few h) (by omega))
  have hzz : ∀ z ∈ blks xs ++ zs, -9223372036854775808 ≤ z ∧ z ≤ 9223372036854775807 := fun z h => by rcases List.mem_append.1 h with h | h; exact blks_in z h; exact hz z h
  have hlaw := back_law (m := m) (s := s) (size := size) (xs := xs) hzz
  have hnone := growV_none (m := m) (s := s) (size := size) (xs := xs) (zs := zs)
  obtain ⟨X, hX⟩ : ∃ X, X = growV m s xs size zs := ⟨_, rfl⟩
  rw [← hX] at hgl p1 hlaw hnone
  obtain ⟨⟨gm, gs, gx⟩, ge⟩ := X
  have hgx : gx.length ≤ 8 + zs.length := hgl
  have hgin0 : ge = 0 → ∀ e ∈ gx, ExK e := fun h => by
    have h1 := congrArg (fun X => X.1.2.2) (back_exts hzz (by rw [← hX]; exact h))
    rw [← hX] at h1
    have h2 : gx = exts (blks xs ++ zs) := h1
    rw [h2]
    exact exts_in hzz
  have hge : ge = 0 → gm = m ∧ gs = size ∧ blks gx = blks xs ++ zs ∧ cutV m size gx s = ((m, s, xs), zs, 0) := fun h => by
    obtain ⟨gx', h1, h2, h3⟩ := hlaw h
    injection h1 with h1 _
    injection h1 with e1 h1
    injection h1 with e2 e3
    subst e3
    exact ⟨e1, e2, h2, h3⟩
  have hg0 : ge ≠ 0 → gm = 0 ∧ gs = 0 ∧ gx = [] := fun h => by
    have h1 := hnone h
    injection h1 with e1 h1
    injection h1 with e2 e3
    exact ⟨e1, e2, e3⟩
  obtain ⟨n, hnn⟩ : ∃ n, n = xs.length := ⟨_, rfl⟩
  obtain ⟨l, hll⟩ : ∃ l, l = zs.length := ⟨_, rfl⟩
  obtain ⟨gl, hggl⟩ : ∃ gl, gl = gx.length := ⟨_, rfl⟩
  have P0 : Hid (∀ W, Sees W A (erows xs) → Calls Try.prog 17 #[iv m s A n c] W fun e w' => ∃ A' c', e = .returned (iv m s A' n c') ∧ Sees w' A' (erows xs) ∧ Below W.heap.size W w') := by
    rw [hnn]; exact fun W h => (p0 W h).mono fun e w' h => h
  have P1 : Hid (∀ A' c' W, Sees W A' (erows xs) → Ints W B zs → Calls Try.prog 16 #[iv m s A' n c', .int .i64 size, .slice B l d] W fun e w' => ∃ A' c', e = .returned (.tuple #[iv gm gs A' gl c', .int .i64 ge]) ∧ Sees w' A' (erows gx) ∧ Below W.heap.size W w') := by
    rw [hnn, hll, hggl]; exact fun A' c' W h h' => (p1 A' c' W h h').mono fun e w' h => h.told
  have d0 : decide ((40 : Int) < (l : Int)) = false := by rw [hll]; simp; omega
  have d1 : decide ((40 : Int) < (n : Int)) = false := by rw [hnn]; simp; omega
  obtain ⟨W0, hW0⟩ : ∃ W0, W0 = w.alloc (.cells #[.int .i64 m, .int .i64 s, .slice A n c] 32) := ⟨_, rfl⟩
  have hp0 : IbS w.heap.size m s A xs c w W0 := by rw [hW0, hnn]; exact IbS.new hs
  rw [← hnn, ← hll]
  have HW0 := Lib.hid hW0
  have HP0 := Lib.hid hp0
  have HN := Lib.hid hnn
  have HLL := Lib.hid hll
  have HGL := Lib.hid hggl
  have HI := Lib.hid hb
  have HGe := Lib.hid hge
  have HGin := Lib.hid hgin0
  have HG0 := Lib.hid hg0
  have HIn := Lib.hid hin
  have HXl : Hid (xs.length ≤ 40) := hn
  have HZl : Hid (zs.length ≤ 40) := hl
  have HGx : Hid (gx.length ≤ 8 + zs.length) := hgx
  clear hgl p0 p1 hlaw hnone hX hge hgin0 hg0 hgx hnn hll hggl hW0 hp0 hs hin hn hb hz hl hzz
  go_enter Try.func5, Try.ntmps5
  go_upto_region 1 with (fail)
  rw [← HW0.out]
  obtain ⟨a0, a1, a2, ha, _⟩ := HP0.out
  rw [← HN.out] at a2
  have P0' := Lib.hid (P0.out W0 ha)
  clear ha
  go_wp2_with fail
  refine (P0'.out).mono ?_
  rintro e w1 ⟨A1, c1, rfl, hs1, hB1⟩
  have HP1 := Lib.hid (HP0.out.below hB1)
  have P1' := Lib.hid (P1.out A1 c1 w1 hs1 (HI.out.below HP1.out.bel))
  clear a0 a1 a2 hs1 hB1 P0'
  go_wp2_with fail
  refine (P1'.out).mono ?_
  rintro e w2 ⟨A2, c2, rfl, hs2, hB2⟩
  obtain ⟨W3, hW3⟩ : ∃ W3, W3 = w2.alloc (.cells #[.int .i64 gm, .int .i64 gs, .slice A2 gl c2] 26) := ⟨_, rfl⟩
  have ha3 : IbS w2.heap.size gm gs A2 gx c2 w2 W3 := by rw [hW3, HGL.out]; exact IbS.new hs2
  have HP3 := Lib.hid ((HP1.out.below hB2).below ha3.bel)
  have HA3 := Lib.hid ha3
  have HW3 := Lib.hid hW3
  clear hs2 hB2 P1' ha3 hW3
  go_upto_region 4 with (fail)
  rw [← HW3.out]
  obtain ⟨b0, b1, b2, hb, _⟩ := HA3.out
  rw [← HGL.out] at b2
  by_cases he : ge = 0
  · obtain ⟨e1, e2, e3, e4⟩ := HGe.out he
    have t0 : (ge != 0) = false := by simpa using he
    subst he
    subst e1 e2
    obtain ⟨q, hq⟩ : ∃ q, q = (blks xs).length := ⟨_, rfl⟩
    have hgq : (blks gx).length = q + l := by rw [e3, List.length_append, ← hq, ← HLL.out]
    have hq320 : q ≤ 320 := by rw [hq]; have := blks_length xs; have := HXl.out; omega
    have hl40 : l ≤ 40 := by rw [HLL.out]; exact HZl.out
    have hgin : ∀ e ∈ gx, ExK e := HGin.out rfl
    have p3 := cuti_any gm gs A2 gx c2 s W3 hb hgin (by have := HGx.out; have := HZl.out; omega) hs0 hs1 (fun _ => blks_in) (fun h => Nat.le_trans (blks_few h) (by omega))
    rw [e4, ← HGL.out] at p3
    have P3 : Hid (Calls Try.prog 19 #[iv gm gs A2 gl c2, .int .i64 s] W3 fun e w' => ∃ A' c' D d', e = .returned (.tuple #[iv gm s A' n c', .slice D l d', .int .i64 0]) ∧ Sees w' A' (erows xs) ∧ Ints w' D zs ∧ Below W3.heap.size W3 w') := by
      rw [HN.out, HLL.out]; exact p3.mono fun e w' ⟨A', c', D, d', h1, h2, _, h4, h5⟩ => ⟨A', c', D, d', h1, h2, h4, h5⟩
    have PB : Hid (∀ A' c' W, Sees W A' (erows xs) → Calls Try.prog 15 #[iv gm s A' n c'] W fun e w' => ∃ A9 c9, e = .returned (.slice A9 q c9) ∧ w'.ownsRow W.heap.size 3 1 (.slice A9 q c9) q ((blks xs).map i64) ∧ Below W.heap.size W w') := by
      rw [HN.out, hq]; exact fun A' c' W h => blocks_any gm s A' xs c' W h (by have := HXl.out; omega)
    have PR : Hid (∀ W, Sees W A (erows xs) → Calls Try.prog 21 #[iv gm s A n c] W fun e w' => ∃ A9 c9, e = .returned (.slice A9 q c9) ∧ Ints w' A9 (blks xs) ∧ Below W.heap.size W w') := by
      rw [HN.out, hq]; exact fun W h => (rblocks_any gm s A xs c W h (by have := HXl.out; omega)).mono fun e w' ⟨A9, c9, h1, h2, h3⟩ => ⟨A9, c9, h1, Sees.of_own h2, h3⟩
    have PG : Hid (∀ W, Sees W A2 (erows gx) → Calls Try.prog 15 #[iv gm gs A2 gl c2] W fun e w' => ∃ A9 c9, e = .returned (.slice A9 (q + l) c9) ∧ Ints w' A9 (blks xs ++ zs) ∧ Below W.heap.size W w') := by
      rw [HGL.out, ← hgq, ← e3]; exact fun W h => (blocks_any gm gs A2 gx c2 W h (by have := HGx.out; have := HZl.out; omega)).mono fun e w' ⟨A9, c9, h1, h2, h3⟩ => ⟨A9, c9, h1, Sees.of_own h2, h3⟩
    have PS : Hid (∀ (ys : List Int) (k : Nat), k = ys.length → k ≤ 400 → ∀ B C b b' W, Ints W B ys → Ints W C ys → Calls Try.prog 14 #[.slice B k b, .slice C k b'] W fun e w' => e = .returned (.bool true) ∧ Below W.heap.size W w') := by
      exact fun ys k hk hk4 B C b b' W h1 h2 => by
        subst hk
        exact (sameI_any B C ys.length ys.length b b' ys ys W h1 h2 rfl rfl (by omega) (by omega)).mono fun e w' ⟨h3, q, h4⟩ => ⟨by rw [h3]; simp, by rw [h4]; exact below_drewN (Below.refl _ _) _⟩
    have PS1 := Lib.hid (PS.out (blks xs) q hq (by omega))
    have PS2 := Lib.hid (PS.out zs l HLL.out (by omega))
    have PS3 := Lib.hid (PS.out (blks xs ++ zs) (q + l) (by rw [← e3]; exact hgq.symm) (by omega))
    have PA := Lib.hid (fun W => awake_any W)
    have t1 : (s == s) = true := by simp
    obtain ⟨a0, a1, a2, ha, _⟩ := HP3.out
    rw [← HN.out] at a2
    have HQL : Hid (q + l ≤ 400) := by show _ ≤ _; omega
    clear hb ha p3 e3 e4 hq hgq hgin hq320 hl40 hs0 hs1 HG0 HGe PS
    go_wp2_with fail
    refine (P3.out).mono ?_
    rintro e w7 ⟨A7, c7, D7, d7, rfl, hs7, hi7, hB7⟩
    obtain ⟨W8, hW8⟩ : ∃ W8, W8 = w7.alloc (.cells #[.int .i64 gm, .int .i64 s, .slice A7 n c7] 26) := ⟨_, rfl⟩
    have hc8 : IbS w7.heap.size gm s A7 xs c7 w7 W8 := by rw [hW8, HN.out]; exact IbS.new hs7
    have HP8 := Lib.hid ((HP3.out.below hB7).below hc8.bel)
    have HA8 := Lib.hid ((HA3.out.below hB7).below hc8.bel)
    have HC8 := Lib.hid hc8
    have HD8 := Lib.hid (hi7.below hc8.bel)
    have HW8 := Lib.hid hW8
    clear a0 a1 a2 b0 b1 b2 hs7 hi7 hB7 hc8 hW8 P3
    go_upto_region 7 with (fail)
    rw [← HW8.out]
    obtain ⟨a0, a1, a2, ha, _⟩ := HC8.out
    rw [← HN.out] at a2
    have PB' := Lib.hid (PB.out A7 c7 W8 ha)
    clear ha
    go_wp2_with fail
    refine (PB'.out).mono ?_
    rintro e w9 ⟨A9, c9, rfl, ho9, hB9⟩
    have HO9 := Lib.hid ho9
    have HP9 := Lib.hid (HP8.out.below hB9)
    have HA9 := Lib.hid (HA8.out.below hB9)
    have HC9 := Lib.hid (HC8.out.below hB9)
    have HD9 := Lib.hid (HD8.out.below hB9)
    have HB89 := Lib.hid hB9
    have hsz9 : W8.heap.size ≤ w9.heap.size := hB9.size
    have hPg : w.heap.size < W8.heap.size := World.block_lt_of_cell? _ _ HP8.out.c0
    have hql := HQL.out
    clear a0 a1 a2 ho9 hB9 PB'
    go_wp2_with (at_builtin; refine wpList_app elem_int rfl _ _ rfl W8.heap.size (.slice A9 q c9) q ((blks xs).map i64) rfl HO9.out D7 l d7 (zs.map i64) rfl HD9.out (by simp [HLL.out]) (one_i64 _) (by omega) hsz9 ?_)
    intro v10 w10 hown10 hgr10 _
    obtain ⟨A10, c10, rfl, _, _⟩ := own_full hown10
    have hB10 : Below W8.heap.size w9 w10 := (Below.refl _ _).own HO9.out hgr10 hsz9 (Nat.le_refl _)
    have hst : BkS w.heap.size w2.heap.size w7.heap.size gm s gs n c gl c2 c7 A A2 A7 D7 B A10 xs gx zs (blks xs ++ zs) w w10 := by
      have hPb := HP8.out
      have hAb := HA8.out
      have hCb := HC8.out
      have hB810 : Below W8.heap.size W8 w10 := HB89.out.trans hB10
      have k1 := hPb.below hB810
      have k2 := hAb.below hB810
      have k3 := hCb.below hB810
      have q1 := k1.c2
      have q2 := k2.c2
      have q3 := k3.c2
      rw [← HN.out] at q1 q3
      rw [← HGL.out] at q2
      exact ⟨k1.c0, k1.c1, q1, k2.c0, k2.c1, q2, k3.c0, k3.c1, q3, ⟨k1.row, k2.row, k3.row, HD8.out.below hB810, HI.out.below k1.bel, ints_app hown10, k1.bel⟩⟩
    have HSt := Lib.hid hst
    clear hown10 hgr10 hB10 hst hsz9 hPg hql HO9 HP9 HA9 HC9 HD9 HP8 HA8 HC8 HD8 HA3 HP3 HP1
    go_wp2_with fail
    go_region_held3 (fun w' => w'.cell? ⟨w.heap.size, 0, none⟩ = some (.int .i64 gm) ∧ w'.cell? ⟨w.heap.size, 1, none⟩ = some (.int .i64 s) ∧ w'.cell? ⟨w.heap.size, 2, none⟩ = some (.slice A n c) ∧
        w'.cell? ⟨w2.heap.size, 0, none⟩ = some (.int .i64 gm) ∧ w'.cell? ⟨w2.heap.size, 1, none⟩ = some (.int .i64 gs) ∧ w'.cell? ⟨w2.heap.size, 2, none⟩ = some (.slice A2 gl c2) ∧
        w'.cell? ⟨w7.heap.size, 0, none⟩ = some (.int .i64 gm) ∧ w'.cell? ⟨w7.heap.size, 1, none⟩ = some (.int .i64 s) ∧ w'.cell? ⟨w7.heap.size, 2, none⟩ = some (.slice A7 n c7) ∧
        BkR A A2 A7 D7 B A10 xs gx zs (blks xs ++ zs) w w')
      (first | exact K7.out | exact K6.out | exact K5.out | exact K4.out | exact K3.out | exact K2.out | exact K1.out | exact HSt.out.next ((Below.refl _ _).drew))
      (first
        | (go_at_call 8; refine (PA.out v6).mono ?_; rintro e v7 ⟨rfl, hL7⟩; have K7 := Lib.hid (K6.out.next hL7); clear hL7)
        | (go_at_call 14; refine (PS3'.out).mono ?_; rintro e v6 ⟨rfl, hL6⟩; have K6 := Lib.hid (K5.out.next hL6); clear hL6)
        | (go_at_call 15; refine (PG.out v4 K4.out.r.g).mono ?_; rintro e v5 ⟨E5, d5', rfl, hE5, hL5⟩; have K5 := Lib.hid (K4.out.next hL5); have PS3' := Lib.hid (PS3.out A10 E5 c10 d5' v5 K5.out.r.e hE5); clear hE5 hL5)
        | (go_at_call 14; refine (PS2'.out).mono ?_; rintro e v4 ⟨rfl, hL4⟩; have K4 := Lib.hid (K3.out.next hL4); clear hL4)
        | (go_at_call 14; refine (PS1'.out).mono ?_; rintro e v3 ⟨rfl, hL3⟩; have K3 := Lib.hid (K2.out.next hL3); have PS2' := Lib.hid (PS2.out D7 B d7 d v3 K3.out.r.d K3.out.r.b); clear hL3)
        | (go_at_call 21; refine (PR.out v1 K1.out.r.a).mono ?_; rintro e v2 ⟨E2, d2', rfl, hE2, hL2⟩; have K2 := Lib.hid (K1.out.next hL2); have PS1' := Lib.hid (PS1.out E1 E2 d1' d2' v2 (HE1.out.below hL2) hE2); clear hE2 hL2)
        | (go_at_call 15; refine (PB.out A7 c7 _ (Sees.drew HSt.out.r.c)).mono ?_; rintro e v1 ⟨E1, d1', rfl, ho1, hL1⟩; have HE1 : Hid (Ints v1 E1 (blks xs)) := Sees.of_own ho1; have K1 := Lib.hid (HSt.out.next ((Below.refl _ _).drew.trans hL1)); clear ho1 hL1)
        | fail)
    all_goals
      have hfin := K7.out.r.bel
      go_wp2_with fail
      go_ret
      exact ⟨rfl, hfin⟩
  · obtain ⟨e1, e2, e3⟩ := HG0.out he
    have t0 : (ge != 0) = true := by simpa using he
    subst e1 e2 e3
    have hgl0 : gl = 0 := HGL.out
    subst hgl0
    have P5 := Lib.hid (like_eq 0 0 [] A2 none c2 0 W3 hb (.inl rfl) (by simp))
    have HB3 := Lib.hid HP3.out.bel
    clear hb he
    go_wp2_with fail
    refine (P5.out).mono ?_
    rintro e w5 ⟨rfl, hB5⟩
    have HB5 := Lib.hid (HB3.out.trans (hB5.mono HB3.out.size))
    clear hB5
    go_wp2_with fail
    refine (awake_any w5).mono ?_
    rintro e w9 ⟨rfl, hB9⟩
    go_wp2
    go_ret
    exact ⟨rfl, HB5.out.trans (hB9.mono HB5.out.size)⟩

theorem back_walk (m s : Int) (A : Option Addr) (xs : List Ext) (c : Nat) (size : Int) (B : Option Addr) (zs : List Int) (d : Nat) (w : World) (hs : Sees w A (erows xs)) (hin : ∀ e ∈ xs, ExK e) (hb : Ints w B zs) (hz : ∀ z ∈ zs, -9223372036854775808 ≤ z ∧ z ≤ 9223372036854775807)
    (hs0 : -9223372036854775808 ≤ s) (hs1 : s ≤ 9223372036854775807) :
    Calls Try.prog 5 #[iv m s A xs.length c, .int .i64 size, .slice B zs.length d] w fun e w' => e = .returned (.bool true) ∧ Below w.heap.size w w' := by
  by_cases h : 40 < xs.length ∨ 40 < zs.length
  · exact back_far m s A xs.length c size B zs.length d w h
  · exact back_near m s A xs c size B zs d w hs hin (by omega) hb hz (by omega) hs0 hs1
end Go.Proofs.Ytkeebkackbkfhaa
