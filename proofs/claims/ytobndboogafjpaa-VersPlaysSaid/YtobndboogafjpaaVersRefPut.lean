/- The contract of the reference's Put. Condition: at most 65536 versions. -/
import Derived.Test.YtobndboogafjpaaVersRef
import Derived.Test.YtobndboogafjpaaVersPutOk
import Derived.Deep.RegionHeld3

namespace Go.Proofs.Ytobndboogafjpaa
open Go.RowKit Go.Cat Go.Cat.Vers

/-- Put refuses: the versions are as they were. -/
def RPutNo (A : Option Addr) (n c : Nat) (err : Int) (w : World) (e : Ending) (w' : World) : Prop := e = .returned (.tuple #[.slice A n c, .int .i64 err]) ∧ Below w.heap.size w w'
/-- Put lays the version behind the others, in a new row. -/
def RPutYes (rs : List (Ver × Option Addr × Nat)) (w : World) (e : Ending) (w' : World) : Prop :=
  ∃ A' c', e = .returned (.tuple #[.slice A' rs.length c', .int .i64 0]) ∧ w'.ownsRow w.heap.size 40 3 (.slice A' rs.length c') rs.length (rows rs) ∧ Below w.heap.size w w'

theorem rput_long (A : Option Addr) (n c : Nat) (v : Ver) (Av : Option Addr) (cv : Nat) (w : World) (h : 2048 < v.data.length) (hm : v.data.length ≤ 65536) :
    Calls Try.prog 15 #[.slice A n c, vv v Av cv] w (RPutNo A n c 6 w) := by
  have d : decide ((2048 : Int) < (v.data.length : Int)) = true := by simp; omega
  go_enter Try.func15, Try.ntmps15
  go_wp2
  go_ret2
  exact ⟨rfl, (Below.refl _ _).alloc (Nat.le_refl _) _⟩

theorem rput_arg (A : Option Addr) (n c : Nat) (v : Ver) (Av : Option Addr) (cv : Nat) (w : World) (h : v.data.length ≤ 2048) (h2 : v.ver = 0 ∨ v.seq = 0) :
    Calls Try.prog 15 #[.slice A n c, vv v Av cv] w (RPutNo A n c 1 w) := by
  have d : decide ((2048 : Int) < (v.data.length : Int)) = false := by simp; omega
  by_cases h0 : v.ver = 0
  · have d0 : (v.ver == 0) = true := by simpa using h0
    clear h0 h2
    go_enter Try.func15, Try.ntmps15
    go_wp2
    go_ret2
    exact ⟨rfl, (Below.refl _ _).alloc (Nat.le_refl _) _⟩
  · have d0 : (v.ver == 0) = false := by simpa using h0
    have d1 : (v.seq == 0) = true := by simp; omega
    clear h0 h2
    go_enter Try.func15, Try.ntmps15
    go_wp2
    go_ret2
    exact ⟨rfl, (Below.refl _ _).alloc (Nat.le_refl _) _⟩

theorem field_r0 (v : Ver) (A : Option Addr) (c : Nat) (w : World) : (Instr.field 40 (vv v A c) 0).run Try.prog w = .ok (.int .u64 v.ver) w := by kernel_rfl
theorem field_r1 (v : Ver) (A : Option Addr) (c : Nat) (w : World) : (Instr.field 40 (vv v A c) 1).run Try.prog w = .ok (.int .u64 v.seq) w := by kernel_rfl

/-- The parameter's box and the row, in a later world. -/
def RPutS (H : Nat) (w0 : World) (A : Option Addr) (l : List Ver) (v : Ver) (Av : Option Addr) (cv : Nat) (w w' : World) : Prop :=
  w'.cell? ⟨H, 0, none⟩ = some (.int .u64 v.ver) ∧ w'.cell? ⟨H, 1, none⟩ = some (.int .u64 v.seq) ∧ w'.cell? ⟨H, 2, none⟩ = some (.slice Av v.data.length cv) ∧ VersQ w0 w' A l ∧ Below H w w'
theorem RPutS.next {H : Nat} {w0 : World} {A : Option Addr} {l : List Ver} {v : Ver} {Av : Option Addr} {cv : Nat} {w w1 w2 : World} (h : RPutS H w0 A l v Av cv w w1) (hb : Below w1.heap.size w1 w2) : RPutS H w0 A l v Av cv w w2 := by
  obtain ⟨h0, h1, h2, h3, h4⟩ := h
  have g : H < w1.heap.size := World.block_lt_of_cell? _ _ h0
  exact ⟨(hb.cell (p := ⟨H, _, none⟩) g).trans h0, (hb.cell (p := ⟨H, _, none⟩) g).trans h1, (hb.cell (p := ⟨H, _, none⟩) g).trans h2, h3.below hb, h4.trans (hb.mono (Nat.le_of_lt g))⟩
theorem RPutS.q {H : Nat} {w0 : World} {A : Option Addr} {l : List Ver} {v : Ver} {Av : Option Addr} {cv : Nat} {w w1 : World} (h : RPutS H w0 A l v Av cv w w1) : VersQ w0 w1 A l := h.2.2.2.1
theorem RPutS.bel {H : Nat} {w0 : World} {A : Option Addr} {l : List Ver} {v : Ver} {Av : Option Addr} {cv : Nat} {w w1 : World} (h : RPutS H w0 A l v Av cv w w1) : Below H w w1 := h.2.2.2.2

set_option maxRecDepth 100000 in
set_option maxHeartbeats 2000000 in
theorem rput_state (A : Option Addr) (l : List Ver) (c : Nat) (v : Ver) (Av : Option Addr) (cv : Nat) (w0 w : World) (hv : VersQ w0 w A l) (hl : l.length ≤ 65536) (h : v.data.length ≤ 2048) (h2 : 0 < v.ver) (h3 : 0 < v.seq) (h4 : v.ver < 18446744073709551616)
    (h5 : 0 < l.length ∧ (v.ver - 1 ≠ (l.getLastD zero).ver ∨ v.seq ≤ (l.getLastD zero).seq)) :
    Calls Try.prog 15 #[.slice A l.length c, vv v Av cv] w (RPutNo A l.length c 12 w) := by
  have p1 := fun w' (h : VersQ w0 w' A l) => rlast_any A l c w0 w' h hl
  obtain ⟨u, hu⟩ : ∃ u, u = atV l ((l.length : Int) - 1) := ⟨_, rfl⟩
  have hlast : l.getLastD zero = u := by
    rw [lastD, hu]; unfold atV; rw [if_pos (by omega)]; congr 1; omega
  rw [hlast] at h5
  rw [← hu] at p1
  have hS : RPutS w.heap.size w0 A l v Av cv w (w.alloc (.cells #[.int .u64 v.ver, .int .u64 v.seq, .slice Av v.data.length cv] 40)) := by
    obtain ⟨k0, k1, _, hB⟩ := one_box (w := w) (a := #[.int .u64 v.ver, .int .u64 v.seq, .slice Av v.data.length cv]) (t := 40) (Below.refl _ _)
    exact ⟨(k0 0).trans rfl, (k0 1).trans rfl, (k0 2).trans rfl, hv.below hB, hB⟩
  have HS := Lib.hid hS
  obtain ⟨n, hn⟩ : ∃ n, n = l.length := ⟨_, rfl⟩
  rw [← hn] at p1 hl ⊢
  have hn0 : 0 < n := by omega
  have P1 := Lib.hid p1
  have d : decide ((2048 : Int) < (v.data.length : Int)) = false := by simp; omega
  have d0 : (v.ver == 0) = false := by simp; omega
  have d1 : (v.seq == 0) = false := by simp; omega
  have d4 : decide (0 < n) = true := by simpa using hn0
  have hwu : IntKind.u64.wrap (v.ver - 1) = v.ver - 1 := IntWalk.u64_in _ (by omega)
  have fr0 := field_r0
  have fr1 := field_r1
  clear hn hS p1 hu hlast hv
  by_cases h6 : v.ver - 1 = u.ver
  · have h7 : v.seq ≤ u.seq := by
      rcases h5.2 with h | h
      · exact absurd h6 h
      · exact h
    have d2 : (v.ver - 1 != u.ver) = false := by simpa using h6
    have d3 : decide (v.seq ≤ u.seq) = true := by simpa using h7
    have q2 : (v.ver - 1 = u.ver) = True := eq_true h6
    have q3 : (v.seq ≤ u.seq) = True := eq_true h7
    clear h5 h6 h7
    go_enter Try.func15, Try.ntmps15
    go_wp2_with fail
    go_region_held3 (fun w' => w'.cell? ⟨w.heap.size, 0, none⟩ = some (.int .u64 v.ver) ∧ w'.cell? ⟨w.heap.size, 1, none⟩ = some (.int .u64 v.seq) ∧ w'.cell? ⟨w.heap.size, 2, none⟩ = some (.slice Av v.data.length cv) ∧ VersQ w0 w' A l ∧ Below w.heap.size w w') (first | exact HS.out.next ((Below.refl _ _).drew) | exact RPutS.next (by assumption) hL1 | exact RPutS.next (by assumption) hL2)
      (first
        | (go_at_call 22; refine (P1.out _ (RPutS.q (by assumption))).mono ?_; rintro e wL ⟨AL, cL, rfl, _, hL1⟩))
    all_goals
      rename_i FS
      have hfin := RPutS.bel FS
      clear FS
      go_wp2_with fail
      go_ret2
      exact ⟨rfl, hfin⟩
  · have d2 : (v.ver - 1 != u.ver) = true := by simpa using h6
    have d2' : (v.ver - 1 == u.ver) = false := by simpa using h6
    have q2 : (v.ver - 1 = u.ver) = False := eq_false h6
    clear h5 h6
    go_enter Try.func15, Try.ntmps15
    go_wp2_with fail
    have hq := HS.out.q.below ((Below.refl _ _).drew)
    have HQ := Lib.hid hq
    obtain ⟨c0, c1, c2, _, _⟩ := HS.out
    clear hq
    first | go_region_with (go_at_call 22; refine (P1.out _ HQ.out).mono ?_; rintro e wL ⟨AL, cL, rfl, _, hL1⟩; obtain ⟨k0, k1, k2, _, hB1⟩ := HS.out.next ((Below.refl _ _).drew.trans hL1)) | fail
    all_goals
      have hfin := hB1
      go_wp2_with fail
      go_ret2
      exact ⟨rfl, hfin⟩

theorem info_rver : (Try.prog.info? 40).map (fun i => (i.zero, i.size, i.bytes)) = some (some (.agg #[.int .u64 0, .int .u64 0, .slice none 0 0]), 3, 40) := by kernel_rfl
theorem elem_rver : Elem Try.prog 39 40 (.agg #[.int .u64 0, .int .u64 0, .slice none 0 0]) 3 40 := ⟨Try.underlying39, info_rver, rfl, by decide, by decide⟩

/-- The parameter's box and the row's cells, in a later world. -/
def RPutT (H : Nat) (A : Option Addr) (rs : List (Ver × Option Addr × Nat)) (v : Ver) (Av : Option Addr) (cv : Nat) (w w' : World) : Prop :=
  w'.cell? ⟨H, 0, none⟩ = some (.int .u64 v.ver) ∧ w'.cell? ⟨H, 1, none⟩ = some (.int .u64 v.seq) ∧ w'.cell? ⟨H, 2, none⟩ = some (.slice Av v.data.length cv) ∧ Sees w' A (rows rs) ∧ Below H w w'
section
variable {H : Nat} {w0 : World} {A : Option Addr} {rs : List (Ver × Option Addr × Nat)} {l : List Ver} {v : Ver} {Av : Option Addr} {cv : Nat} {w w1 w2 : World}
theorem RPutT.next (h : RPutT H A rs v Av cv w w1) (hb : Below w1.heap.size w1 w2) : RPutT H A rs v Av cv w w2 := by
  obtain ⟨h0, h1, h2, h3, h4⟩ := h
  have g : H < w1.heap.size := World.block_lt_of_cell? _ _ h0
  exact ⟨(hb.cell (p := ⟨H, _, none⟩) g).trans h0, (hb.cell (p := ⟨H, _, none⟩) g).trans h1, (hb.cell (p := ⟨H, _, none⟩) g).trans h2, h3.below hb, h4.trans (hb.mono (Nat.le_of_lt g))⟩
theorem RPutT.grow (h : RPutT H A rs v Av cv w w1) (hg : w1.grownBy w2 none) : RPutT H A rs v Av cv w w2 := h.next ((Below.refl _ _).grown hg (Nat.le_refl _) (fun k hk => by cases hk))
theorem RPutT.sees (h : RPutT H A rs v Av cv w w1) : Sees w1 A (rows rs) := h.2.2.2.1
theorem RPutT.bel (h : RPutT H A rs v Av cv w w1) : Below H w w1 := h.2.2.2.2
theorem RPutT.size (h : RPutT H A rs v Av cv w w1) : H ≤ w1.heap.size := Nat.le_of_lt (World.block_lt_of_cell? _ _ h.1)
theorem RPutT.size1 (h : RPutT H A rs v Av cv w w1) : H + 1 ≤ w1.heap.size := World.block_lt_of_cell? _ _ h.1
theorem RPutT.own {e : TypeId} {size n : Nat} {x : Value} {xs : List Value} (h : RPutT H A rs v Av cv w w1) (hs : Sees w A (rows rs)) (hH : w.heap.size = H) (ho : w1.ownsRow (H + 1) e size x n xs) (hg : w1.grownBy w2 x.ownBlock) : RPutT H A rs v Av cv w w2 := by
  have hb : Below (H + 1) w1 w2 := (Below.refl _ _).own ho hg h.size1 (Nat.le_refl _)
  obtain ⟨h0, h1, h2, h3, h4⟩ := h
  have h5 := h4.trans (hb.mono (Nat.le_succ _))
  exact ⟨(hb.cell (p := ⟨H, _, none⟩) (Nat.lt_succ_self _)).trans h0, (hb.cell (p := ⟨H, _, none⟩) (Nat.lt_succ_self _)).trans h1, (hb.cell (p := ⟨H, _, none⟩) (Nat.lt_succ_self _)).trans h2, hs.below (by rw [hH]; exact h5), h5⟩
theorem RPutT.mk (h : RPutS H w0 A l v Av cv w w1) (hs : Sees w A (rows rs)) (hH : H = w.heap.size) : RPutT H A rs v Av cv w w1 := by
  obtain ⟨h0, h1, h2, _, h4⟩ := h
  subst hH
  exact ⟨h0, h1, h2, hs.below h4, h4⟩

theorem first_own {base size n : Nat} {e : TypeId} {v : Value} {xs : List Value} (h : w.ownsRow base e size v (0 + n) ([] ++ xs)) : w.ownsRow base e size v n xs := by simpa using h
theorem sees_kept {X w1 : World} {e : TypeId} (xs : List Value) (hg : (X.alloc (.cells xs.toArray e)).drew.grownBy w1 none) : Sees w1 (some ⟨X.heap.size, 0, none⟩) xs :=
  (sees_new X xs e).drew.below ((Below.refl _ _).grown hg (Nat.le_refl _) (fun k hk => by cases hk))
theorem first_own' {base size n : Nat} {e : TypeId} {v : Value} {xs : List Value} (h : w.ownsRow base e size v (0 + n) ([] ++ xs)) (o : Obj) : (w.alloc o).ownsRow base e size v n xs := (first_own h).alloc o
end

theorem rput_fin {rs : List (Ver × Option Addr × Nat)} {w : World} {n : Nat} {r : Ver × Option Addr × Nat} {A2 : Option Addr} {c2 : Nat} {w' : World} (hrl : rs.length = n) (ho : w'.ownsRow (w.heap.size + 1) 40 3 (.slice A2 (n + 1) c2) (n + 1) (rows rs ++ cells r)) (hB : Below w.heap.size w w') :
    RPutYes (rs ++ [r]) w (.returned (.tuple #[.slice A2 (n + 1) c2, .int .i64 0])) w' := by
  have hl : (rs ++ [r]).length = n + 1 := by simp [hrl]
  refine ⟨A2, c2, by rw [hl], ?_, hB⟩
  rw [hl]
  have e : rows (rs ++ [r]) = rows rs ++ cells r := by simp [rows]
  rw [e]
  exact own_mono ho (Nat.le_succ _)

set_option maxRecDepth 100000 in
set_option maxHeartbeats 2000000 in
theorem rput_ok (A : Option Addr) (rs : List (Ver × Option Addr × Nat)) (l : List Ver) (c : Nat) (v : Ver) (Av : Option Addr) (cv : Nat) (w0 w : World) (hrs : rs.map (·.1) = l) (hsee : Sees w A (rows rs)) (hby : ∀ r ∈ rs, Bytes w0 r.2.1 r.1.data) (hl : l.length ≤ 65536) (h : v.data.length ≤ 2048) (h2 : 0 < v.ver) (h3 : 0 < v.seq) (h4 : v.ver < 18446744073709551616)
    (h5 : 0 < l.length → v.ver - 1 = (l.getLastD zero).ver ∧ (l.getLastD zero).seq < v.seq) :
    Calls Try.prog 15 #[.slice A l.length c, vv v Av cv] w (RPutYes (rs ++ [(v, Av, cv)]) w) := by
  have hrl : rs.length = l.length := by rw [← hrs]; simp
  have hv : VersQ w0 w A l := ⟨rs, hrs, hsee, hby⟩
  have hS : RPutS w.heap.size w0 A l v Av cv w (w.alloc (.cells #[.int .u64 v.ver, .int .u64 v.seq, .slice Av v.data.length cv] 40)) := by
    obtain ⟨k0, k1, _, hB⟩ := one_box (w := w) (a := #[.int .u64 v.ver, .int .u64 v.seq, .slice Av v.data.length cv]) (t := 40) (Below.refl _ _)
    exact ⟨(k0 0).trans rfl, (k0 1).trans rfl, (k0 2).trans rfl, hv.below hB, hB⟩
  have HS := Lib.hid hS
  have p1 := fun w' (h : VersQ w0 w' A l) => rlast_any A l c w0 w' h hl
  obtain ⟨n, hn⟩ : ∃ n, n = l.length := ⟨_, rfl⟩
  rw [← hn] at hl ⊢
  have HSee := Lib.hid hsee
  have HN := Lib.hid hn
  have HRL := Lib.hid hrl
  have d : decide ((2048 : Int) < (v.data.length : Int)) = false := by simp; omega
  have d0 : (v.ver == 0) = false := by simp; omega
  have d1 : (v.seq == 0) = false := by simp; omega
  clear hS hv hby hsee hrl hrs
  by_cases hn0 : n = 0
  · subst hn0
    clear p1 hn h5
    go_enter Try.func15, Try.ntmps15
    go_wp2_with fail
    go_quiet (fail)
    go_wp2_with fail
    obtain ⟨X, hX⟩ : ∃ X, X = (w.alloc (.cells #[.int .u64 v.ver, .int .u64 v.seq, .slice Av v.data.length cv] 40)).drewN nq := ⟨_, rfl⟩
    have hT : RPutT w.heap.size A rs v Av cv w X := by rw [hX]; exact (RPutT.mk HS.out HSee.out rfl).next (below_drewN (Below.refl _ _) _)
    have HT := Lib.hid hT
    rw [← hX]
    clear hX hT
    go_region_held3 (fun w' => w'.cell? ⟨w.heap.size, 0, none⟩ = some (.int .u64 v.ver) ∧ w'.cell? ⟨w.heap.size, 1, none⟩ = some (.int .u64 v.seq) ∧ w'.cell? ⟨w.heap.size, 2, none⟩ = some (.slice Av v.data.length cv) ∧ Sees w' A (rows rs) ∧ Below w.heap.size w w')
      (first | exact RPutT.next HT.out ((Below.refl _ _).drew) | exact RPutT.own (by assumption) HSee.out rfl (by first | exact hown1 | exact hown1.alloc _) hg2 | exact RPutT.grow (by assumption) hg1 | exact RPutT.next (by assumption) ((Below.refl _ _).alloc (Nat.le_refl _) _))
      (first
        | (refine step_app elem_rver (by rfl) (.tmp 42) (.tmp 44) (by rfl) (w.heap.size + 1) (.slice A1 0 c1) 0 (rows rs) (by rfl) (by first | exact hown1 | exact hown1.alloc _) (some ⟨_, 0, none⟩) 1 1 (cells (v, Av, cv)) (by rfl) (by first | exact sees_new _ _ _ | exact sees_kept (cells (v, Av, cv)) hg1) rfl (one_cells _) (by omega) (RPutT.size1 (by assumption)) ?_; intro v2 w2 hown2 hg2 _; obtain ⟨A2, c2, rfl, _, _⟩ := own_full hown2)
        | (refine step_app elem_rver (by rfl) (.const (.slice none 0 0)) (.tmp 41) (by rfl) (w.heap.size + 1) (.slice none 0 0) 0 [] (by rfl) (World.ownsRow_nil _ _ _ _) A 0 c (rows rs) (by rfl) (RPutT.sees (by assumption)) (by rw [rows_length, HRL.out, ← HN.out]) (one_rows _) (by omega) (RPutT.size1 (by assumption)) ?_; intro v1 w1 hown1' hg1 _; have hown1 := first_own hown1'; clear hown1'; obtain ⟨A1, c1, rfl, _, _⟩ := own_full hown1)
        | fail)
    all_goals
      rename_i FS
      have hfin := RPutT.bel FS
      clear FS
      go_wp2_with fail
      go_ret2
      exact rput_fin (by rw [HRL.out, ← HN.out]) hown2 hfin
  · obtain ⟨u, hu⟩ : ∃ u, u = atV l ((l.length : Int) - 1) := ⟨_, rfl⟩
    have hlast : l.getLastD zero = u := by
      rw [lastD, hu]; unfold atV; rw [if_pos (by omega)]; congr 1; omega
    have h6 := h5 (by omega)
    rw [hlast] at h6
    rw [← hu, ← hn] at p1
    have P1 := Lib.hid p1
    have d4 : decide (0 < n) = true := by simp; omega
    have hwu : IntKind.u64.wrap (v.ver - 1) = v.ver - 1 := IntWalk.u64_in _ (by omega)
    have fr0 := field_r0
    have fr1 := field_r1
    have d2 : (v.ver - 1 != u.ver) = false := by simpa using h6.1
    have d3 : decide (v.seq ≤ u.seq) = false := by simpa using h6.2
    have q2 : (v.ver - 1 = u.ver) = True := eq_true h6.1
    have q3 : (v.seq ≤ u.seq) = False := eq_false (by have := h6.2; omega)
    clear p1 hn h5 h6 hu hlast
    go_enter Try.func15, Try.ntmps15
    go_wp2_with fail
    go_region_held3 (fun w' => w'.cell? ⟨w.heap.size, 0, none⟩ = some (.int .u64 v.ver) ∧ w'.cell? ⟨w.heap.size, 1, none⟩ = some (.int .u64 v.seq) ∧ w'.cell? ⟨w.heap.size, 2, none⟩ = some (.slice Av v.data.length cv) ∧ VersQ w0 w' A l ∧ Below w.heap.size w w') (first | exact HS.out.next ((Below.refl _ _).drew) | exact RPutS.next (by assumption) hL1 | exact RPutS.next (by assumption) hL2)
      (first
        | (go_at_call 22; refine (P1.out _ (RPutS.q (by assumption))).mono ?_; rintro e wL ⟨AL, cL, rfl, _, hL1⟩))
    all_goals
      rename_i FS0
      have FS : RPutS w.heap.size w0 A l v Av cv w _ := FS0
      have HFS := Lib.hid FS
      clear FS0 FS
    go_wp2_with fail
    go_region_held3 (fun w' => w'.cell? ⟨w.heap.size, 0, none⟩ = some (.int .u64 v.ver) ∧ w'.cell? ⟨w.heap.size, 1, none⟩ = some (.int .u64 v.seq) ∧ w'.cell? ⟨w.heap.size, 2, none⟩ = some (.slice Av v.data.length cv) ∧ Sees w' A (rows rs) ∧ Below w.heap.size w w')
      (first | exact (RPutT.mk HFS.out HSee.out rfl).next ((Below.refl _ _).drew) | exact RPutT.own (by assumption) HSee.out rfl (by first | exact hown1 | exact hown1.alloc _) hg2 | exact RPutT.grow (by assumption) hg1 | exact RPutT.next (by assumption) ((Below.refl _ _).alloc (Nat.le_refl _) _))
      (first
        | (refine step_app elem_rver (by rfl) (.tmp 42) (.tmp 44) (by rfl) (w.heap.size + 1) (.slice A1 n c1) n (rows rs) (by rfl) (by first | exact hown1 | exact hown1.alloc _) (some ⟨_, 0, none⟩) 1 1 (cells (v, Av, cv)) (by rfl) (by first | exact sees_new _ _ _ | exact sees_kept (cells (v, Av, cv)) hg1) rfl (one_cells _) (by omega) (RPutT.size1 (by assumption)) ?_; intro v2 w2 hown2 hg2 _; obtain ⟨A2, c2, rfl, _, _⟩ := own_full hown2)
        | (refine step_app elem_rver (by rfl) (.const (.slice none 0 0)) (.tmp 41) (by rfl) (w.heap.size + 1) (.slice none 0 0) 0 [] (by rfl) (World.ownsRow_nil _ _ _ _) A n c (rows rs) (by rfl) (RPutT.sees (by assumption)) (by rw [rows_length, HRL.out, ← HN.out]) (one_rows _) (by omega) (RPutT.size1 (by assumption)) ?_; intro v1 w1 hown1' hg1 _; have hown1 := first_own hown1'; clear hown1'; obtain ⟨A1, c1, rfl, _, _⟩ := own_full hown1)
        | fail)
    all_goals
      rename_i FT
      have hfin := RPutT.bel FT
      clear FT
      go_wp2_with fail
      go_ret2
      exact rput_fin (by rw [HRL.out, ← HN.out]) hown2 hfin
end Go.Proofs.Ytobndboogafjpaa
