/- The contract of Put where it lays a version. -/
import Derived.Test.YtobndboogafjpaaVersPut
import Derived.Test.YtobndboogafjpaaElem
import Derived.OneCell
namespace Go.Proofs.Ytobndboogafjpaa
open Go.RowKit Go.Cat Go.Cat.Vers

theorem info_ver : (Try.prog.info? 29).map (fun i => (i.zero, i.size, i.bytes)) = some (some (.agg #[.int .u64 0, .int .u64 0, .slice none 0 0]), 3, 40) := by kernel_rfl
theorem elem_ver : Elem Try.prog 50 29 (.agg #[.int .u64 0, .int .u64 0, .slice none 0 0]) 3 40 := ⟨Try.underlying50, info_ver, rfl, by decide, by decide⟩
theorem one_rows (rs : List (Ver × Option Addr × Nat)) : ∀ u ∈ rows rs, u.oneCell' = true := by
  intro u hu
  simp only [rows, List.mem_flatMap] at hu
  obtain ⟨r, _, hr⟩ := hu
  simp [cells] at hr
  rcases hr with rfl | rfl | rfl <;> rfl

theorem one_cells (r : Ver × Option Addr × Nat) : ∀ u ∈ cells r, u.oneCell' = true := by
  intro u hu
  simp [cells] at hu
  rcases hu with rfl | rfl | rfl <;> rfl

/-- Put lays the version behind the others. -/
def ToldPut (base g : Nat) (R : Value) (l : List Ver) (v : Ver) (w : World) (e : Ending) (w' : World) : Prop :=
  e = .returned (.int .i64 0) ∧ ∃ R', HoldV base g R' w' (l ++ [v]) ∧ (R'.ownBlock = R.ownBlock ∨ ∃ k, R'.ownBlock = some k ∧ w.heap.size ≤ k) ∧ Tch (Mine g R) w w'

/-- What the last step of Put needs, behind the callee and the new row. -/
theorem put_mid {base g : Nat} {R : Value} {l : List Ver} {v : Ver} {wr w1 : World} {A1 : Option Addr} {c1 : Nat} (hb : HoldV base g R wr l) (hB : Below wr.heap.size wr w1) (hbase : base ≤ wr.heap.size)
    (ho : w1.ownsRow wr.heap.size 5 1 (.slice A1 v.data.length c1) v.data.length (v.data.map by8)) :
    ∃ rs, rs.map (·.1) = l ∧ (w1.alloc (.cells #[.int .u64 v.ver, .int .u64 v.seq, .slice A1 v.data.length c1] 29)).ownsRow base 29 3 R l.length (rows rs) ∧
      Hid (∀ v' w', w'.ownsRow base 29 3 v' (l.length + 1) (rows rs ++ cells (v, A1, c1)) → (w1.alloc (.cells #[.int .u64 v.ver, .int .u64 v.seq, .slice A1 v.data.length c1] 29)).grownBy w' R.ownBlock → (v'.ownBlock = R.ownBlock ∨ v'.ownBlock = some (w1.alloc (.cells #[.int .u64 v.ver, .int .u64 v.seq, .slice A1 v.data.length c1] 29)).heap.size) →
        w'.cell? ⟨g, 0, none⟩ = some R ∧ w'.frozen? ⟨g, 0, none⟩ = false ∧ HoldV base g v' (w'.setCell ⟨g, 0, none⟩ v') (l ++ [v]) ∧ (v'.ownBlock = R.ownBlock ∨ ∃ k, v'.ownBlock = some k ∧ wr.heap.size ≤ k) ∧ Tch (Mine g R) wr (w'.setCell ⟨g, 0, none⟩ v')) := by
  obtain ⟨rs, hrs, hrow, hdat⟩ := (hb.below hB).row
  have hb1 := hb.below hB
  refine ⟨rs, hrs, hrow.alloc _, Lib.hid ?_⟩
  intro v' w' hown hg hnb
  have hgl : g < wr.heap.size := hb.lt
  have hgl1 : g < w1.heap.size := hb1.lt
  have hW : (w1.alloc (.cells #[.int .u64 v.ver, .int .u64 v.seq, .slice A1 v.data.length c1] 29)).heap[g]? = some (.cells #[R] 63 (0, 0)) := (Below.heap_alloc _ _ _ hgl1).trans hb1.cell
  have hTg : Tch (fun k => R.ownBlock = some k) (w1.alloc (.cells #[.int .u64 v.ver, .int .u64 v.seq, .slice A1 v.data.length c1] 29)) w' := ⟨hg.os, hg.tape, hg.output, hg.size, fun k hk hn => hg.block k hk fun e => hn e.symm⟩
  have hT1 : Tch (fun k => R.ownBlock = some k) w1 w' := (Tch.of_below ((Below.refl _ _).alloc (Nat.le_refl _) _)).trans hTg
  have off : ∀ {X : World} {u : Value} {n : Nat} {xs : List Value} {t : TypeId} {k : Nat} {cs : Array Value} {fr : Nat × Nat}, X.ownsRow base 29 3 u n xs → X.heap[k]? = some (.cells cs t fr) → t ≠ 29 → u.ownBlock ≠ some k := by
    intro X u n xs t k cs fr ho hk ht e
    rcases ho.2 with ⟨rfl, _⟩ | ⟨g', cap, cur, rfl, _, hh, _⟩
    · cases e
    · injection e with e
      subst e
      rw [hh] at hk
      injection hk with hk
      injection hk with _ hk
      exact ht hk.symm
  have hRg : R.ownBlock ≠ some g := off hrow hb1.cell (by decide)
  have hw'g : w'.heap[g]? = some (.cells #[R] 63 (0, 0)) := (hT1.block g hgl1 hRg).trans hb1.cell
  have hv'g : v'.ownBlock ≠ some g := off hown hw'g (by decide)
  have hT2 : Tch (fun k => k = g) w' (w'.setCell ⟨g, 0, none⟩ v') := ⟨rfl, rfl, rfl, by simp [World.setCell], fun k _ hn => Below.heap_setCell _ _ _ _ hn⟩
  have hT3 : Tch (Mine g R) w1 (w'.setCell ⟨g, 0, none⟩ v') := (hT1.mono fun k _ h => .inr h).trans (hT2.mono fun k _ h => .inl h)
  refine ⟨by rw [cell_of_row w' g 0 _ _ _ hw'g]; rfl, frozen_of_row w' g 0 _ _ hw'g, ⟨hb.low, one_setCell hw'g, rs ++ [(v, A1, c1)], by simp [hrs], ?_, ?_⟩, ?_, ?_⟩
  · have := own_touch hown hT2 (fun k hk e => hv'g (by rw [hk, e]))
    rw [rows_append]
    simpa [rows] using this
  · intro r hr
    rcases List.mem_append.1 hr with hr | hr
    · exact (hdat r hr).touch hT3 (hb1.data_off (by decide) (by decide))
    · simp at hr
      subst hr
      exact (Held.of_own (own_mono ho hbase)).touch hT3 (hb1.data_off (by decide) (by decide))
  · rcases hnb with h | h
    · exact .inl h
    · exact .inr ⟨_, h, by have := hB.size; simp; omega⟩
  · exact (Tch.of_below hB).trans hT3

set_option maxRecDepth 100000 in
set_option maxHeartbeats 2000000 in
theorem put_ok (base g : Nat) (R : Value) (l : List Ver) (v : Ver) (A : Option Addr) (c : Nat) (w : World) (hb : HoldV base g R w l) (hl : l.length ≤ 65536) (h : v.data.length ≤ 2048) (hdv : Bytes w A v.data) (h2 : 0 < v.ver) (h3 : 0 < v.seq) (h4 : v.ver < 18446744073709551616)
    (h5 : 0 < l.length → v.ver - 1 = (l.getLastD zero).ver ∧ (l.getLastD zero).seq < v.seq) (hbase : base ≤ w.heap.size) :
    Calls Try.prog 9 #[.pointer (some ⟨g, 0, none⟩), .agg #[.int .u64 v.ver, .int .u64 v.seq, .slice A v.data.length c]] w (ToldPut base g R l v w) := by
  rcases hb.blk with ⟨h, _⟩ | ⟨g', A', c', hg, hc, hlc, hv⟩
  · cases h
  injection hg with hg
  injection hg with hg
  subst hg
  have hgl := World.block_lt_of_cell? w _ hc
  have hR : R = .slice A' l.length c' := by
    have := cell_of_row w g 0 _ _ _ hb.cell
    rw [hc] at this
    simpa using this.symm
  have HR := Lib.hid hR
  have hcA := fun o => (World.cell?_alloc_lt w o ⟨g, 0, none⟩ hgl).trans hc
  have d : decide ((2048 : Int) < (v.data.length : Int)) = false := by simp; omega
  have d0 : (v.ver == 0) = false := by simp; omega
  have d1 : (v.seq == 0) = false := by simp; omega
  have HB := Lib.hid hb
  have HC := Lib.hid hc
  by_cases hl0 : l.length = 0
  · have d4 : decide (0 < l.length) = false := by simp [hl0]
    clear hv hc h5 hl0 hb hR
    go_enter Try.func9, Try.ntmps9
    go_wp2
    go_quiet (fail)
    go_wp2
    obtain ⟨wr, hwr⟩ : ∃ wr, wr = (w.alloc (.cells #[.int .u64 v.ver, .int .u64 v.seq, .slice A v.data.length c] 29)).drewN nq := ⟨_, rfl⟩
    have hBr : Below w.heap.size w wr := by rw [hwr]; exact below_drewN ((Below.refl _ _).alloc (Nat.le_refl _) _) _
    obtain ⟨k0, k1, hsz, _⟩ := one_box (w := w) (w1 := wr) (a := #[.int .u64 v.ver, .int .u64 v.seq, .slice A v.data.length c]) (t := 29) (by rw [hwr]; exact below_drewN (Below.refl _ _) _)
    have hbr := (HB.out).below hBr
    have hdr := hdv.below hBr
    have hcg := (hBr.cell (p := ⟨g, 0, none⟩) hgl).trans HC.out
    have hglr : g < wr.heap.size := Nat.lt_of_lt_of_le hgl hBr.size
    have hdlen : v.data.length ≤ 65536 := Nat.le_trans h (by decide)
    have hbaser : base ≤ wr.heap.size := Nat.le_trans hbase hBr.size
    rw [← hwr]
    have HBr := Lib.hid hbr
    clear hwr hcA hbr
    go_region_law (first
      | (go_simp; go_at_call 29; refine (own_any A v.data.length c v _ (hdr.below (Below.refl _ _).drew) rfl hdlen).mono ?_; rintro e w1 ⟨A1, c1, rfl, hown1, hbel1⟩; obtain ⟨rs, hrs, hrow, hmid⟩ := put_mid (HBr.out) (below_undrew hbel1) hbaser hown1; have hcg1 := ((below_undrew hbel1).cell (p := ⟨g, 0, none⟩) hglr).trans hcg; have hgl1 : g < w1.heap.size := Nat.lt_of_lt_of_le hglr (below_undrew hbel1).size; have hcg2 := fun o => (World.cell?_alloc_lt w1 o ⟨g, 0, none⟩ hgl1).trans hcg1)
      | (refine step_app elem_ver rfl (.tmp 63) (.tmp 66) rfl base R l.length (rows rs) HR.out.symm hrow (some ⟨w1.heap.size, 0, none⟩) 1 1 (cells (v, A1, c1)) rfl (sees_new _ _ _) rfl (one_cells _) (by omega) (by have := hbel1.size; simp at this ⊢; omega) ?_; intro v2 w2 hown2 hg2 hnb2; obtain ⟨hc2, hf2, hh2, hn2, ht2⟩ := hmid.out v2 w2 hown2 hg2 hnb2; obtain ⟨A2, c2, rfl, _, _⟩ := own_full hown2))
    all_goals
      go_wp2
      go_ret
      exact ⟨rfl, _, hh2, hn2.imp id (fun ⟨k, h1, h2⟩ => ⟨k, h1, Nat.le_trans hBr.size h2⟩), (Tch.of_below hBr).trans ht2⟩
  · obtain ⟨n, hn⟩ : ∃ n, l.length = n + 1 := ⟨l.length - 1, by omega⟩
    obtain ⟨b, off, A1, c1, rfl, hbs, e0, e1, e2, hd⟩ := hv.at_ (k := n) (by omega)
    obtain ⟨u, hu⟩ : ∃ u, u = l[n]'(by omega) := ⟨_, rfl⟩
    have hlast : l.getLastD zero = u := by
      rw [hu, List.getLastD_eq_getLast?, List.getLast?_eq_getElem?]
      simp [hn]
    rw [← hu] at e0 e1
    rw [hlast] at h5
    have h6 := h5 (by omega)
    have E0 := fun o => (World.cell?_alloc_lt w o _ hbs).trans e0
    have E1 := fun o => (World.cell?_alloc_lt w o _ hbs).trans e1
    have hn2 : n ≤ 65536 := by omega
    have d4 : decide (0 < n + 1) = true := by simp
    have hwr : IntKind.i64.wrap (n : Int) = n := IntWalk.i64_in _ (by omega)
    have hwu : IntKind.u64.wrap (v.ver - 1) = v.ver - 1 := IntWalk.u64_in _ (by omega)
    have hnI : (n : Int) < (n : Int) + 1 := by omega
    have hnI0 : (0 : Int) ≤ (n : Int) := by omega
    have d2 : (v.ver - 1 == u.ver) = true := by simpa using h6.1
    have d3 : decide (v.seq ≤ u.seq) = false := by simpa using h6.2
    have q2 : (v.ver - 1 = u.ver) = True := eq_true h6.1
    have q3 : (v.seq ≤ u.seq) = False := eq_false (by have := h6.2; omega)
    have HN := Lib.hid hn
    rw [hn] at hcA hlc
    clear h6 h5 hl0 hv hc hb e0 e1 e2 hd hlast hu hR hl
    go_enter Try.func9, Try.ntmps9
    go_wp2
    go_quiet (fail)
    go_wp2
    rw [hn] at HR HC
    obtain ⟨wr, hwr⟩ : ∃ wr, wr = (w.alloc (.cells #[.int .u64 v.ver, .int .u64 v.seq, .slice A v.data.length c] 29)).drewN nq := ⟨_, rfl⟩
    have hBr : Below w.heap.size w wr := by rw [hwr]; exact below_drewN ((Below.refl _ _).alloc (Nat.le_refl _) _) _
    obtain ⟨k0, k1, hsz, _⟩ := one_box (w := w) (w1 := wr) (a := #[.int .u64 v.ver, .int .u64 v.seq, .slice A v.data.length c]) (t := 29) (by rw [hwr]; exact below_drewN (Below.refl _ _) _)
    have hbr := (HB.out).below hBr
    have hdr := hdv.below hBr
    have hcg := (hBr.cell (p := ⟨g, 0, none⟩) hgl).trans HC.out
    have hglr : g < wr.heap.size := Nat.lt_of_lt_of_le hgl hBr.size
    have hdlen : v.data.length ≤ 65536 := Nat.le_trans h (by decide)
    have hbaser : base ≤ wr.heap.size := Nat.le_trans hbase hBr.size
    rw [← hwr]
    have HBr := Lib.hid hbr
    clear hwr hcA hbr
    go_region_law (first
      | (go_simp; go_at_call 29; refine (own_any A v.data.length c v _ (hdr.below (Below.refl _ _).drew) rfl hdlen).mono ?_; rintro e w1 ⟨A1, c1, rfl, hown1, hbel1⟩; obtain ⟨rs, hrs, hrow, hmid⟩ := put_mid (HBr.out) (below_undrew hbel1) hbaser hown1; have hcg1 := ((below_undrew hbel1).cell (p := ⟨g, 0, none⟩) hglr).trans hcg; have hgl1 : g < w1.heap.size := Nat.lt_of_lt_of_le hglr (below_undrew hbel1).size; have hcg2 := fun o => (World.cell?_alloc_lt w1 o ⟨g, 0, none⟩ hgl1).trans hcg1)
      | (refine step_app elem_ver rfl (.tmp 63) (.tmp 66) rfl base R l.length (rows rs) HR.out.symm hrow (some ⟨w1.heap.size, 0, none⟩) 1 1 (cells (v, A1, c1)) rfl (sees_new _ _ _) rfl (one_cells _) (by omega) (by have := hbel1.size; simp at this ⊢; omega) ?_; intro v2 w2 hown2 hg2 hnb2; obtain ⟨hc2, hf2, hh2, hn2, ht2⟩ := hmid.out v2 w2 hown2 hg2 hnb2; obtain ⟨A2, c2, rfl, _, _⟩ := own_full hown2))
    all_goals
      go_wp2
      go_ret
      rw [HN.out] at hh2 hn2 ht2
      exact ⟨rfl, _, hh2, hn2.imp id (fun ⟨k, h1, h2⟩ => ⟨k, h1, Nat.le_trans hBr.size h2⟩), (Tch.of_below hBr).trans ht2⟩
end Go.Proofs.Ytobndboogafjpaa
