/- slices.AppendSeq, slices.Collect of an inode's blocks, and inode.Blocks. Condition: at most 1000000 extents. -/
import Derived.Test.YtjdpljhhlmcbaaaInoEach
import Derived.Test.YtjdpljhhlmcbaaaKept
import Derived.Test.YtjdpljhhlmcbaaaElem
import Derived.Maps.AppendAt
namespace Go.Proofs.Ytjdpljhhlmcbaaa
open Go.RowKit Go.Shelf Go.Cat Go.Cat.Ino

attribute [local go_sem] Oper.semAt_some

theorem each_stops (n : Nat) (hn : 1 ≤ n) (B Bl : Nat) (A : Option Addr) (xs : List Ext) (c : Nat) (hL : xs.length ≤ 1000000) (w : World) (hBl : Bl < B) (hB : B = w.heap.size) (hd : w.heap[Bl]? = some (.cells #[.slice A xs.length c] 57 (0, 0)))
    (hrow : Sees w A (erows xs)) :
    SeqStopsK Fence.wide n Try.prog 93 #[.pointer (some ⟨Bl, 0, none⟩)] (fun x : Int => #[.int .i64 x]) (KeepE B) (fun ys => ys = blks xs) (fun pre => pre <+: blks xs) (blks xs).length w := fun l J Jx W hW hJ _ hY h0 =>
  each1_in n hn l B Bl A xs c hL J Jx hY W hBl (by rw [hB]; exact hW.size) ((hW.block Bl (by omega)).trans hd) (fun W' h => by subst hB; exact hrow.below (hW.trans h)) hJ h0

/-- Between two rounds: what has come lies in the call's own row. -/
def ColI (Bs : Nat) (w : World) (pre : List Int) (W : World) : Prop :=
  ∃ V, W.heap[Bs]? = some (.cells #[V] 122 (0, 0)) ∧ W.ownsRow (Bs + 1) 3 1 V pre.length (pre.map i64) ∧ Below w.heap.size w W

theorem colI_own (Bs D0 : Nat) (w : World) (hB : w.heap.size ≤ D0) : OwnFrom D0 (ColI Bs w) := by
  intro pre W W' row ⟨V, h1, h2, h3⟩ hg hr
  have hr' : ∀ r, row = some r → ∃ o : Obj, W.heap[r]? = some o ∧ o.isCells = false := fun r e => (hr r e).2
  exact ⟨V, heap_kept' h1 hg hr', own_kept' h2 hg hr', h3.grown hg h3.size (fun k e => by have := (hr k e).1; omega)⟩

theorem col_step {B Bs : Nat} {w W w' : World} {V v2 : Value} {pre : List Int} {x : Int} {o : Obj} (hBB : B ≤ Bs) (hwB : w.heap.size ≤ Bs) (h1 : W.heap[Bs]? = some (.cells #[V] 122 (0, 0))) (h2 : W.ownsRow (Bs + 1) 3 1 V pre.length (pre.map i64)) (h3 : Below w.heap.size w W)
    (hown : w'.ownsRow (Bs + 1) 3 1 v2 (pre.length + 1) (pre.map i64 ++ [i64 x])) (hg : (W.alloc o).grownBy w' V.ownBlock) :
    w'.cell? ⟨Bs, 0, none⟩ = some V ∧ w'.frozen? ⟨Bs, 0, none⟩ = false ∧ (KeepsOthers W (w'.setCell ⟨Bs, 0, none⟩ v2) ∧ KeepE B W (w'.setCell ⟨Bs, 0, none⟩ v2) ∧ ColI Bs w (pre ++ [x]) (w'.setCell ⟨Bs, 0, none⟩ v2)) := by
  have hlt : Bs < W.heap.size := (Array.getElem?_eq_some_iff.1 h1).1
  have hb : Below (Bs + 1) W w' := ((Below.refl _ _).alloc (by omega) o).trans ((Below.refl _ _).own (World.ownsRow.alloc h2 o) hg (by simp; omega) (Nat.le_refl _))
  have g0 : w'.heap[Bs]? = some (.cells #[V] 122 (0, 0)) := (hb.block _ (by omega)).trans h1
  have hty : ∀ (j : Nat) (cs : Array Value) (e : TypeId) (fr : Nat × Nat), W.heap[j]? = some (Obj.cells cs e fr) → e ≠ 3 → w'.heap[j]? = some (Obj.cells cs e fr) := by
    intro j cs e fr hj hne
    have hj1 : (W.alloc o).heap[j]? = some (.cells cs e fr) := (Below.heap_alloc _ _ _ (Array.getElem?_eq_some_iff.1 hj).1).trans hj
    refine (hg.block j (Array.getElem?_eq_some_iff.1 hj1).1 fun hk => ?_).trans hj1
    obtain ⟨cs', fr', hh⟩ := own_typeV (World.ownsRow.alloc h2 o) hk.symm
    rw [hj1] at hh
    injection hh with hh
    injection hh with _ hh
    exact hne hh
  have hk : KeepsOthers W w' := by
    refine (KeepsOthers.alloc W o).trans (KeepsOthers.of_grownBy hg fun j ob hj hob => ?_)
    obtain ⟨cs', fr', hh⟩ := own_typeV (World.ownsRow.alloc h2 o) hj
    rw [hh] at hob
    injection hob with hob
    subst hob
    rfl
  refine ⟨cell_of_row w' _ 0 _ _ _ g0, frozen_of_row w' _ 0 _ _ g0, hk.trans (KeepsOthers.setCell _ _ _), ⟨(hb.mono (by omega)).setCell hBB _, fun j cs fr hj => ?_⟩, ⟨v2, set_block v2 g0, ?_, (h3.trans (hb.mono (by omega))).setCell hwB _⟩⟩
  · have h4 := hty j cs _ fr hj (by decide)
    refine (set_other _ ?_).trans h4
    rintro rfl
    rw [g0] at h4
    injection h4 with h4
    injection h4 with _ h4
    exact absurd h4 (by decide)
  · have := own_touch hown (Tch.set w' Bs 0 v2) (fun k hk e => by have := (hown.lt k hk).1; omega)
    rw [List.map_append, List.length_append]
    exact this

/-- What a slice of ints in new memory is. -/
def NewInts (zs : List Int) (w : World) (e : Ending) (w' : World) : Prop := ∃ A c, e = .returned (.slice A zs.length c) ∧ w'.ownsRow w.heap.size 3 1 (.slice A zs.length c) zs.length (zs.map i64) ∧ Below w.heap.size w w'

set_option maxRecDepth 100000 in
set_option maxHeartbeats 4000000 in
theorem appseq_in (n : Nat) (hn : 3 ≤ n) (Bl : Nat) (A : Option Addr) (xs : List Ext) (c : Nat) (hL : xs.length ≤ 1000000) (w : World) (hBl : Bl < w.heap.size) (hd : w.heap[Bl]? = some (.cells #[.slice A xs.length c] 57 (0, 0))) (hrow : Sees w A (erows xs)) :
    CallsIn Fence.wide n Try.prog 94 #[.slice none 0 0, .func (.func 93) #[] #[.pointer (some ⟨Bl, 0, none⟩)]] w (NewInts (blks xs) w) := by
  have h1 : 1 ≤ n := by omega
  have hbl := blks_length xs
  refine callsIn_of_wp_marks Try.func94 rfl trivial ?_ rfl
  simp only [Try.ntmps94, List.size_toArray, List.length_cons, List.length_nil, Nat.reduceAdd, Nat.reduceSub, Array.replicate_succ, Array.replicate_zero, List.push_toArray, List.append_toArray, List.nil_append, List.cons_append]
  gi_wp2
  have hB1 : Below w.heap.size w (w.alloc (.cells #[.slice none 0 0] 122)) := (Below.refl _ _).alloc (Nat.le_refl _) _
  have h00 : ColI w.heap.size w [] (w.alloc (.cells #[.slice none 0 0] 122)) := ⟨_, heap_alloc_new _ _, World.ownsRow_nil _ _ _ _, hB1⟩
  refine wpIn_rangeFunc_ownF rfl h1 (gf := 93) (lb := #[.pointer (some ⟨Bl, 0, none⟩)]) rfl trivial (enters_of Try.func93 (by kernel_rfl) rfl)
    (each_stops (n - 1) (by omega) w.heap.size Bl A xs c hL w hBl rfl hd hrow) KeepE.trans (KeepE.put (by simp)) hB1 (fun _ => rfl)
    (ColI w.heap.size w) (fun _ _ _ => False) (colI_own w.heap.size _ w (by simp)) (fun _ _ _ _ _ hs _ _ => hs) h00
    (fun x => { tmps := #[.slice none 0 0, .func (.func 93) #[] #[.pointer (some ⟨Bl, 0, none⟩)], .pointer (some ⟨w.heap.size, 0, none⟩), undef, .slice none 0 0, .int .i64 x, .func (.func 93) #[] #[.pointer (some ⟨Bl, 0, none⟩)], .int .i64 x, undef, undef, undef, undef, undef], defers := [] }) ?assign ?body ?done ?stop
  case assign =>
    intro l x W K hK
    gi_wp2
    exact hK
  case body =>
    rintro l pre x W ⟨V, h1, h2, h3⟩ hlt
    obtain ⟨i0, hi, hz0, hz1, hz2⟩ := info_parts info_int
    have c1 : W.cell? ⟨w.heap.size, 0, none⟩ = some V := cell_of_row W _ 0 _ _ _ h1
    have hlt2 : w.heap.size < W.heap.size := (Array.getElem?_eq_some_iff.1 h1).1
    have H1 := Lib.hid h1
    have H2 := Lib.hid h2
    have H3 := Lib.hid h3
    clear h1 h2 h3
    gi_wp2_with (gi_at_builtin; refine wpListIn_append_own _ rfl _ _ 122 rfl (w.heap.size + 1) 3 i0 (.int .i64 0) 1 8 Try.underlying122 hi hz0 hz1 hz2 rfl (by decide) V pre.length (pre.map i64) rfl (World.ownsRow.alloc H2.out _) ⟨W.heap.size, 0, none⟩ 1 1 [i64 x] rfl rfl (cell_one_new _ _ _) (by simp [Value.oneCell', i64]) (by unfold maxLen; omega) (by omega) (by simp; omega) ?_)
    intro v2 w2 hown hgr _
    obtain ⟨d1, d2, hst⟩ := col_step (B := w.heap.size) (x := x) (Nat.le_refl _) (Nat.le_refl _) H1.out H2.out H3.out hown hgr
    obtain ⟨A2, c2, rfl, _, _⟩ := own_full hown
    have HSt := Lib.hid hst
    clear hown hgr hst
    gi_wp2
    exact HSt.out
  case done =>
    rintro D ys W hD rfl ⟨V, h1, h2, h3⟩ hK
    have c1 : W.cell? ⟨w.heap.size, 0, none⟩ = some V := cell_of_row W _ 0 _ _ _ h1
    have HK := Lib.hid hK
    have H2 := Lib.hid h2
    have H3 := Lib.hid h3
    clear hK h1 h2 h3
    gi_wp2
    refine ⟨by simp, .inl ⟨_, _, rfl, run_takeDeferred HK.out, ?_⟩⟩
    have ho := own_kept' H2.out (grownBy_putObj' W D (.deferred none)) (fun r e => by cases e; exact ⟨_, HK.out, rfl⟩)
    have hb : Below w.heap.size w (W.putObj D (.deferred none)) := H3.out.trans (belowK_b (w := w) (Nat.le_refl _) W D _ _ (by simp at hD; omega) HK.out rfl rfl)
    obtain ⟨A2, c2, rfl, _, _⟩ := own_full ho
    exact ⟨_, results_tmp rfl _ _ _, A2, c2, rfl, own_mono ho (Nat.le_succ _), hb⟩
  case stop =>
    rintro D cc pre W _ _ h _
    exact h.elim

theorem collect_in (n : Nat) (hn : 4 ≤ n) (Bl : Nat) (A : Option Addr) (xs : List Ext) (c : Nat) (hL : xs.length ≤ 1000000) (w : World) (hBl : Bl < w.heap.size) (hd : w.heap[Bl]? = some (.cells #[.slice A xs.length c] 57 (0, 0))) (hrow : Sees w A (erows xs)) :
    CallsIn Fence.wide n Try.prog 90 #[.func (.func 93) #[] #[.pointer (some ⟨Bl, 0, none⟩)]] w (NewInts (blks xs) w) := by
  refine callsIn_of_wp Try.func90 rfl trivial ?_ rfl
  simp only [Try.ntmps90, List.size_toArray, List.length_cons, List.length_nil, Nat.reduceAdd, Nat.reduceSub, Array.replicate_succ, Array.replicate_zero, List.push_toArray, List.append_toArray, List.nil_append, List.cons_append]
  have P1 := Lib.hid (appseq_in (n - 1) (by omega) Bl A xs c hL w hBl hd hrow)
  clear hd hrow
  gi_wp2_with fail
  refine ⟨trivial, fun _ => by omega, ?_⟩
  refine (P1.out).mono ?_
  rintro e w1 ⟨A1, c1, rfl, ho, hB⟩
  have HO := Lib.hid ho
  have HB := Lib.hid hB
  clear ho hB
  gi_wp2
  go_ret
  exact ⟨A1, c1, rfl, HO.out, HB.out⟩

/-- An inode's value. -/
abbrev iv (mode size : Int) (A : Option Addr) (n c : Nat) : Value := .agg #[.int .i64 mode, .int .i64 size, .slice A n c]

theorem blocks_any (mode size : Int) (A : Option Addr) (xs : List Ext) (c : Nat) (w : World) (hs : Sees w A (erows xs)) (hL : xs.length ≤ 1000000) :
    Calls Try.prog 78 #[iv mode size A xs.length c] w (NewInts (blks xs) w) := by
  obtain ⟨m, hm⟩ : ∃ m, m = xs.length := ⟨_, rfl⟩
  obtain ⟨W1, hW1⟩ : ∃ W1, W1 = w.alloc (.cells #[.int .i64 mode, .int .i64 size, .slice A m c] 59) := ⟨_, rfl⟩
  have hb1 : Below w.heap.size w W1 := by rw [hW1]; exact (Below.refl _ _).alloc (Nat.le_refl _) _
  have p1 := callsIn_wide.1 (each_in 9 A m c W1)
  have hB2 : Below W1.heap.size W1 (W1.alloc (.cells #[.slice A m c] 57)) := (Below.refl _ _).alloc (Nat.le_refl _) _
  have p2 := callsIn_wide.1 (collect_in 9 (by omega) W1.heap.size A xs c hL (W1.alloc (.cells #[.slice A m c] 57)) (by simp) (by rw [← hm]; exact heap_alloc_new _ _) ((hs.below hb1).below hB2))
  have P1 := Lib.hid p1
  have P2 := Lib.hid p2
  have HW1 := Lib.hid hW1
  have HB := Lib.hid (hb1.trans (hB2.mono hb1.size))
  rw [← hm]
  clear hW1 hb1 hB2 p1 p2 hs hL hm
  go_enter Try.func78, Try.ntmps78
  go_wp2_with fail
  rw [← HW1.out]
  refine (P1.out).mono ?_
  rintro e w2 ⟨rfl, rfl⟩
  go_wp2_with fail
  refine (P2.out).mono ?_
  rintro e w3 ⟨A3, c3, rfl, ho, hB⟩
  have HO := Lib.hid (own_mono ho HB.out.size)
  have HB3 := Lib.hid (HB.out.trans (hB.mono HB.out.size))
  clear ho hB
  go_wp2_with fail
  go_ret
  exact ⟨A3, c3, rfl, HO.out, HB3.out⟩
end Go.Proofs.Ytjdpljhhlmcbaaa
