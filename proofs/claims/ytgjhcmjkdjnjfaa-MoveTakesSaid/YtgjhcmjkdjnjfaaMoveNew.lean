/- The contract of New. Condition: at most 65536 bytes. -/
import Derived.Test.YtgjhcmjkdjnjfaaMoveOut
import Derived.Test.YtgjhcmjkdjnjfaaRound
import Derived.RegionTactic
namespace Go.Cat
open Go.RowKit
theorem heap_kept {W W' : World} {row : Option Nat} {k : Nat} {cs : Array Value} {t : TypeId} {fr : Nat × Nat} (h : W.heap[k]? = some (.cells cs t fr)) (hg : W.grownBy W' row) (hr : ∀ r, row = some r → ∃ o : Obj, W.heap[r]? = some o ∧ o.isCells = false) : W'.heap[k]? = some (.cells cs t fr) := by
  refine (hg.block k (Array.getElem?_eq_some_iff.1 h).1 fun e => ?_).trans h
  obtain ⟨o, ho, hc⟩ := hr k e.symm
  rw [h] at ho
  injection ho with ho
  subst ho
  simp [Obj.isCells] at hc
theorem own_kept {W W' : World} {row : Option Nat} {base size n : Nat} {e : TypeId} {v : Value} {xs : List Value} (h : W.ownsRow base e size v n xs) (hg : W.grownBy W' row) (hr : ∀ r, row = some r → ∃ o : Obj, W.heap[r]? = some o ∧ o.isCells = false) : W'.ownsRow base e size v n xs := by
  refine ⟨h.1, ?_⟩
  rcases h.2 with h2 | ⟨g, cap, cur, hv, hb, hh, r⟩
  · exact .inl h2
  · exact .inr ⟨g, cap, cur, hv, hb, heap_kept hh hg hr, r⟩
end Go.Cat
namespace Go.Proofs.Ytgjhcmjkdjnjfaa
open Go.RowKit Go.Shelf Go.Cat Go.Cat.Move

attribute [local go_sem] Oper.semAt_some

theorem chunk_in (F : Fence) (n : Nat) (h22 : F.fn 22) (hro : F.round = none) (A : Option Addr) (L c : Nat) (w : World) :
    CallsIn F n Try.prog 22 #[.slice A L c, .int .i64 1024] w fun e w' => e = .returned (.func (.func 25) #[] #[.pointer (some ⟨w.heap.size, 0, none⟩), .pointer (some ⟨w.heap.size + 1, 0, none⟩)]) ∧
      w' = (w.alloc (.cells #[.slice A L c] 23)).alloc (.cells #[.int .i64 1024] 3) := by
  refine callsIn_of_wp Try.func22 rfl h22 ?_ hro
  simp only [Try.ntmps22, List.size_toArray, List.length_cons, List.length_nil, Nat.reduceAdd, Nat.reduceSub, Array.replicate_succ, Array.replicate_zero, List.push_toArray, List.append_toArray, List.nil_append, List.cons_append]
  gi_wp2
  go_ret
  exact ⟨rfl, rfl⟩

/-- What a round must keep: the two boxes of the iterator. -/
def KeepB (B1 B2 : Nat) (W W' : World) : Prop := W'.heap[B1]? = W.heap[B1]? ∧ W'.heap[B2]? = W.heap[B2]?
theorem KeepB.trans {B1 B2 : Nat} {X Y Z : World} (h : KeepB B1 B2 X Y) (k : KeepB B1 B2 Y Z) : KeepB B1 B2 X Z := ⟨k.1.trans h.1, k.2.trans h.2⟩
theorem KeepB.put {B1 B2 : Nat} {w : World} (h1 : B1 < w.heap.size) (h2 : B2 < w.heap.size) (W : World) (l : Nat) (o o' : Obj) (hl : w.heap.size ≤ l) (_ : W.heap[l]? = some o) (_ : o.isCells = false) (_ : o.isWalk = false) : KeepB B1 B2 W (W.putObj l o') :=
  ⟨World.putObj_heap_other (by omega), World.putObj_heap_other (by omega)⟩

theorem chunk_stops (F : Fence) (n : Nat) (h25 : F.fn 25) (hro : F.round = none) (hn : 1 ≤ n) (B1 B2 : Nat) (A : Option Addr) (g L c : Nat) (hA : 0 < L → A = some ⟨g, 0, none⟩) (hL : L ≤ c) (hc : c ≤ maxLen) (hreach : L ≤ 1099511627776) (w : World)
    (hb1 : Boxed w B1 23 (.slice A L c)) (hb2 : Boxed w B2 3 (.int .i64 1024)) :
    SeqStopsK F n Try.prog 25 #[.pointer (some ⟨B1, 0, none⟩), .pointer (some ⟨B2, 0, none⟩)] (fun x : Nat × Nat => #[partV g x]) (KeepB B1 B2) (fun ys => ys = cupto L (ccount L)) (fun pre => ∃ k, k ≤ ccount L ∧ pre = cupto L k) (ccount L) w := fun l J Jx W hW hJ _ hY h0 =>
  chunk1_in F n h25 hro hn l B1 B2 A g L c hA hL hc hreach J Jx hY W ((hW.block B1 hb1.lt).trans hb1) ((hW.block B2 hb2.lt).trans hb2) hJ h0

theorem info_bytes : (Try.prog.info? 23).map (fun i => (i.zero, i.size, i.bytes)) = some (some (.slice none 0 0), 1, 24) := by kernel_rfl
theorem elem_bytes : Elem Try.prog 40 23 (.slice none 0 0) 1 24 := ⟨Try.underlying40, info_bytes, rfl, by decide, by decide⟩
theorem one_partV (g : Nat) (l : List (Nat × Nat)) : ∀ u ∈ l.map (partV g), u.oneCell' = true := by intro u hu; simp at hu; obtain ⟨a, b, _, rfl⟩ := hu; rfl

/-- Between two rounds: what has come lies in the picture's row. -/
def NewI (w : World) (wl : World) (at_ : Int) (gb : Nat) (pre : List (Nat × Nat)) (W : World) : Prop :=
  ∃ V, W.heap[w.heap.size]? = some (.cells #[.int .u64 at_, V] 55 (0, 0)) ∧ Boxed W (w.heap.size + 1) 25 (.pointer (some ⟨w.heap.size, 0, none⟩)) ∧
    W.ownsRow wl.heap.size 23 1 V pre.length (pre.map (partV gb)) ∧ (∀ cs t fr, wl.heap[gb]? = some (.cells cs t fr) → W.heap[gb]? = some (.cells cs t fr)) ∧ (Below w.heap.size w W ∧ wl.heap.size ≤ W.heap.size)

theorem newI_own (w wl : World) (at_ : Int) (gb : Nat) (hB : w.heap.size ≤ wl.heap.size) : OwnFrom wl.heap.size (NewI w wl at_ gb) := by
  intro pre W W' row ⟨V, h1, h2, h3, h4, h5, h6⟩ hg hr
  have hr' : ∀ r, row = some r → ∃ o : Obj, W.heap[r]? = some o ∧ o.isCells = false := fun r e => (hr r e).2
  exact ⟨V, heap_kept h1 hg hr', heap_kept h2 hg hr', own_kept h3 hg hr', fun cs t fr h => heap_kept (h4 cs t fr h) hg hr', h5.grown hg h5.size (fun k e => by have := (hr k e).1; omega), Nat.le_trans h6 hg.size⟩

theorem put_cells {W : World} {D : Nat} {o o' : Obj} (h : W.heap[D]? = some o) (hc : o.isCells = false) : ∀ k cs t fr, (0 : Nat) ≤ k → W.heap[k]? = some (.cells cs t fr) → (W.putObj D o').heap[k]? = W.heap[k]? := by
  intro k cs t fr _ hk
  refine World.putObj_heap_other ?_
  rintro rfl
  rw [h] at hk
  injection hk with hk
  subst hk
  simp [Obj.isCells] at hc
theorem out_nil {t : TypeId} {base g r : Nat} {at_ : Int} {bs : List UInt8} {w : World} {e : TypeId} (h0 : bs.length = 0) (h1 : w.heap[g]? = some (.cells #[.int .u64 at_, .slice (some ⟨r, 0, none⟩) 1 1] t (0, 0))) (h2 : w.heap[r]? = some (.cells #[.slice none 0 0] e (0, 0))) (hg : base ≤ g) (hr : base ≤ r) : OutB t base at_ bs g w := by
  refine ⟨some ⟨r, 0, none⟩, 1, [(none, 0, [])], hg, h1, Nat.le_refl _, ?_, ?_, ?_⟩
  · unfold chunks; rw [if_pos h0]; rfl
  · refine .inr ⟨r, 0, hr, rfl, fun j u hj => ?_⟩
    rw [Nat.zero_add, cell_of_row w r j _ _ _ h2]
    simpa [pval] using hj
  · intro x hx
    simp at hx
    subst hx
    exact .inl rfl
theorem no_defer {ops : Array Oper} (h : (ops.all fun o => match o.op with | .defer _ => false | _ => true) = true) : ∀ (i : Nat) (o : Oper), ops[i]? = some o → ∀ c, o.op ≠ .defer c := by
  intro i o ho c hc
  have := Array.all_eq_true_iff_forall_mem.1 h o (Array.mem_of_getElem? ho)
  rw [hc] at this
  cases this

/-- A round's step: what the append and the store leave. -/
theorem new_step {w wl W w' : World} {at_ : Int} {gb : Nat} {V v2 : Value} {pre : List (Nat × Nat)} {x : Nat × Nat} {o : Obj} (h1 : W.heap[w.heap.size]? = some (.cells #[.int .u64 at_, V] 55 (0, 0))) (h2 : Boxed W (w.heap.size + 1) 25 (.pointer (some ⟨w.heap.size, 0, none⟩))) (h3 : W.ownsRow wl.heap.size 23 1 V pre.length (pre.map (partV gb)))
    (h4 : ∀ cs t fr, wl.heap[gb]? = some (.cells cs t fr) → W.heap[gb]? = some (.cells cs t fr)) (h5 : Below w.heap.size w W) (h6 : wl.heap.size ≤ W.heap.size) (hs : w.heap.size + 1 < wl.heap.size) (hown : w'.ownsRow wl.heap.size 23 1 v2 (pre.length + 1) (pre.map (partV gb) ++ [partV gb x])) (hg : (W.alloc o).drew.grownBy w' V.ownBlock) :
    w'.cell? ⟨w.heap.size + 1, 0, none⟩ = some (.pointer (some ⟨w.heap.size, 0, none⟩)) ∧ w'.cell? ⟨w.heap.size, 1, none⟩ = some V ∧ w'.frozen? ⟨w.heap.size, 1, none⟩ = false ∧
      (KeepsFrom wl.heap.size W (w'.setCell ⟨w.heap.size, 1, none⟩ v2) ∧ (∀ k, k < wl.heap.size → k ≠ w.heap.size → (w'.setCell ⟨w.heap.size, 1, none⟩ v2).heap[k]? = W.heap[k]?) ∧ ((gb < wl.heap.size ∧ gb ≠ w.heap.size) ∨ (∀ cs t fr, wl.heap[gb]? ≠ some (.cells cs t fr)) → NewI w wl at_ gb (pre ++ [x]) (w'.setCell ⟨w.heap.size, 1, none⟩ v2))) := by
  have hb : Below wl.heap.size W w' := ((Below.refl _ _).alloc h6 o).drew.trans ((Below.refl _ _).own (World.ownsRow.alloc h3 o) hg (by simp; omega) (Nat.le_refl _))
  have g0 : w'.heap[w.heap.size]? = some (.cells #[.int .u64 at_, V] 55 (0, 0)) := (hb.block _ (by omega)).trans h1
  have g1 : w'.heap[w.heap.size + 1]? = some (.cells #[.pointer (some ⟨w.heap.size, 0, none⟩)] 25 (0, 0)) := (hb.block _ hs).trans h2
  have hk : KeepsFrom wl.heap.size W w' := by
    refine ((KeepsOthers.alloc W o).trans (KeepsOthers.drew _)).from _ |>.trans ?_
    refine (KeepsOthers.of_grownBy hg fun j ob hj hob => ?_).from _
    rcases h3.2 with ⟨rfl, _⟩ | ⟨g', cap, cur, rfl, _, hh, _⟩
    · cases hj
    · simp only [Value.ownBlock, Option.some.injEq] at hj
      subst hj
      have h7 : (W.alloc o).drew.heap[g']? = some (.cells cur 23 (0, 0)) := (Below.heap_alloc _ _ _ (Array.getElem?_eq_some_iff.1 hh).1).trans hh
      rw [h7] at hob
      injection hob with hob
      subst hob
      rfl
  refine ⟨cell_of_row w' _ 0 _ _ _ g1, cell_of_row w' _ 1 _ _ _ g0, frozen_of_row w' _ 1 _ _ g0, hk.trans ((KeepsOthers.setCell _ _ _).from _), fun k h1 h2 => (set_other _ h2).trans (hb.block k h1), fun hgb => ?_⟩
  have hv2 : v2.ownBlock ≠ some w.heap.size := by
    intro e
    rcases hown.2 with ⟨rfl, _⟩ | ⟨g', cap, cur, rfl, hb', _, _⟩
    · cases e
    · simp only [Value.ownBlock, Option.some.injEq] at e
      omega
  refine ⟨v2, set_block v2 g0, (set_other _ (by omega)).trans g1, ?_, fun cs t fr h => ?_, (h5.trans (hb.mono (by omega))).setCell (Nat.le_refl _) _, by have := hb.size; simp [World.setCell]; omega⟩
  · have := ownsRow_setCell_other hown (a := ⟨w.heap.size, 1, none⟩) hv2 v2
    rw [List.map_append, List.length_append]
    exact this
  · rcases hgb with ⟨ha, hb2⟩ | hb2
    · rw [set_other _ hb2, hb.block gb ha]; exact h4 cs t fr h
    · exact absurd h (hb2 cs t fr)

set_option maxRecDepth 100000 in
set_option maxHeartbeats 8000000 in
theorem new_in (n : Nat) (hn : 3 ≤ n) (at_ : Int) (A : Option Addr) (bs : List UInt8) (c : Nat) (w : World)
    (hby : Bytes w A bs) (hL : bs.length ≤ 65536) :
    CallsIn Fence.wide n Try.prog 8 #[.int .u64 at_, .slice A bs.length c] w fun e w' => e = .returned (.pointer (some ⟨w.heap.size, 0, none⟩)) ∧ OutB 55 w.heap.size at_ bs w.heap.size w' ∧ Below w.heap.size w w' := by
  have h1 : 1 ≤ n := by omega
  refine callsIn_of_wp_marks Try.func8 rfl trivial ?_ rfl
  simp only [Try.ntmps8, List.size_toArray, List.length_cons, List.length_nil, Nat.reduceAdd, Nat.reduceSub, Array.replicate_succ, Array.replicate_zero, List.push_toArray, List.append_toArray, List.nil_append, List.cons_append]
  gi_wp2_with fail
  refine ⟨trivial, ?_⟩
  refine (callsIn_wide.2 (clone_any A bs.length c bs _ (hby.below (((Below.refl _ _).alloc (Nat.le_refl _) _).alloc (by simp) _)) rfl (by omega))).mono ?_
  rintro e w1 ⟨A1, c1, rfl, hown, hB1⟩
  obtain ⟨hlc, hcm⟩ : bs.length ≤ c1 ∧ c1 ≤ maxLen := by
    obtain ⟨A', c', hv, h2, h3⟩ := own_full hown
    injection hv with _ _ hv
    subst hv
    exact ⟨h2, h3⟩
  obtain ⟨gb, hgb⟩ : ∃ gb, 0 < bs.length → A1 = some ⟨gb, 0, none⟩ ∧ gb < w1.heap.size ∧ w.heap.size + 1 < gb ∧ ∃ cs, w1.heap[gb]? = some (.cells cs 5 (0, 0)) ∧ ∀ j u, (bs.map by8)[j]? = some u → w1.cell? ⟨gb, 0 + j, none⟩ = some u := by
    have hse := ownN_sees hown
    rcases hown.2 with ⟨_, h0⟩ | ⟨g, cap, cur, hv, hbg, hh, _⟩
    · exact ⟨0, fun h => by omega⟩
    · injection hv with hv _ _
      refine ⟨g, fun hpos => ⟨hv, (Array.getElem?_eq_some_iff.1 hh).1, by simp at hbg; omega, cur, hh, ?_⟩⟩
      rcases hse with hse | ⟨b, off, hA, hc⟩
      · have := congrArg List.length hse; simp at this; rw [this] at hpos; simp at hpos
      · rw [hv] at hA
        injection hA with hA
        injection hA with hA1 hA2
        subst hA1 hA2
        exact hc
  obtain ⟨k0, k1, k2, k3, hsz, hBw⟩ := two_boxes hB1
  have q0 : w1.heap[w.heap.size]? = some (.cells #[.int .u64 at_, .slice none 0 0] 55 (0, 0)) := by
    rw [hB1.block _ (by simp; omega)]
    exact (Below.heap_alloc _ _ _ (by simp)).trans (heap_alloc_new w _)
  have q1 : w1.heap[w.heap.size + 1]? = some (.cells #[.pointer (some ⟨w.heap.size, 0, none⟩)] 25 (0, 0)) := by
    rw [hB1.block _ (by simp)]
    have := heap_alloc_new (w.alloc (.cells #[.int .u64 at_, .slice none 0 0] 55)) (.cells #[.pointer (some ⟨w.heap.size, 0, none⟩)] 25)
    simpa using this
  have HQ0 := Lib.hid q0
  have HQ1 := Lib.hid q1
  have HOwn := Lib.hid hown
  have HGb := Lib.hid hgb
  clear q0 q1 hown hgb k0 k1 k2 k3 hB1
  gi_wp2_with (refine ⟨trivial, ?_⟩; gi_at_call 22; refine (chunk_in Fence.wide (n - 1) trivial rfl _ _ _ _).mono ?_; rintro e w' ⟨rfl, rfl⟩)
  obtain ⟨wl, hwl⟩ : ∃ wl, wl = (w1.alloc (.cells #[.slice A1 bs.length c1] 23)).alloc (.cells #[.int .i64 1024] 3) := ⟨_, rfl⟩
  rw [← hwl]
  have hls : wl.heap.size = w1.heap.size + 1 + 1 := by rw [hwl]; simp
  have hb1 : Boxed wl w1.heap.size 23 (.slice A1 bs.length c1) := by rw [hwl]; exact (Boxed.new _ _ _).alloc _
  have hb2 : Boxed wl (w1.heap.size + 1) 3 (.int .i64 1024) := by
    rw [hwl]
    have := Boxed.new (w1.alloc (.cells #[.slice A1 bs.length c1] 23)) 3 (.int .i64 1024)
    simpa using this
  have hBl : Below w1.heap.size w1 wl := by rw [hwl]; exact ((Below.refl _ _).alloc (Nat.le_refl _) _).alloc (by simp) _
  have hBwl : Below w.heap.size w wl := hBw.trans (hBl.mono hBw.size)
  have p0 := (hBl.block _ (by omega : w.heap.size < w1.heap.size)).trans HQ0.out
  have p1 : Boxed wl (w.heap.size + 1) 25 (.pointer (some ⟨w.heap.size, 0, none⟩)) := (hBl.block _ hsz).trans HQ1.out
  have h00 : NewI w wl at_ gb [] wl := ⟨_, p0, p1, World.ownsRow_nil _ _ _ _, fun _ _ _ h => h, hBwl, Nat.le_refl _⟩
  have HLs := Lib.hid hls
  have HBl := Lib.hid hBl
  have HBwl := Lib.hid hBwl
  have hle1 : w1.heap.size + 1 < wl.heap.size := by omega
  clear hwl hls hBl p0 p1 hBw
  refine wpIn_rangeFunc_ownG rfl h1 (gf := 25) (lb := #[.pointer (some ⟨w1.heap.size, 0, none⟩), .pointer (some ⟨w1.heap.size + 1, 0, none⟩)]) rfl trivial (enters_of Try.func25 (by kernel_rfl) rfl)
    (chunk_stops Fence.wide (n - 1) trivial rfl (by omega) w1.heap.size (w1.heap.size + 1) A1 gb bs.length c1 (fun h => (HGb.out h).1) hlc hcm (by omega) wl hb1 hb2) KeepB.trans (KeepB.put (by omega) hle1) (Below.refl _ _) (fun _ => rfl)
    (NewI w wl at_ gb) (fun _ _ _ => False) (newI_own w wl at_ gb hBwl.size) (fun _ _ _ _ _ hs _ _ => hs) h00
    (fun x => { tmps := #[.int .u64 at_, .slice A bs.length c, undef, undef, .pointer none, .pointer (some ⟨w.heap.size + 1, 0, none⟩), partV gb x, .int .u64 at_, .agg #[.int .u64 at_, .slice none 0 0], .pointer (some ⟨w.heap.size, 0, none⟩), .slice A bs.length c, .slice A1 bs.length c1, .func (.func 25) #[] #[.pointer (some ⟨w1.heap.size, 0, none⟩), .pointer (some ⟨w1.heap.size + 1, 0, none⟩)], partV gb x, undef, undef, undef, undef, undef, undef, undef, undef, undef, undef, undef, undef, undef, undef, undef, undef, undef, undef, undef, undef, undef, undef, undef, undef, undef, undef], defers := [] }) ?assign ?body ?done ?stop
  case assign =>
    intro l x W K hK
    gi_wp2
    exact hK
  case body =>
    rintro l pre x W ⟨V, h1, h2, h3, h4, h5, h6⟩ hlt
    obtain ⟨Ao, co, rfl, hm1, hm2⟩ := own_full h3
    have hpl : pre.length ≤ 65 := by have : ccount bs.length ≤ 65 := by unfold ccount; omega
                                     omega
    have c1 := h2.cell
    have c2 : W.cell? ⟨w.heap.size, 1, none⟩ = some (.slice Ao pre.length co) := cell_of_row W _ 1 _ _ _ h1
    have hgl : gb < wl.heap.size ∧ gb ≠ w.heap.size := by
      have h0 : 0 < bs.length := by unfold ccount at hlt; omega
      obtain ⟨_, g2, g3, _⟩ := HGb.out h0
      omega
    have E1 := fun o => (World.cell?_alloc_lt W o ⟨w.heap.size + 1, 0, none⟩ h2.lt).trans c1
    have E2 := fun o => (World.cell?_alloc_lt W o ⟨w.heap.size, 1, none⟩ (Array.getElem?_eq_some_iff.1 h1).1).trans c2
    have hls2 : w.heap.size + 1 < wl.heap.size := by omega
    have H1 := Lib.hid h1
    have H2 := Lib.hid h2
    have H3 := Lib.hid h3
    have H4 := Lib.hid h4
    have H5 := Lib.hid h5
    have H6 := h6
    clear h1 h2 h3 h4 h5 h6
    gi_wp2
    refine region_round (by kernel_rfl) (no_defer (by kernel_rfl)) (fun h => by obtain ⟨_, _, h⟩ := h; exact h) ?_
    refine wpAny_take (i := 5) (v := ?_) rfl (by kernel_rfl) (by kernel_rfl) (by kernel_rfl) (fun _ _ _ h => h) (Or.inl ⟨by rfl, ?_⟩) ?_
    rotate_left
    · (intro wq; go_simp; try with_reducible rfl)
    refine wpAny_take (i := 6) (v := ?_) rfl (by kernel_rfl) (by kernel_rfl) (by kernel_rfl) (fun _ _ _ h => h) (Or.inl ⟨by rfl, ?_⟩) ?_
    rotate_left
    · (intro wq; go_simp; try with_reducible rfl)
    refine wpAny_take (i := 7) (v := ?_) rfl (by kernel_rfl) (by kernel_rfl) (by kernel_rfl) (fun _ _ _ h => h) (Or.inl ⟨by rfl, ?_⟩) ?_
    rotate_left
    · (intro wq; go_simp; try with_reducible rfl)
    refine wpAny_take (i := 8) (v := ?_) rfl (by kernel_rfl) (by kernel_rfl) (by kernel_rfl) (fun _ _ _ h => h) (Or.inl ⟨by rfl, ?_⟩) ?_
    rotate_left
    · (intro wq; go_simp; try with_reducible rfl)
    refine wpAny_take (i := 9) (v := ?_) rfl (by kernel_rfl) (by kernel_rfl) (by kernel_rfl) (fun _ _ _ h => h) (Or.inl ⟨by rfl, ?_⟩) ?_
    rotate_left
    · (intro wq; go_simp; try with_reducible rfl)
    refine wpAny_take (i := 10) (v := ?_) rfl (by kernel_rfl) (by kernel_rfl) (by kernel_rfl) (fun _ _ _ h => h) (Or.inl ⟨by rfl, ?_⟩) ?_
    rotate_left
    · (intro wq; go_simp; try with_reducible rfl)
    refine wpAny_ready (rs := [0, 1, 11]) (by kernel_rfl) (by simp) ?_
    refine AllReady.cons rfl (fun K hK => ?_) ?_
    · go_simp
      refine hK _ _ ?_
      clear hK K
      refine wpAny_ready (rs := [1, 11]) (by kernel_rfl) (by simp) ?_
      refine AllReady.cons rfl (fun K hK => ?_) ?_
      · go_simp
        refine hK _ _ ?_
        clear hK K
        refine wpAny_take (i := 2) (v := ?_) rfl (by kernel_rfl) (by kernel_rfl) (by kernel_rfl) (fun _ _ _ h => h) (Or.inl ⟨by rfl, ?_⟩) ?_
        rotate_left
        · (intro wq; go_simp; try with_reducible rfl)
        refine wpAny_take (i := 3) (v := ?_) rfl (by kernel_rfl) (by kernel_rfl) (by kernel_rfl) (fun _ _ _ h => h) (Or.inl ⟨by rfl, ?_⟩) ?_
        rotate_left
        · (intro wq; go_simp; try with_reducible rfl)
        refine wpAny_ready (rs := [4, 11]) (by kernel_rfl) (by simp) ?_
        refine AllReady.cons rfl (fun K hK => ?_) ?_
        · go_simp
          refine hK _ _ ?_
          clear hK K
          refine wpAny_ready (rs := [11]) (by kernel_rfl) (by simp) ?_
          refine AllReady.cons rfl (fun K hK => ?_) ?_
          · go_simp
            refine hK _ _ ?_
            clear hK K
            refine wpAny_ready (rs := [12]) (by kernel_rfl) (by simp) ?_
            refine AllReady.cons rfl (fun K hK => ?_) ?_
            · refine step_app elem_bytes rfl (.tmp 18) (.tmp 25) rfl wl.heap.size (.slice Ao pre.length co) pre.length (pre.map (partV gb)) rfl (World.ownsRow.alloc H3.out _) (some ⟨W.heap.size, 0, none⟩) 1 1 [partV gb x] rfl (sees_new W [partV gb x] _) rfl (by simp [Value.oneCell']) (by omega) (by simp; omega) ?_; intro v2 w2 hown2 hg2 _; obtain ⟨d1, d2, f2, hst⟩ := new_step H1.out H2.out H3.out H4.out H5.out H6 hls2 hown2 hg2; obtain ⟨A2, co2, rfl, hm3, hm4⟩ := own_full hown2; have HSt := Lib.hid hst; clear hown2 hg2 hst
              refine hK _ _ ?_
              clear hK K
              refine wpAny_take (i := 13) (v := ?_) rfl (by kernel_rfl) (by kernel_rfl) (by kernel_rfl) (fun _ _ _ h => h) (Or.inl ⟨by rfl, ?_⟩) ?_
              rotate_left
              · (intro wq; go_simp; try with_reducible rfl)
              refine wpAny_take (i := 14) (v := ?_) rfl (by kernel_rfl) (by kernel_rfl) (by kernel_rfl) (fun _ _ _ h => h) (Or.inl ⟨by rfl, ?_⟩) ?_
              rotate_left
              · (intro wq; go_simp; try with_reducible rfl)
              refine wpAny_ready (rs := [15]) (by kernel_rfl) (by simp) ?_
              refine AllReady.cons rfl (fun K hK => ?_) ?_
              · go_simp
                refine hK _ _ ?_
                clear hK K
                refine wpAny_done (by kernel_rfl) ?_ _
                exact ⟨HSt.out.1, ⟨HSt.out.2.1 _ (by omega) (by omega), HSt.out.2.1 _ hle1 (by omega)⟩, HSt.out.2.2 (.inl hgl)⟩
              exact AllReady.nil
            exact AllReady.nil
          exact AllReady.nil
        refine AllReady.cons rfl (fun K hK => ?_) ?_
        · go_simp
          refine hK _ _ ?_
          clear hK K
          refine wpAny_ready (rs := [4]) (by kernel_rfl) (by simp) ?_
          refine AllReady.cons rfl (fun K hK => ?_) ?_
          · go_simp
            refine hK _ _ ?_
            clear hK K
            refine wpAny_ready (rs := [12]) (by kernel_rfl) (by simp) ?_
            refine AllReady.cons rfl (fun K hK => ?_) ?_
            · refine step_app elem_bytes rfl (.tmp 18) (.tmp 25) rfl wl.heap.size (.slice Ao pre.length co) pre.length (pre.map (partV gb)) rfl (World.ownsRow.alloc H3.out _) (some ⟨W.heap.size, 0, none⟩) 1 1 [partV gb x] rfl (sees_new W [partV gb x] _) rfl (by simp [Value.oneCell']) (by omega) (by simp; omega) ?_; intro v2 w2 hown2 hg2 _; obtain ⟨d1, d2, f2, hst⟩ := new_step H1.out H2.out H3.out H4.out H5.out H6 hls2 hown2 hg2; obtain ⟨A2, co2, rfl, hm3, hm4⟩ := own_full hown2; have HSt := Lib.hid hst; clear hown2 hg2 hst
              refine hK _ _ ?_
              clear hK K
              refine wpAny_take (i := 13) (v := ?_) rfl (by kernel_rfl) (by kernel_rfl) (by kernel_rfl) (fun _ _ _ h => h) (Or.inl ⟨by rfl, ?_⟩) ?_
              rotate_left
              · (intro wq; go_simp; try with_reducible rfl)
              refine wpAny_take (i := 14) (v := ?_) rfl (by kernel_rfl) (by kernel_rfl) (by kernel_rfl) (fun _ _ _ h => h) (Or.inl ⟨by rfl, ?_⟩) ?_
              rotate_left
              · (intro wq; go_simp; try with_reducible rfl)
              refine wpAny_ready (rs := [15]) (by kernel_rfl) (by simp) ?_
              refine AllReady.cons rfl (fun K hK => ?_) ?_
              · go_simp
                refine hK _ _ ?_
                clear hK K
                refine wpAny_done (by kernel_rfl) ?_ _
                exact ⟨HSt.out.1, ⟨HSt.out.2.1 _ (by omega) (by omega), HSt.out.2.1 _ hle1 (by omega)⟩, HSt.out.2.2 (.inl hgl)⟩
              exact AllReady.nil
            exact AllReady.nil
          exact AllReady.nil
        exact AllReady.nil
      refine AllReady.cons rfl (fun K hK => ?_) ?_
      · go_simp
        refine hK _ _ ?_
        clear hK K
        refine wpAny_ready (rs := [1]) (by kernel_rfl) (by simp) ?_
        refine AllReady.cons rfl (fun K hK => ?_) ?_
        · go_simp
          refine hK _ _ ?_
          clear hK K
          refine wpAny_take (i := 2) (v := ?_) rfl (by kernel_rfl) (by kernel_rfl) (by kernel_rfl) (fun _ _ _ h => h) (Or.inl ⟨by rfl, ?_⟩) ?_
          rotate_left
          · (intro wq; go_simp; try with_reducible rfl)
          refine wpAny_take (i := 3) (v := ?_) rfl (by kernel_rfl) (by kernel_rfl) (by kernel_rfl) (fun _ _ _ h => h) (Or.inl ⟨by rfl, ?_⟩) ?_
          rotate_left
          · (intro wq; go_simp; try with_reducible rfl)
          refine wpAny_ready (rs := [4]) (by kernel_rfl) (by simp) ?_
          refine AllReady.cons rfl (fun K hK => ?_) ?_
          · go_simp
            refine hK _ _ ?_
            clear hK K
            refine wpAny_ready (rs := [12]) (by kernel_rfl) (by simp) ?_
            refine AllReady.cons rfl (fun K hK => ?_) ?_
            · refine step_app elem_bytes rfl (.tmp 18) (.tmp 25) rfl wl.heap.size (.slice Ao pre.length co) pre.length (pre.map (partV gb)) rfl (World.ownsRow.alloc H3.out _) (some ⟨W.heap.size, 0, none⟩) 1 1 [partV gb x] rfl (sees_new W [partV gb x] _) rfl (by simp [Value.oneCell']) (by omega) (by simp; omega) ?_; intro v2 w2 hown2 hg2 _; obtain ⟨d1, d2, f2, hst⟩ := new_step H1.out H2.out H3.out H4.out H5.out H6 hls2 hown2 hg2; obtain ⟨A2, co2, rfl, hm3, hm4⟩ := own_full hown2; have HSt := Lib.hid hst; clear hown2 hg2 hst
              refine hK _ _ ?_
              clear hK K
              refine wpAny_take (i := 13) (v := ?_) rfl (by kernel_rfl) (by kernel_rfl) (by kernel_rfl) (fun _ _ _ h => h) (Or.inl ⟨by rfl, ?_⟩) ?_
              rotate_left
              · (intro wq; go_simp; try with_reducible rfl)
              refine wpAny_take (i := 14) (v := ?_) rfl (by kernel_rfl) (by kernel_rfl) (by kernel_rfl) (fun _ _ _ h => h) (Or.inl ⟨by rfl, ?_⟩) ?_
              rotate_left
              · (intro wq; go_simp; try with_reducible rfl)
              refine wpAny_ready (rs := [15]) (by kernel_rfl) (by simp) ?_
              refine AllReady.cons rfl (fun K hK => ?_) ?_
              · go_simp
                refine hK _ _ ?_
                clear hK K
                refine wpAny_done (by kernel_rfl) ?_ _
                exact ⟨HSt.out.1, ⟨HSt.out.2.1 _ (by omega) (by omega), HSt.out.2.1 _ hle1 (by omega)⟩, HSt.out.2.2 (.inl hgl)⟩
              exact AllReady.nil
            exact AllReady.nil
          exact AllReady.nil
        exact AllReady.nil
      exact AllReady.nil
    refine AllReady.cons rfl (fun K hK => ?_) ?_
    · go_simp
      refine hK _ _ ?_
      clear hK K
      refine wpAny_take (i := 2) (v := ?_) rfl (by kernel_rfl) (by kernel_rfl) (by kernel_rfl) (fun _ _ _ h => h) (Or.inl ⟨by rfl, ?_⟩) ?_
      rotate_left
      · (intro wq; go_simp; try with_reducible rfl)
      refine wpAny_take (i := 3) (v := ?_) rfl (by kernel_rfl) (by kernel_rfl) (by kernel_rfl) (fun _ _ _ h => h) (Or.inl ⟨by rfl, ?_⟩) ?_
      rotate_left
      · (intro wq; go_simp; try with_reducible rfl)
      refine wpAny_ready (rs := [0, 4, 11]) (by kernel_rfl) (by simp) ?_
      refine AllReady.cons rfl (fun K hK => ?_) ?_
      · go_simp
        refine hK _ _ ?_
        clear hK K
        refine wpAny_ready (rs := [4, 11]) (by kernel_rfl) (by simp) ?_
        refine AllReady.cons rfl (fun K hK => ?_) ?_
        · go_simp
          refine hK _ _ ?_
          clear hK K
          refine wpAny_ready (rs := [11]) (by kernel_rfl) (by simp) ?_
          refine AllReady.cons rfl (fun K hK => ?_) ?_
          · go_simp
            refine hK _ _ ?_
            clear hK K
            refine wpAny_ready (rs := [12]) (by kernel_rfl) (by simp) ?_
            refine AllReady.cons rfl (fun K hK => ?_) ?_
            · refine step_app elem_bytes rfl (.tmp 18) (.tmp 25) rfl wl.heap.size (.slice Ao pre.length co) pre.length (pre.map (partV gb)) rfl (World.ownsRow.alloc H3.out _) (some ⟨W.heap.size, 0, none⟩) 1 1 [partV gb x] rfl (sees_new W [partV gb x] _) rfl (by simp [Value.oneCell']) (by omega) (by simp; omega) ?_; intro v2 w2 hown2 hg2 _; obtain ⟨d1, d2, f2, hst⟩ := new_step H1.out H2.out H3.out H4.out H5.out H6 hls2 hown2 hg2; obtain ⟨A2, co2, rfl, hm3, hm4⟩ := own_full hown2; have HSt := Lib.hid hst; clear hown2 hg2 hst
              refine hK _ _ ?_
              clear hK K
              refine wpAny_take (i := 13) (v := ?_) rfl (by kernel_rfl) (by kernel_rfl) (by kernel_rfl) (fun _ _ _ h => h) (Or.inl ⟨by rfl, ?_⟩) ?_
              rotate_left
              · (intro wq; go_simp; try with_reducible rfl)
              refine wpAny_take (i := 14) (v := ?_) rfl (by kernel_rfl) (by kernel_rfl) (by kernel_rfl) (fun _ _ _ h => h) (Or.inl ⟨by rfl, ?_⟩) ?_
              rotate_left
              · (intro wq; go_simp; try with_reducible rfl)
              refine wpAny_ready (rs := [15]) (by kernel_rfl) (by simp) ?_
              refine AllReady.cons rfl (fun K hK => ?_) ?_
              · go_simp
                refine hK _ _ ?_
                clear hK K
                refine wpAny_done (by kernel_rfl) ?_ _
                exact ⟨HSt.out.1, ⟨HSt.out.2.1 _ (by omega) (by omega), HSt.out.2.1 _ hle1 (by omega)⟩, HSt.out.2.2 (.inl hgl)⟩
              exact AllReady.nil
            exact AllReady.nil
          exact AllReady.nil
        refine AllReady.cons rfl (fun K hK => ?_) ?_
        · go_simp
          refine hK _ _ ?_
          clear hK K
          refine wpAny_ready (rs := [4]) (by kernel_rfl) (by simp) ?_
          refine AllReady.cons rfl (fun K hK => ?_) ?_
          · go_simp
            refine hK _ _ ?_
            clear hK K
            refine wpAny_ready (rs := [12]) (by kernel_rfl) (by simp) ?_
            refine AllReady.cons rfl (fun K hK => ?_) ?_
            · refine step_app elem_bytes rfl (.tmp 18) (.tmp 25) rfl wl.heap.size (.slice Ao pre.length co) pre.length (pre.map (partV gb)) rfl (World.ownsRow.alloc H3.out _) (some ⟨W.heap.size, 0, none⟩) 1 1 [partV gb x] rfl (sees_new W [partV gb x] _) rfl (by simp [Value.oneCell']) (by omega) (by simp; omega) ?_; intro v2 w2 hown2 hg2 _; obtain ⟨d1, d2, f2, hst⟩ := new_step H1.out H2.out H3.out H4.out H5.out H6 hls2 hown2 hg2; obtain ⟨A2, co2, rfl, hm3, hm4⟩ := own_full hown2; have HSt := Lib.hid hst; clear hown2 hg2 hst
              refine hK _ _ ?_
              clear hK K
              refine wpAny_take (i := 13) (v := ?_) rfl (by kernel_rfl) (by kernel_rfl) (by kernel_rfl) (fun _ _ _ h => h) (Or.inl ⟨by rfl, ?_⟩) ?_
              rotate_left
              · (intro wq; go_simp; try with_reducible rfl)
              refine wpAny_take (i := 14) (v := ?_) rfl (by kernel_rfl) (by kernel_rfl) (by kernel_rfl) (fun _ _ _ h => h) (Or.inl ⟨by rfl, ?_⟩) ?_
              rotate_left
              · (intro wq; go_simp; try with_reducible rfl)
              refine wpAny_ready (rs := [15]) (by kernel_rfl) (by simp) ?_
              refine AllReady.cons rfl (fun K hK => ?_) ?_
              · go_simp
                refine hK _ _ ?_
                clear hK K
                refine wpAny_done (by kernel_rfl) ?_ _
                exact ⟨HSt.out.1, ⟨HSt.out.2.1 _ (by omega) (by omega), HSt.out.2.1 _ hle1 (by omega)⟩, HSt.out.2.2 (.inl hgl)⟩
              exact AllReady.nil
            exact AllReady.nil
          exact AllReady.nil
        exact AllReady.nil
      refine AllReady.cons rfl (fun K hK => ?_) ?_
      · go_simp
        refine hK _ _ ?_
        clear hK K
        refine wpAny_ready (rs := [0, 11]) (by kernel_rfl) (by simp) ?_
        refine AllReady.cons rfl (fun K hK => ?_) ?_
        · go_simp
          refine hK _ _ ?_
          clear hK K
          refine wpAny_ready (rs := [11]) (by kernel_rfl) (by simp) ?_
          refine AllReady.cons rfl (fun K hK => ?_) ?_
          · go_simp
            refine hK _ _ ?_
            clear hK K
            refine wpAny_ready (rs := [12]) (by kernel_rfl) (by simp) ?_
            refine AllReady.cons rfl (fun K hK => ?_) ?_
            · refine step_app elem_bytes rfl (.tmp 18) (.tmp 25) rfl wl.heap.size (.slice Ao pre.length co) pre.length (pre.map (partV gb)) rfl (World.ownsRow.alloc H3.out _) (some ⟨W.heap.size, 0, none⟩) 1 1 [partV gb x] rfl (sees_new W [partV gb x] _) rfl (by simp [Value.oneCell']) (by omega) (by simp; omega) ?_; intro v2 w2 hown2 hg2 _; obtain ⟨d1, d2, f2, hst⟩ := new_step H1.out H2.out H3.out H4.out H5.out H6 hls2 hown2 hg2; obtain ⟨A2, co2, rfl, hm3, hm4⟩ := own_full hown2; have HSt := Lib.hid hst; clear hown2 hg2 hst
              refine hK _ _ ?_
              clear hK K
              refine wpAny_take (i := 13) (v := ?_) rfl (by kernel_rfl) (by kernel_rfl) (by kernel_rfl) (fun _ _ _ h => h) (Or.inl ⟨by rfl, ?_⟩) ?_
              rotate_left
              · (intro wq; go_simp; try with_reducible rfl)
              refine wpAny_take (i := 14) (v := ?_) rfl (by kernel_rfl) (by kernel_rfl) (by kernel_rfl) (fun _ _ _ h => h) (Or.inl ⟨by rfl, ?_⟩) ?_
              rotate_left
              · (intro wq; go_simp; try with_reducible rfl)
              refine wpAny_ready (rs := [15]) (by kernel_rfl) (by simp) ?_
              refine AllReady.cons rfl (fun K hK => ?_) ?_
              · go_simp
                refine hK _ _ ?_
                clear hK K
                refine wpAny_done (by kernel_rfl) ?_ _
                exact ⟨HSt.out.1, ⟨HSt.out.2.1 _ (by omega) (by omega), HSt.out.2.1 _ hle1 (by omega)⟩, HSt.out.2.2 (.inl hgl)⟩
              exact AllReady.nil
            exact AllReady.nil
          exact AllReady.nil
        refine AllReady.cons rfl (fun K hK => ?_) ?_
        · go_simp
          refine hK _ _ ?_
          clear hK K
          refine wpAny_ready (rs := [0, 12]) (by kernel_rfl) (by simp) ?_
          refine AllReady.cons rfl (fun K hK => ?_) ?_
          · go_simp
            refine hK _ _ ?_
            clear hK K
            refine wpAny_ready (rs := [12]) (by kernel_rfl) (by simp) ?_
            refine AllReady.cons rfl (fun K hK => ?_) ?_
            · refine step_app elem_bytes rfl (.tmp 18) (.tmp 25) rfl wl.heap.size (.slice Ao pre.length co) pre.length (pre.map (partV gb)) rfl (World.ownsRow.alloc H3.out _) (some ⟨W.heap.size, 0, none⟩) 1 1 [partV gb x] rfl (sees_new W [partV gb x] _) rfl (by simp [Value.oneCell']) (by omega) (by simp; omega) ?_; intro v2 w2 hown2 hg2 _; obtain ⟨d1, d2, f2, hst⟩ := new_step H1.out H2.out H3.out H4.out H5.out H6 hls2 hown2 hg2; obtain ⟨A2, co2, rfl, hm3, hm4⟩ := own_full hown2; have HSt := Lib.hid hst; clear hown2 hg2 hst
              refine hK _ _ ?_
              clear hK K
              refine wpAny_take (i := 13) (v := ?_) rfl (by kernel_rfl) (by kernel_rfl) (by kernel_rfl) (fun _ _ _ h => h) (Or.inl ⟨by rfl, ?_⟩) ?_
              rotate_left
              · (intro wq; go_simp; try with_reducible rfl)
              refine wpAny_take (i := 14) (v := ?_) rfl (by kernel_rfl) (by kernel_rfl) (by kernel_rfl) (fun _ _ _ h => h) (Or.inl ⟨by rfl, ?_⟩) ?_
              rotate_left
              · (intro wq; go_simp; try with_reducible rfl)
              refine wpAny_ready (rs := [15]) (by kernel_rfl) (by simp) ?_
              refine AllReady.cons rfl (fun K hK => ?_) ?_
              · go_simp
                refine hK _ _ ?_
                clear hK K
                refine wpAny_done (by kernel_rfl) ?_ _
                exact ⟨HSt.out.1, ⟨HSt.out.2.1 _ (by omega) (by omega), HSt.out.2.1 _ hle1 (by omega)⟩, HSt.out.2.2 (.inl hgl)⟩
              exact AllReady.nil
            exact AllReady.nil
          refine AllReady.cons rfl (fun K hK => ?_) ?_
          · refine step_app elem_bytes rfl (.tmp 18) (.tmp 25) rfl wl.heap.size (.slice Ao pre.length co) pre.length (pre.map (partV gb)) rfl (World.ownsRow.alloc H3.out _) (some ⟨W.heap.size, 0, none⟩) 1 1 [partV gb x] rfl (sees_new W [partV gb x] _) rfl (by simp [Value.oneCell']) (by omega) (by simp; omega) ?_; intro v2 w2 hown2 hg2 _; obtain ⟨d1, d2, f2, hst⟩ := new_step H1.out H2.out H3.out H4.out H5.out H6 hls2 hown2 hg2; obtain ⟨A2, co2, rfl, hm3, hm4⟩ := own_full hown2; have HSt := Lib.hid hst; clear hown2 hg2 hst
            refine hK _ _ ?_
            clear hK K
            refine wpAny_ready (rs := [0]) (by kernel_rfl) (by simp) ?_
            refine AllReady.cons rfl (fun K hK => ?_) ?_
            · go_simp
              refine hK _ _ ?_
              clear hK K
              refine wpAny_take (i := 13) (v := ?_) rfl (by kernel_rfl) (by kernel_rfl) (by kernel_rfl) (fun _ _ _ h => h) (Or.inl ⟨by rfl, ?_⟩) ?_
              rotate_left
              · (intro wq; go_simp; try with_reducible rfl)
              refine wpAny_take (i := 14) (v := ?_) rfl (by kernel_rfl) (by kernel_rfl) (by kernel_rfl) (fun _ _ _ h => h) (Or.inl ⟨by rfl, ?_⟩) ?_
              rotate_left
              · (intro wq; go_simp; try with_reducible rfl)
              refine wpAny_ready (rs := [15]) (by kernel_rfl) (by simp) ?_
              refine AllReady.cons rfl (fun K hK => ?_) ?_
              · go_simp
                refine hK _ _ ?_
                clear hK K
                refine wpAny_done (by kernel_rfl) ?_ _
                exact ⟨HSt.out.1, ⟨HSt.out.2.1 _ (by omega) (by omega), HSt.out.2.1 _ hle1 (by omega)⟩, HSt.out.2.2 (.inl hgl)⟩
              exact AllReady.nil
            exact AllReady.nil
          exact AllReady.nil
        exact AllReady.nil
      refine AllReady.cons rfl (fun K hK => ?_) ?_
      · go_simp
        refine hK _ _ ?_
        clear hK K
        refine wpAny_ready (rs := [0, 4]) (by kernel_rfl) (by simp) ?_
        refine AllReady.cons rfl (fun K hK => ?_) ?_
        · go_simp
          refine hK _ _ ?_
          clear hK K
          refine wpAny_ready (rs := [4]) (by kernel_rfl) (by simp) ?_
          refine AllReady.cons rfl (fun K hK => ?_) ?_
          · go_simp
            refine hK _ _ ?_
            clear hK K
            refine wpAny_ready (rs := [12]) (by kernel_rfl) (by simp) ?_
            refine AllReady.cons rfl (fun K hK => ?_) ?_
            · refine step_app elem_bytes rfl (.tmp 18) (.tmp 25) rfl wl.heap.size (.slice Ao pre.length co) pre.length (pre.map (partV gb)) rfl (World.ownsRow.alloc H3.out _) (some ⟨W.heap.size, 0, none⟩) 1 1 [partV gb x] rfl (sees_new W [partV gb x] _) rfl (by simp [Value.oneCell']) (by omega) (by simp; omega) ?_; intro v2 w2 hown2 hg2 _; obtain ⟨d1, d2, f2, hst⟩ := new_step H1.out H2.out H3.out H4.out H5.out H6 hls2 hown2 hg2; obtain ⟨A2, co2, rfl, hm3, hm4⟩ := own_full hown2; have HSt := Lib.hid hst; clear hown2 hg2 hst
              refine hK _ _ ?_
              clear hK K
              refine wpAny_take (i := 13) (v := ?_) rfl (by kernel_rfl) (by kernel_rfl) (by kernel_rfl) (fun _ _ _ h => h) (Or.inl ⟨by rfl, ?_⟩) ?_
              rotate_left
              · (intro wq; go_simp; try with_reducible rfl)
              refine wpAny_take (i := 14) (v := ?_) rfl (by kernel_rfl) (by kernel_rfl) (by kernel_rfl) (fun _ _ _ h => h) (Or.inl ⟨by rfl, ?_⟩) ?_
              rotate_left
              · (intro wq; go_simp; try with_reducible rfl)
              refine wpAny_ready (rs := [15]) (by kernel_rfl) (by simp) ?_
              refine AllReady.cons rfl (fun K hK => ?_) ?_
              · go_simp
                refine hK _ _ ?_
                clear hK K
                refine wpAny_done (by kernel_rfl) ?_ _
                exact ⟨HSt.out.1, ⟨HSt.out.2.1 _ (by omega) (by omega), HSt.out.2.1 _ hle1 (by omega)⟩, HSt.out.2.2 (.inl hgl)⟩
              exact AllReady.nil
            exact AllReady.nil
          exact AllReady.nil
        refine AllReady.cons rfl (fun K hK => ?_) ?_
        · go_simp
          refine hK _ _ ?_
          clear hK K
          refine wpAny_ready (rs := [0, 12]) (by kernel_rfl) (by simp) ?_
          refine AllReady.cons rfl (fun K hK => ?_) ?_
          · go_simp
            refine hK _ _ ?_
            clear hK K
            refine wpAny_ready (rs := [12]) (by kernel_rfl) (by simp) ?_
            refine AllReady.cons rfl (fun K hK => ?_) ?_
            · refine step_app elem_bytes rfl (.tmp 18) (.tmp 25) rfl wl.heap.size (.slice Ao pre.length co) pre.length (pre.map (partV gb)) rfl (World.ownsRow.alloc H3.out _) (some ⟨W.heap.size, 0, none⟩) 1 1 [partV gb x] rfl (sees_new W [partV gb x] _) rfl (by simp [Value.oneCell']) (by omega) (by simp; omega) ?_; intro v2 w2 hown2 hg2 _; obtain ⟨d1, d2, f2, hst⟩ := new_step H1.out H2.out H3.out H4.out H5.out H6 hls2 hown2 hg2; obtain ⟨A2, co2, rfl, hm3, hm4⟩ := own_full hown2; have HSt := Lib.hid hst; clear hown2 hg2 hst
              refine hK _ _ ?_
              clear hK K
              refine wpAny_take (i := 13) (v := ?_) rfl (by kernel_rfl) (by kernel_rfl) (by kernel_rfl) (fun _ _ _ h => h) (Or.inl ⟨by rfl, ?_⟩) ?_
              rotate_left
              · (intro wq; go_simp; try with_reducible rfl)
              refine wpAny_take (i := 14) (v := ?_) rfl (by kernel_rfl) (by kernel_rfl) (by kernel_rfl) (fun _ _ _ h => h) (Or.inl ⟨by rfl, ?_⟩) ?_
              rotate_left
              · (intro wq; go_simp; try with_reducible rfl)
              refine wpAny_ready (rs := [15]) (by kernel_rfl) (by simp) ?_
              refine AllReady.cons rfl (fun K hK => ?_) ?_
              · go_simp
                refine hK _ _ ?_
                clear hK K
                refine wpAny_done (by kernel_rfl) ?_ _
                exact ⟨HSt.out.1, ⟨HSt.out.2.1 _ (by omega) (by omega), HSt.out.2.1 _ hle1 (by omega)⟩, HSt.out.2.2 (.inl hgl)⟩
              exact AllReady.nil
            exact AllReady.nil
          refine AllReady.cons rfl (fun K hK => ?_) ?_
          · refine step_app elem_bytes rfl (.tmp 18) (.tmp 25) rfl wl.heap.size (.slice Ao pre.length co) pre.length (pre.map (partV gb)) rfl (World.ownsRow.alloc H3.out _) (some ⟨W.heap.size, 0, none⟩) 1 1 [partV gb x] rfl (sees_new W [partV gb x] _) rfl (by simp [Value.oneCell']) (by omega) (by simp; omega) ?_; intro v2 w2 hown2 hg2 _; obtain ⟨d1, d2, f2, hst⟩ := new_step H1.out H2.out H3.out H4.out H5.out H6 hls2 hown2 hg2; obtain ⟨A2, co2, rfl, hm3, hm4⟩ := own_full hown2; have HSt := Lib.hid hst; clear hown2 hg2 hst
            refine hK _ _ ?_
            clear hK K
            refine wpAny_ready (rs := [0]) (by kernel_rfl) (by simp) ?_
            refine AllReady.cons rfl (fun K hK => ?_) ?_
            · go_simp
              refine hK _ _ ?_
              clear hK K
              refine wpAny_take (i := 13) (v := ?_) rfl (by kernel_rfl) (by kernel_rfl) (by kernel_rfl) (fun _ _ _ h => h) (Or.inl ⟨by rfl, ?_⟩) ?_
              rotate_left
              · (intro wq; go_simp; try with_reducible rfl)
              refine wpAny_take (i := 14) (v := ?_) rfl (by kernel_rfl) (by kernel_rfl) (by kernel_rfl) (fun _ _ _ h => h) (Or.inl ⟨by rfl, ?_⟩) ?_
              rotate_left
              · (intro wq; go_simp; try with_reducible rfl)
              refine wpAny_ready (rs := [15]) (by kernel_rfl) (by simp) ?_
              refine AllReady.cons rfl (fun K hK => ?_) ?_
              · go_simp
                refine hK _ _ ?_
                clear hK K
                refine wpAny_done (by kernel_rfl) ?_ _
                exact ⟨HSt.out.1, ⟨HSt.out.2.1 _ (by omega) (by omega), HSt.out.2.1 _ hle1 (by omega)⟩, HSt.out.2.2 (.inl hgl)⟩
              exact AllReady.nil
            exact AllReady.nil
          exact AllReady.nil
        exact AllReady.nil
      exact AllReady.nil
    refine AllReady.cons rfl (fun K hK => ?_) ?_
    · go_simp
      refine hK _ _ ?_
      clear hK K
      refine wpAny_ready (rs := [0, 1]) (by kernel_rfl) (by simp) ?_
      refine AllReady.cons rfl (fun K hK => ?_) ?_
      · go_simp
        refine hK _ _ ?_
        clear hK K
        refine wpAny_ready (rs := [1]) (by kernel_rfl) (by simp) ?_
        refine AllReady.cons rfl (fun K hK => ?_) ?_
        · go_simp
          refine hK _ _ ?_
          clear hK K
          refine wpAny_take (i := 2) (v := ?_) rfl (by kernel_rfl) (by kernel_rfl) (by kernel_rfl) (fun _ _ _ h => h) (Or.inl ⟨by rfl, ?_⟩) ?_
          rotate_left
          · (intro wq; go_simp; try with_reducible rfl)
          refine wpAny_take (i := 3) (v := ?_) rfl (by kernel_rfl) (by kernel_rfl) (by kernel_rfl) (fun _ _ _ h => h) (Or.inl ⟨by rfl, ?_⟩) ?_
          rotate_left
          · (intro wq; go_simp; try with_reducible rfl)
          refine wpAny_ready (rs := [4]) (by kernel_rfl) (by simp) ?_
          refine AllReady.cons rfl (fun K hK => ?_) ?_
          · go_simp
            refine hK _ _ ?_
            clear hK K
            refine wpAny_ready (rs := [12]) (by kernel_rfl) (by simp) ?_
            refine AllReady.cons rfl (fun K hK => ?_) ?_
            · refine step_app elem_bytes rfl (.tmp 18) (.tmp 25) rfl wl.heap.size (.slice Ao pre.length co) pre.length (pre.map (partV gb)) rfl (World.ownsRow.alloc H3.out _) (some ⟨W.heap.size, 0, none⟩) 1 1 [partV gb x] rfl (sees_new W [partV gb x] _) rfl (by simp [Value.oneCell']) (by omega) (by simp; omega) ?_; intro v2 w2 hown2 hg2 _; obtain ⟨d1, d2, f2, hst⟩ := new_step H1.out H2.out H3.out H4.out H5.out H6 hls2 hown2 hg2; obtain ⟨A2, co2, rfl, hm3, hm4⟩ := own_full hown2; have HSt := Lib.hid hst; clear hown2 hg2 hst
              refine hK _ _ ?_
              clear hK K
              refine wpAny_take (i := 13) (v := ?_) rfl (by kernel_rfl) (by kernel_rfl) (by kernel_rfl) (fun _ _ _ h => h) (Or.inl ⟨by rfl, ?_⟩) ?_
              rotate_left
              · (intro wq; go_simp; try with_reducible rfl)
              refine wpAny_take (i := 14) (v := ?_) rfl (by kernel_rfl) (by kernel_rfl) (by kernel_rfl) (fun _ _ _ h => h) (Or.inl ⟨by rfl, ?_⟩) ?_
              rotate_left
              · (intro wq; go_simp; try with_reducible rfl)
              refine wpAny_ready (rs := [15]) (by kernel_rfl) (by simp) ?_
              refine AllReady.cons rfl (fun K hK => ?_) ?_
              · go_simp
                refine hK _ _ ?_
                clear hK K
                refine wpAny_done (by kernel_rfl) ?_ _
                exact ⟨HSt.out.1, ⟨HSt.out.2.1 _ (by omega) (by omega), HSt.out.2.1 _ hle1 (by omega)⟩, HSt.out.2.2 (.inl hgl)⟩
              exact AllReady.nil
            exact AllReady.nil
          exact AllReady.nil
        exact AllReady.nil
      refine AllReady.cons rfl (fun K hK => ?_) ?_
      · go_simp
        refine hK _ _ ?_
        clear hK K
        refine wpAny_take (i := 2) (v := ?_) rfl (by kernel_rfl) (by kernel_rfl) (by kernel_rfl) (fun _ _ _ h => h) (Or.inl ⟨by rfl, ?_⟩) ?_
        rotate_left
        · (intro wq; go_simp; try with_reducible rfl)
        refine wpAny_take (i := 3) (v := ?_) rfl (by kernel_rfl) (by kernel_rfl) (by kernel_rfl) (fun _ _ _ h => h) (Or.inl ⟨by rfl, ?_⟩) ?_
        rotate_left
        · (intro wq; go_simp; try with_reducible rfl)
        refine wpAny_ready (rs := [0, 4]) (by kernel_rfl) (by simp) ?_
        refine AllReady.cons rfl (fun K hK => ?_) ?_
        · go_simp
          refine hK _ _ ?_
          clear hK K
          refine wpAny_ready (rs := [4]) (by kernel_rfl) (by simp) ?_
          refine AllReady.cons rfl (fun K hK => ?_) ?_
          · go_simp
            refine hK _ _ ?_
            clear hK K
            refine wpAny_ready (rs := [12]) (by kernel_rfl) (by simp) ?_
            refine AllReady.cons rfl (fun K hK => ?_) ?_
            · refine step_app elem_bytes rfl (.tmp 18) (.tmp 25) rfl wl.heap.size (.slice Ao pre.length co) pre.length (pre.map (partV gb)) rfl (World.ownsRow.alloc H3.out _) (some ⟨W.heap.size, 0, none⟩) 1 1 [partV gb x] rfl (sees_new W [partV gb x] _) rfl (by simp [Value.oneCell']) (by omega) (by simp; omega) ?_; intro v2 w2 hown2 hg2 _; obtain ⟨d1, d2, f2, hst⟩ := new_step H1.out H2.out H3.out H4.out H5.out H6 hls2 hown2 hg2; obtain ⟨A2, co2, rfl, hm3, hm4⟩ := own_full hown2; have HSt := Lib.hid hst; clear hown2 hg2 hst
              refine hK _ _ ?_
              clear hK K
              refine wpAny_take (i := 13) (v := ?_) rfl (by kernel_rfl) (by kernel_rfl) (by kernel_rfl) (fun _ _ _ h => h) (Or.inl ⟨by rfl, ?_⟩) ?_
              rotate_left
              · (intro wq; go_simp; try with_reducible rfl)
              refine wpAny_take (i := 14) (v := ?_) rfl (by kernel_rfl) (by kernel_rfl) (by kernel_rfl) (fun _ _ _ h => h) (Or.inl ⟨by rfl, ?_⟩) ?_
              rotate_left
              · (intro wq; go_simp; try with_reducible rfl)
              refine wpAny_ready (rs := [15]) (by kernel_rfl) (by simp) ?_
              refine AllReady.cons rfl (fun K hK => ?_) ?_
              · go_simp
                refine hK _ _ ?_
                clear hK K
                refine wpAny_done (by kernel_rfl) ?_ _
                exact ⟨HSt.out.1, ⟨HSt.out.2.1 _ (by omega) (by omega), HSt.out.2.1 _ hle1 (by omega)⟩, HSt.out.2.2 (.inl hgl)⟩
              exact AllReady.nil
            exact AllReady.nil
          exact AllReady.nil
        refine AllReady.cons rfl (fun K hK => ?_) ?_
        · go_simp
          refine hK _ _ ?_
          clear hK K
          refine wpAny_ready (rs := [0, 12]) (by kernel_rfl) (by simp) ?_
          refine AllReady.cons rfl (fun K hK => ?_) ?_
          · go_simp
            refine hK _ _ ?_
            clear hK K
            refine wpAny_ready (rs := [12]) (by kernel_rfl) (by simp) ?_
            refine AllReady.cons rfl (fun K hK => ?_) ?_
            · refine step_app elem_bytes rfl (.tmp 18) (.tmp 25) rfl wl.heap.size (.slice Ao pre.length co) pre.length (pre.map (partV gb)) rfl (World.ownsRow.alloc H3.out _) (some ⟨W.heap.size, 0, none⟩) 1 1 [partV gb x] rfl (sees_new W [partV gb x] _) rfl (by simp [Value.oneCell']) (by omega) (by simp; omega) ?_; intro v2 w2 hown2 hg2 _; obtain ⟨d1, d2, f2, hst⟩ := new_step H1.out H2.out H3.out H4.out H5.out H6 hls2 hown2 hg2; obtain ⟨A2, co2, rfl, hm3, hm4⟩ := own_full hown2; have HSt := Lib.hid hst; clear hown2 hg2 hst
              refine hK _ _ ?_
              clear hK K
              refine wpAny_take (i := 13) (v := ?_) rfl (by kernel_rfl) (by kernel_rfl) (by kernel_rfl) (fun _ _ _ h => h) (Or.inl ⟨by rfl, ?_⟩) ?_
              rotate_left
              · (intro wq; go_simp; try with_reducible rfl)
              refine wpAny_take (i := 14) (v := ?_) rfl (by kernel_rfl) (by kernel_rfl) (by kernel_rfl) (fun _ _ _ h => h) (Or.inl ⟨by rfl, ?_⟩) ?_
              rotate_left
              · (intro wq; go_simp; try with_reducible rfl)
              refine wpAny_ready (rs := [15]) (by kernel_rfl) (by simp) ?_
              refine AllReady.cons rfl (fun K hK => ?_) ?_
              · go_simp
                refine hK _ _ ?_
                clear hK K
                refine wpAny_done (by kernel_rfl) ?_ _
                exact ⟨HSt.out.1, ⟨HSt.out.2.1 _ (by omega) (by omega), HSt.out.2.1 _ hle1 (by omega)⟩, HSt.out.2.2 (.inl hgl)⟩
              exact AllReady.nil
            exact AllReady.nil
          refine AllReady.cons rfl (fun K hK => ?_) ?_
          · refine step_app elem_bytes rfl (.tmp 18) (.tmp 25) rfl wl.heap.size (.slice Ao pre.length co) pre.length (pre.map (partV gb)) rfl (World.ownsRow.alloc H3.out _) (some ⟨W.heap.size, 0, none⟩) 1 1 [partV gb x] rfl (sees_new W [partV gb x] _) rfl (by simp [Value.oneCell']) (by omega) (by simp; omega) ?_; intro v2 w2 hown2 hg2 _; obtain ⟨d1, d2, f2, hst⟩ := new_step H1.out H2.out H3.out H4.out H5.out H6 hls2 hown2 hg2; obtain ⟨A2, co2, rfl, hm3, hm4⟩ := own_full hown2; have HSt := Lib.hid hst; clear hown2 hg2 hst
            refine hK _ _ ?_
            clear hK K
            refine wpAny_ready (rs := [0]) (by kernel_rfl) (by simp) ?_
            refine AllReady.cons rfl (fun K hK => ?_) ?_
            · go_simp
              refine hK _ _ ?_
              clear hK K
              refine wpAny_take (i := 13) (v := ?_) rfl (by kernel_rfl) (by kernel_rfl) (by kernel_rfl) (fun _ _ _ h => h) (Or.inl ⟨by rfl, ?_⟩) ?_
              rotate_left
              · (intro wq; go_simp; try with_reducible rfl)
              refine wpAny_take (i := 14) (v := ?_) rfl (by kernel_rfl) (by kernel_rfl) (by kernel_rfl) (fun _ _ _ h => h) (Or.inl ⟨by rfl, ?_⟩) ?_
              rotate_left
              · (intro wq; go_simp; try with_reducible rfl)
              refine wpAny_ready (rs := [15]) (by kernel_rfl) (by simp) ?_
              refine AllReady.cons rfl (fun K hK => ?_) ?_
              · go_simp
                refine hK _ _ ?_
                clear hK K
                refine wpAny_done (by kernel_rfl) ?_ _
                exact ⟨HSt.out.1, ⟨HSt.out.2.1 _ (by omega) (by omega), HSt.out.2.1 _ hle1 (by omega)⟩, HSt.out.2.2 (.inl hgl)⟩
              exact AllReady.nil
            exact AllReady.nil
          exact AllReady.nil
        exact AllReady.nil
      exact AllReady.nil
    exact AllReady.nil
  case done =>
    rintro D ys W hD rfl ⟨V, h1, h2, h3, h4, h5, h6⟩ hK
    obtain ⟨Ao, co, rfl, hm1, hm2⟩ := own_full h3
    have c1 := h2.cell
    have c2 : W.cell? ⟨w.heap.size, 1, none⟩ = some (.slice Ao (cupto bs.length (ccount bs.length)).length co) := cell_of_row W _ 1 _ _ _ h1
    have f2 : W.frozen? ⟨w.heap.size, 1, none⟩ = false := frozen_of_row W _ 1 _ _ h1
    rw [cupto_length] at c2
    have hcc : ccount bs.length ≤ 65 := by unfold ccount; omega
    have HK := Lib.hid hK
    have H1 := Lib.hid h1
    have H3 := Lib.hid h3
    have H4 := Lib.hid h4
    have HP1 : Below w.heap.size w (W.putObj D (.deferred none)) := h5.trans (belowK_b (w := w) (Nat.le_refl _) W D _ _ (by omega) hK rfl rfl)
    clear hK h1 h2 h3 h4
    by_cases h0 : bs.length = 0
    · have d0 : ((ccount bs.length : Int) == 0) = true := by simp [ccount, h0]
      have E2 := fun o => (World.cell?_alloc_lt W o ⟨w.heap.size, 1, none⟩ (Array.getElem?_eq_some_iff.1 H1.out).1).trans c2
      have hDW : D < W.heap.size := (Array.getElem?_eq_some_iff.1 HK.out).1
      have hgW : w.heap.size < W.heap.size := (Array.getElem?_eq_some_iff.1 H1.out).1
      have E3 : ∀ v o, ((W.setCell ⟨w.heap.size, 1, none⟩ v).alloc o).cell? ⟨w.heap.size + 1, 0, none⟩ = some (.pointer (some ⟨w.heap.size, 0, none⟩)) := fun v o =>
        (World.cell?_alloc_lt _ o ⟨w.heap.size + 1, 0, none⟩ (by simpa [World.setCell] using World.block_lt_of_cell? _ _ c1)).trans ((World.cell?_of_block (set_other v (show w.heap.size + 1 ≠ w.heap.size by omega))).trans c1)
      have H0 := Lib.hid h0
      clear h0
      have HK2 : Hid (∀ o v, ((W.setCell ⟨w.heap.size, 1, none⟩ v).alloc o).heap[D]? = some (.deferred (some []))) := Lib.hid fun o v => (Below.heap_alloc _ _ _ (by simpa [World.setCell] using hDW)).trans ((set_other _ (by omega)).trans HK.out)
      gi_wp2
      refine ⟨by simp, .inl ⟨_, _, rfl, run_takeDeferred (HK2.out _ _), ?_⟩⟩
      refine ⟨_, results_tmp rfl _ _ _, rfl, ?_, ?_⟩
      · refine OutB.keep (out_nil (e := 23) (r := W.heap.size) H0.out ?_ ?_ (Nat.le_refl _) (by omega)) (fun k cs t fr _ => put_cells (HK2.out _ _) rfl k cs t fr (Nat.zero_le _))
        · exact (Below.heap_alloc _ _ _ (by simpa [World.setCell] using hgW)).trans (set_block _ H1.out)
        · have := heap_alloc_new (W.setCell ⟨w.heap.size, 1, none⟩ (.slice (some ⟨W.heap.size, 0, none⟩) 1 1)) (.cells #[.slice none 0 0] 23)
          simpa [World.setCell] using this
      · exact ((h5.setCell (Nat.le_refl _) _).alloc (by simp [World.setCell]; omega) _).trans (belowK_b (w := w) (Nat.le_refl _) _ D _ _ (by omega) (HK2.out _ _) rfl rfl)
    · have d0 : ((ccount bs.length : Int) == 0) = false := by simp; unfold ccount; omega
      gi_wp2
      refine ⟨by simp, .inl ⟨_, _, rfl, run_takeDeferred HK.out, ?_⟩⟩
      refine ⟨_, results_tmp rfl _ _ _, rfl, ?_, HP1⟩
      refine OutB.keep ?_ (fun k cs t fr _ => put_cells HK.out rfl k cs t fr (Nat.zero_le _))
      obtain ⟨_, g2, g3, cs, g4, g5⟩ := HGb.out (by omega)
      have g6 : W.heap[gb]? = some (.cells cs 5 (0, 0)) := H4.out cs _ _ ((HBl.out.block gb g2).trans g4)
      have h1 := H1.out
      have h3 := H3.out
      rw [cupto_length] at h1 h3 hm1
      refine out_mk (by omega) h1 hm1 h3 g6 (fun j u hj => ?_) (Nat.le_refl _) (by omega) hBwl.size
      exact (World.cell?_of_block (g6.trans g4.symm)).trans (g5 j u hj)
  case stop =>
    rintro D k pre W _ _ h _
    exact h.elim

/-- A new picture. -/
theorem new_any (at_ : Int) (A : Option Addr) (bs : List UInt8) (c : Nat) (w : World) (hby : Bytes w A bs) (hL : bs.length ≤ 65536) :
    Calls Try.prog 8 #[.int .u64 at_, .slice A bs.length c] w fun e w' => e = .returned (.pointer (some ⟨w.heap.size, 0, none⟩)) ∧ OutB 55 w.heap.size at_ bs w.heap.size w' ∧ Below w.heap.size w w' :=
  callsIn_wide.1 (new_in 3 (Nat.le_refl _) at_ A bs c w hby hL)
end Go.Proofs.Ytgjhcmjkdjnjfaa
