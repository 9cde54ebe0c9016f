/- The contracts of the parts TrRPlace, TrRLeaf, TrRFits, TrRX, TrRMove, TrRRenV, TrRDoV, in one text. Conditions: those told at each part. -/
import Derived.Test.YtabecceojbeomaaGreatDoorTrRA
section
/- The contracts of the reference's place, no and fits. Conditions: the tree's invariant; a path below 2^32 bytes. -/
namespace Go.Cat.Tree
open Go.RowKit Go.Cat Go.Cat.Dir
theorem abv_len (p : Txt) : (abv p).1.length ≤ 96 := by
  cases hs : splitV p with
  | none => rw [(above_none hs).1]; exact Nat.zero_le _
  | some ls =>
    by_cases h0 : ls = []
    · subst h0; rw [(above_root hs).1]; exact Nat.zero_le _
    · rw [(above_some hs h0).1]; exact join_len ((nms_split hs).1.take _)
/-- Boxes that a call makes at its start. -/
theorem allocs3 {w W0 : World} {o1 o2 o3 : Obj} (h : W0 = ((w.alloc o1).alloc o2).alloc o3) :
    W0.heap[w.heap.size]? = some o1 ∧ W0.heap[w.heap.size + 1]? = some o2 ∧ W0.heap[w.heap.size + 2]? = some o3 ∧ W0.heap.size = w.heap.size + 3 ∧ Below w.heap.size w W0 := by
  have h1 : ((w.alloc o1).alloc o2).heap.size = w.heap.size + 2 := by simp
  have h2 : (w.alloc o1).heap.size = w.heap.size + 1 := by simp
  have e1 := heap_alloc (heap_alloc (heap_alloc_new w o1) o2) o3
  have e2 := heap_alloc (heap_alloc_new (w.alloc o1) o2) o3
  have e3 := heap_alloc_new ((w.alloc o1).alloc o2) o3
  rw [← h] at e1 e2 e3
  rw [h2] at e2
  rw [h1] at e3
  refine ⟨e1, e2, e3, by rw [h]; simp, ?_⟩
  rw [h]
  exact (((Below.refl _ _).alloc (Nat.le_refl _) _).alloc (by simp) _).alloc (by simp; omega) _
theorem allocs4 {w W0 : World} {o1 o2 o3 o4 : Obj} (h : W0 = (((w.alloc o1).alloc o2).alloc o3).alloc o4) :
    W0.heap[w.heap.size]? = some o1 ∧ W0.heap[w.heap.size + 1]? = some o2 ∧ W0.heap[w.heap.size + 2]? = some o3 ∧ W0.heap[w.heap.size + 3]? = some o4 ∧ W0.heap.size = w.heap.size + 4 ∧ Below w.heap.size w W0 := by
  obtain ⟨e1, e2, e3, e4, e5⟩ := allocs3 (rfl : ((w.alloc o1).alloc o2).alloc o3 = _)
  have e6 := heap_alloc_new (((w.alloc o1).alloc o2).alloc o3) o4
  rw [e4] at e6
  rw [h]
  exact ⟨heap_alloc e1 _, heap_alloc e2 _, heap_alloc e3 _, e6, by simp, e5.alloc e5.size _⟩
end Go.Cat.Tree
namespace Go.Proofs.YtabecceojbeomaaGreatDoor
open Go.RowKit Go.Cat Go.Cat.Dir Go.Cat.Tree

set_option maxRecDepth 100000 in
theorem rno_any (z : Int) (w : World) : Calls Tryz.prog 36 #[.int .i64 z] w fun e w' => e = .returned (.agg #[.int .i64 z, .slice none 0 0, .slice none 0 0, .int .i64 0, .bool false]) ∧ w.alloc (.cells #[.int .i64 z, .slice none 0 0, .slice none 0 0, .int .i64 0, .bool false] 36) = w' := by
  go_enter Tryz.func36, Tryz.ntmps36
  go_wp2_with fail
  refine bodyPost_ret (ret_ans rfl (by rfl) (heap_alloc_new _ _)) rfl ?_
  exact ⟨rfl, rfl⟩

set_option maxRecDepth 100000 in
set_option maxHeartbeats 4000000 in
theorem rplace_any (I J : Int) (A : Option Addr) (es : List (Txt × El)) (c : Nat) (p : Txt) (w : World) (h : RT w A c es) (hn : es.length ≤ 1000) (hp : p.length < 4294967281) :
    Calls Tryz.prog 35 #[.agg #[.int .i64 I, .int .i64 J, .slice A es.length c], .string (bs p)] w fun e w' => e = .returned (.tuple #[.string (bs (upV (fullR es) p).2), .int .i64 (upV (fullR es) p).1]) ∧ Below w.heap.size w w' := by
  have HRT := Lib.hid h
  obtain ⟨U, hU⟩ : ∃ U, U = upV (fullR es) p := ⟨_, rfl⟩
  rw [← hU]
  unfold upV at hU
  have hal := abv_len p
  obtain ⟨up, hup⟩ : ∃ up, up = (abv p).1 := ⟨_, rfl⟩
  rw [← hup] at hU hal
  have p2 := fun W (hW : Below w.heap.size w W) => rfind_any I J A es c up W (h.below hW) hn (by omega)
  unfold ToldRF rtC at p2
  obtain ⟨r, hr⟩ : ∃ r, r = findV (fullR es) up := ⟨_, rfl⟩
  rw [← hr] at hU p2
  obtain ⟨tp, htp⟩ : ∃ tp, tp = if r.1 = 0 then up else [] := ⟨_, rfl⟩
  simp only [← htp] at p2
  have P2 := Lib.hid p2
  obtain ⟨n, hnn⟩ : ∃ n, n = es.length := ⟨_, rfl⟩
  rw [← hnn] at P2 ⊢
  have hb0 : Below w.heap.size w (w.alloc (.cells #[.int .i64 I, .int .i64 J, .slice A n c] 53)) := (Below.refl _ _).alloc (Nat.le_refl _) _
  have hx0 := heap_alloc_new w (.cells #[.int .i64 I, .int .i64 J, .slice A n c] 53)
  have P1 := rabove_any p (w.alloc (.cells #[.int .i64 I, .int .i64 J, .slice A n c] 53)) hp
  unfold ToldAb at P1
  obtain ⟨a, ha⟩ : ∃ a, a = abe p := ⟨_, rfl⟩
  rw [← ha] at hU P1
  rw [← hup] at P1
  have HP1 := Lib.hid P1
  have HB0 := Lib.hid hb0
  have HX0 := Lib.hid hx0
  clear P1 p2 hb0 hx0 hup hr hnn h ha hn hp hal htp
  by_cases h0 : a = 0
  · have d1 : (a != 0) = false := by simpa using h0
    rw [if_pos h0] at hU
    by_cases h1 : r.1 = 0
    · have d2 : (r.1 != 0) = false := by simpa using h1
      rw [if_pos h1] at hU
      cases hd : r.2.dir with
      | false =>
        rw [hd, if_neg (by simp)] at hU
        subst hU
        have HD := Lib.hid hd
        clear h0 h1 hd
        go_enter Tryz.func35, Tryz.ntmps35
        go_wp2_with fail
        refine (HP1.out).mono ?_
        rintro e w1 ⟨rfl, hB1⟩
        have hx := heap_below HX0.out hB1
        have t0 : w1.cell? ⟨w.heap.size, 0, none⟩ = some (.int .i64 I) := cell_of_row _ _ 0 _ _ _ hx
        have t1 : w1.cell? ⟨w.heap.size, 1, none⟩ = some (.int .i64 J) := cell_of_row _ _ 1 _ _ _ hx
        have t2 : w1.cell? ⟨w.heap.size, 2, none⟩ = some (.slice A n c) := cell_of_row _ _ 2 _ _ _ hx
        have HB1 := Lib.hid (HB0.out.trans (hB1.mono HB0.out.size))
        have P3 := Lib.hid (P2.out w1 HB1.out)
        clear hx hB1 HP1 P2 HX0
        go_wp2_with fail
        refine (P3.out).mono ?_
        rintro e w2 ⟨⟨⟨xd, xb⟩, xa, xc⟩, rfl, hx2, _, hB2⟩
        have hxd : xd = r.2.dir := by rw [← hx2]
        have HB2 := Lib.hid (HB1.out.trans (hB2.mono HB1.out.size))
        have HB3 := Lib.hid (HB2.out.alloc HB2.out.size (.cells #[.string (bs tp), .bool xd, .slice xa xb.length xc] 80))

        rw [HD.out] at hxd
        subst hxd
        clear t0 t1 t2 hx2 hB2
        go_wp2_with fail
        go_ret2
        exact ⟨rfl, HB3.out⟩
      | true =>
        rw [hd, if_pos rfl] at hU
        subst hU
        have HD := Lib.hid hd
        clear h0 h1 hd
        go_enter Tryz.func35, Tryz.ntmps35
        go_wp2_with fail
        refine (HP1.out).mono ?_
        rintro e w1 ⟨rfl, hB1⟩
        have hx := heap_below HX0.out hB1
        have t0 : w1.cell? ⟨w.heap.size, 0, none⟩ = some (.int .i64 I) := cell_of_row _ _ 0 _ _ _ hx
        have t1 : w1.cell? ⟨w.heap.size, 1, none⟩ = some (.int .i64 J) := cell_of_row _ _ 1 _ _ _ hx
        have t2 : w1.cell? ⟨w.heap.size, 2, none⟩ = some (.slice A n c) := cell_of_row _ _ 2 _ _ _ hx
        have HB1 := Lib.hid (HB0.out.trans (hB1.mono HB0.out.size))
        have P3 := Lib.hid (P2.out w1 HB1.out)
        clear hx hB1 HP1 P2 HX0
        go_wp2_with fail
        refine (P3.out).mono ?_
        rintro e w2 ⟨⟨⟨xd, xb⟩, xa, xc⟩, rfl, hx2, _, hB2⟩
        have hxd : xd = r.2.dir := by rw [← hx2]
        have HB2 := Lib.hid (HB1.out.trans (hB2.mono HB1.out.size))
        have HB3 := Lib.hid (HB2.out.alloc HB2.out.size (.cells #[.string (bs tp), .bool xd, .slice xa xb.length xc] 80))

        rw [HD.out] at hxd
        subst hxd
        clear t0 t1 t2 hx2 hB2
        go_wp2_with fail
        go_ret2
        exact ⟨rfl, HB3.out⟩
    · have d2 : (r.1 != 0) = true := by simpa using h1
      rw [if_neg h1] at hU
      subst hU
      clear h0 h1
      go_enter Tryz.func35, Tryz.ntmps35
      go_wp2_with fail
      refine (HP1.out).mono ?_
      rintro e w1 ⟨rfl, hB1⟩
      have hx := heap_below HX0.out hB1
      have t0 : w1.cell? ⟨w.heap.size, 0, none⟩ = some (.int .i64 I) := cell_of_row _ _ 0 _ _ _ hx
      have t1 : w1.cell? ⟨w.heap.size, 1, none⟩ = some (.int .i64 J) := cell_of_row _ _ 1 _ _ _ hx
      have t2 : w1.cell? ⟨w.heap.size, 2, none⟩ = some (.slice A n c) := cell_of_row _ _ 2 _ _ _ hx
      have HB1 := Lib.hid (HB0.out.trans (hB1.mono HB0.out.size))
      have P3 := Lib.hid (P2.out w1 HB1.out)
      clear hx hB1 HP1 P2 HX0
      go_wp2_with fail
      refine (P3.out).mono ?_
      rintro e w2 ⟨⟨⟨xd, xb⟩, xa, xc⟩, rfl, hx2, _, hB2⟩
      have hxd : xd = r.2.dir := by rw [← hx2]
      have HB2 := Lib.hid (HB1.out.trans (hB2.mono HB1.out.size))
      have HB3 := Lib.hid (HB2.out.alloc HB2.out.size (.cells #[.string (bs tp), .bool xd, .slice xa xb.length xc] 80))

      clear t0 t1 t2 hx2 hB2 hxd
      go_wp2_with fail
      go_ret2
      exact ⟨rfl, HB3.out⟩
  · have d1 : (a != 0) = true := by simpa using h0
    rw [if_neg h0] at hU
    subst hU
    clear h0 P2
    go_enter Tryz.func35, Tryz.ntmps35
    go_wp2_with fail
    refine (HP1.out).mono ?_
    rintro e w1 ⟨rfl, hB1⟩
    have HB1 := Lib.hid (HB0.out.trans (hB1.mono HB0.out.size))
    clear hB1 HP1
    go_wp2_with fail
    go_ret2
    exact ⟨rfl, HB1.out⟩
end Go.Proofs.YtabecceojbeomaaGreatDoor
end

section
/- How the reference's functions that tell a tree and an answer end. No condition. -/
namespace Go.Cat.Tree
open Go.RowKit Go.Cat Go.Proofs.YtabecceojbeomaaGreatDoor
section
variable {wq : World} {R S : Nat} {a b c u0 u1 u2 x0 x1 x2 x3 x4 y0 y1 y2 y3 y4 : Value} {t t' : TypeId} {fr fr' : Nat × Nat}
theorem set5_block (h : wq.heap[S]? = some (.cells #[y0, y1, y2, y3, y4] t fr)) :
    (((((wq.setCell ⟨S, 0, none⟩ x0).setCell ⟨S, 1, none⟩ x1).setCell ⟨S, 2, none⟩ x2).setCell ⟨S, 3, none⟩ x3).setCell ⟨S, 4, none⟩ x4).heap[S]? = some (.cells #[x0, x1, x2, x3, x4] t fr) := by
  have := Go.Cat.set_block x4 (Go.Cat.set_block x3 (Go.Cat.set_block x2 (Go.Cat.set_block x1 (Go.Cat.set_block x0 h (i := 0)) (i := 1)) (i := 2)) (i := 3)) (i := 4)
  simpa using this
theorem tch5B (w : World) (g : Nat) (x0 x1 x2 x3 x4 : Value) : Tch (fun k => k = g) w (((((w.setCell ⟨g, 0, none⟩ x0).setCell ⟨g, 1, none⟩ x1).setCell ⟨g, 2, none⟩ x2).setCell ⟨g, 3, none⟩ x3).setCell ⟨g, 4, none⟩ x4) :=
  ((((Tch.set _ _ _ _).trans (Tch.set _ _ _ _)).trans (Tch.set _ _ _ _)).trans (Tch.set _ _ _ _)).trans (Tch.set _ _ _ _)
theorem heap_drewL {w : World} {b : Nat} {x : Obj} (h : w.heap[b]? = some x) : w.drew.heap[b]? = some x := h
/-- The results' two boxes, stored into. -/
abbrev leafW (wq : World) (R S : Nat) (a b c x0 x1 x2 x3 x4 : Value) : World :=
  ((((((((wq.setCell ⟨R, 0, none⟩ a).setCell ⟨R, 1, none⟩ b).setCell ⟨R, 2, none⟩ c).setCell ⟨S, 0, none⟩ x0).setCell ⟨S, 1, none⟩ x1).setCell ⟨S, 2, none⟩ x2).setCell ⟨S, 3, none⟩ x3).setCell ⟨S, 4, none⟩ x4)
theorem leaf_r (h : wq.heap[R]? = some (.cells #[u0, u1, u2] t fr)) (hn : R ≠ S) : (leafW wq R S a b c x0 x1 x2 x3 x4).heap[R]? = some (.cells #[a, b, c] t fr) :=
  heap_touch (set3_block a b c h) (tch5B _ _ _ _ _ _ _) (fun e => hn e)
theorem leaf_s (h : wq.heap[S]? = some (.cells #[y0, y1, y2, y3, y4] t fr)) (hn : R ≠ S) : (leafW wq R S a b c x0 x1 x2 x3 x4).heap[S]? = some (.cells #[x0, x1, x2, x3, x4] t fr) :=
  set5_block (heap_touch h (tch3B _ _ _ _ _) (fun e => hn e.symm))
theorem leaf_b {B : Nat} {w : World} (h : Below B w wq) (hs : B ≤ wq.heap.size) (h1 : B ≤ R) (h2 : B ≤ S) : Below B w (leafW wq R S a b c x0 x1 x2 x3 x4) := by
  have t1 := (tch3B wq R a b c).below hs fun k e => by omega
  exact (h.trans t1).trans ((tch5B _ _ _ _ _ _ _).below (Nat.le_trans hs t1.size) fun k e => by omega)
end
end Go.Cat.Tree
namespace Go.Proofs.YtabecceojbeomaaGreatDoor
open Go.RowKit Go.Cat Go.Cat.Dir Go.Cat.Tree
/-- What tells a tree and an answer. -/
def ToldRDo (r : TL × AnsV) (I J : Int) (w : World) (e : Ending) (w' : World) : Prop :=
  ∃ (A2 : Option Addr) (c2 : Nat) (es2 : List (Txt × El)) (B : Option Addr) (cB : Nat) (C : Option Addr) (cC : Nat), e = .returned (.tuple #[.agg #[.int .i64 I, .int .i64 J, .slice A2 es2.length c2], .agg #[.int .i64 r.2.code, .slice B r.2.data.length cB, .slice C r.2.names.length cC, .int .i64 r.2.size, .bool r.2.dir]]) ∧
    RT w' A2 c2 es2 ∧ fullR es2 = r.1 ∧ Bytes w' B r.2.data ∧ Texts w' C r.2.names ∧ Below w.heap.size w w'
theorem told_no {I J z : Int} {w W : World} {A : Option Addr} {c k : Nat} {es : List (Txt × El)} (h : RT w A c es) (hk : k = es.length) (hb : Below w.heap.size w W) :
    ToldRDo (fullR es, wrongV z) I J w (.returned (.tuple #[.agg #[.int .i64 I, .int .i64 J, .slice A k c], .agg #[.int .i64 z, .slice none 0 0, .slice none 0 0, .int .i64 0, .bool false]])) W :=
  ⟨A, c, es, none, 0, none, 0, by rw [hk]; rfl, h.below hb, rfl, .inl rfl, .inl rfl, hb⟩
end Go.Proofs.YtabecceojbeomaaGreatDoor
end

section
/- The contract of the reference's fits. Conditions: the tree's invariant. -/
namespace Go.Proofs.YtabecceojbeomaaGreatDoor
open Go.RowKit Go.Cat Go.Cat.Dir Go.Cat.Tree
set_option maxRecDepth 100000 in
set_option maxHeartbeats 1000000 in
theorem rfits_any (I J : Int) (A : Option Addr) (es : List (Txt × El)) (c : Nat) (A' : Option Addr) (es' : List (Txt × El)) (c' : Nat) (w : World) (h : RT w A c es) (h' : RT w A' c' es') (hi : Inv (fullR es')) (hn : es'.length ≤ 1000) :
    Calls Tryz.prog 39 #[.agg #[.int .i64 I, .int .i64 J, .slice A es.length c], .agg #[.int .i64 I, .int .i64 J, .slice A' es'.length c']] w (ToldRDo (if overV I J (fullR es') then (fullR es, wrongV 16) else (fullR es', {})) I J w) := by
  have HRT := Lib.hid h
  have HRT' := Lib.hid h'
  have PB := Lib.hid (fun W (hW : Below w.heap.size w W) => rblocks_any I J A' es' c' W (h'.below hW) hi hn)
  have PN := Lib.hid (fun W => rno_any 16 W)
  obtain ⟨k, hk⟩ : ∃ k, k = es.length := ⟨_, rfl⟩
  obtain ⟨n, hnn⟩ : ∃ n, n = es'.length := ⟨_, rfl⟩
  have hov : overV I J (fullR es') = (decide (I < (n : Int) + 1) || decide (J < blocksV (fullR es'))) := by unfold overV; rw [full_length, hnn]; rfl
  obtain ⟨bl, hbl⟩ : ∃ bl, bl = blocksV (fullR es') := ⟨_, rfl⟩
  rw [← hbl] at hov
  simp only [← hbl, ← hnn] at PB
  obtain ⟨R, hR⟩ : ∃ R, R = if overV I J (fullR es') then (fullR es, wrongV 16) else (fullR es', {}) := ⟨_, rfl⟩
  rw [← hR, ← hk, ← hnn]
  rw [hov] at hR
  rw [← hnn] at hn
  have HK := Lib.hid hk
  have HN := Lib.hid hnn
  obtain ⟨W0, hW0⟩ : ∃ W0, W0 = (((w.alloc (.cells #[.int .i64 I, .int .i64 J, .slice A k c] 53)).alloc (.cells #[.int .i64 I, .int .i64 J, .slice A' n c'] 53)).alloc (.cells #[.int .i64 0, .int .i64 0, .slice none 0 0] 53)).alloc (.cells #[.int .i64 0, .slice none 0 0, .slice none 0 0, .int .i64 0, .bool false] 36) := ⟨_, rfl⟩
  obtain ⟨a1, a2, a3, a4, a5, a6⟩ := allocs4 hW0
  have HT0 := Lib.hid a1
  have HT2 := Lib.hid a2
  have HR0 := Lib.hid a3
  have HS0 := Lib.hid a4
  have HSz := Lib.hid a5
  have HB0 := Lib.hid a6
  have HW0 := Lib.hid hW0
  clear hk hnn h h' hi hov hbl a1 a2 a3 a4 a5 a6 hW0
  go_enter Tryz.func39, Tryz.ntmps39
  go_upto_region 1 with (fail)
  rw [← HW0.out, show w.heap.size + 1 + 1 = w.heap.size + 2 from rfl, show w.heap.size + 2 + 1 = w.heap.size + 3 from rfl]
  have t0 : W0.cell? ⟨w.heap.size, 0, none⟩ = some (.int .i64 I) := cell_of_row _ _ 0 _ _ _ HT0.out
  have t1 : W0.cell? ⟨w.heap.size, 1, none⟩ = some (.int .i64 J) := cell_of_row _ _ 1 _ _ _ HT0.out
  have t2 : W0.cell? ⟨w.heap.size, 2, none⟩ = some (.slice A k c) := cell_of_row _ _ 2 _ _ _ HT0.out
  have u0 : W0.cell? ⟨w.heap.size + 1, 0, none⟩ = some (.int .i64 I) := cell_of_row _ _ 0 _ _ _ HT2.out
  have u1 : W0.cell? ⟨w.heap.size + 1, 1, none⟩ = some (.int .i64 J) := cell_of_row _ _ 1 _ _ _ HT2.out
  have u2 : W0.cell? ⟨w.heap.size + 1, 2, none⟩ = some (.slice A' n c') := cell_of_row _ _ 2 _ _ _ HT2.out
  have hw : IntKind.i64.wrap ((n : Int) + 1) = (n : Int) + 1 := IntWalk.i64_in _ (by omega)
  clear HW0
  by_cases hI : I < (n : Int) + 1
  · have d1 : decide (I < (n : Int) + 1) = true := by simpa using hI
    rw [d1, Bool.true_or, if_pos rfl] at hR
    subst hR
    go_quiet (fail)
    have HBq := Lib.hid (below_drewN (Below.refl (w.heap.size + 4) W0) nq)
    obtain ⟨wq, hwq⟩ : ∃ wq, wq = W0.drewN nq := ⟨_, rfl⟩
    rw [← hwq] at HBq ⊢
    clear hwq t0 t1 t2 u0 u1 u2 d1 hI
    have HBw := Lib.hid (HB0.out.trans (HBq.out.mono (show w.heap.size ≤ w.heap.size + 4 by omega)))
    have HT := Lib.hid (blk_in HBq.out HT0.out (by omega))
    have HR := Lib.hid (blk_in HBq.out HR0.out (by omega))
    have HS := Lib.hid (blk_in HBq.out HS0.out (by omega))
    have t0 : wq.cell? ⟨w.heap.size, 0, none⟩ = some (.int .i64 I) := cell_of_row _ _ 0 _ _ _ HT.out
    have t1 : wq.cell? ⟨w.heap.size, 1, none⟩ = some (.int .i64 J) := cell_of_row _ _ 1 _ _ _ HT.out
    have t2 : wq.cell? ⟨w.heap.size, 2, none⟩ = some (.slice A k c) := cell_of_row _ _ 2 _ _ _ HT.out
    have lT : w.heap.size < wq.heap.size := heap_lt HT.out
    have r0 : wq.cell? ⟨w.heap.size + 2, 0, none⟩ = some (.int .i64 0) := cell_of_row _ _ 0 _ _ _ HR.out
    have r1 : wq.cell? ⟨w.heap.size + 2, 1, none⟩ = some (.int .i64 0) := cell_of_row _ _ 1 _ _ _ HR.out
    have r2 : wq.cell? ⟨w.heap.size + 2, 2, none⟩ = some (.slice none 0 0) := cell_of_row _ _ 2 _ _ _ HR.out
    have s0 : wq.cell? ⟨w.heap.size + 3, 0, none⟩ = some (.int .i64 0) := cell_of_row _ _ 0 _ _ _ HS.out
    have s1 : wq.cell? ⟨w.heap.size + 3, 1, none⟩ = some (.slice none 0 0) := cell_of_row _ _ 1 _ _ _ HS.out
    have s2 : wq.cell? ⟨w.heap.size + 3, 2, none⟩ = some (.slice none 0 0) := cell_of_row _ _ 2 _ _ _ HS.out
    have s3 : wq.cell? ⟨w.heap.size + 3, 3, none⟩ = some (.int .i64 0) := cell_of_row _ _ 3 _ _ _ HS.out
    have s4 : wq.cell? ⟨w.heap.size + 3, 4, none⟩ = some (.bool false) := cell_of_row _ _ 4 _ _ _ HS.out
    have v0 := frozen_of_row wq (w.heap.size + 2) 0 _ _ HR.out
    have v1 := frozen_of_row wq (w.heap.size + 2) 1 _ _ HR.out
    have v2 := frozen_of_row wq (w.heap.size + 2) 2 _ _ HR.out
    have z0 := frozen_of_row wq (w.heap.size + 3) 0 _ _ HS.out
    have z1 := frozen_of_row wq (w.heap.size + 3) 1 _ _ HS.out
    have z2 := frozen_of_row wq (w.heap.size + 3) 2 _ _ HS.out
    have z3 := frozen_of_row wq (w.heap.size + 3) 3 _ _ HS.out
    have z4 := frozen_of_row wq (w.heap.size + 3) 4 _ _ HS.out
    have lR : w.heap.size + 2 < wq.heap.size := heap_lt HR.out
    have lS : w.heap.size + 3 < wq.heap.size := heap_lt HS.out
    go_wp2_with fail
    go_region_law (first
      | (go_simp; go_at_call 36; refine (PN.out _).mono ?_; rintro e w5 ⟨rfl, rfl⟩)
      | fail)
    all_goals
      have hlr := heap_drewL (heap_alloc (leaf_r (a := .int .i64 I) (b := .int .i64 J) (c := .slice A k c) (x0 := .int .i64 16) (x1 := .slice none 0 0) (x2 := .slice none 0 0) (x3 := .int .i64 0) (x4 := .bool false) HR.out (by omega : w.heap.size + 2 ≠ w.heap.size + 3)) (.cells #[.int .i64 16, .slice none 0 0, .slice none 0 0, .int .i64 0, .bool false] 36))
      have hls := heap_drewL (heap_alloc (leaf_s (a := .int .i64 I) (b := .int .i64 J) (c := .slice A k c) (x0 := .int .i64 16) (x1 := .slice none 0 0) (x2 := .slice none 0 0) (x3 := .int .i64 0) (x4 := .bool false) HS.out (by omega : w.heap.size + 2 ≠ w.heap.size + 3)) (.cells #[.int .i64 16, .slice none 0 0, .slice none 0 0, .int .i64 0, .bool false] 36))
      have hlb := leaf_b (R := w.heap.size + 2) (S := w.heap.size + 3) (a := .int .i64 I) (b := .int .i64 J) (c := .slice A k c) (x0 := .int .i64 16) (x1 := .slice none 0 0) (x2 := .slice none 0 0) (x3 := .int .i64 0) (x4 := .bool false) HBw.out HBw.out.size (by omega) (by omega)
      have hlt := told_no (I := I) (J := J) (z := 16) HRT.out HK.out (hlb.alloc hlb.size (.cells #[.int .i64 16, .slice none 0 0, .slice none 0 0, .int .i64 0, .bool false] 36)).drew
      go_wp2_with fail
      exact bodyPost_ret (ret_rta rfl (by rfl) hlr (by rfl) hls) rfl hlt
  · have d1 : decide (I < (n : Int) + 1) = false := by simpa using hI
    rw [d1, Bool.false_or] at hR
    have PB1 := Lib.hid (PB.out W0.drew HB0.out.drew)
    have G1 : Hid (∀ W, Below W0.drew.heap.size W0.drew W → W.cell? ⟨w.heap.size + 1, 1, none⟩ = some (.int .i64 J)) := fun W hW => cell_of_row _ _ 1 _ _ _ (heap_below HT2.out (drew_below hW))
    clear PB
    by_cases hJ : J < bl
    · have d2 : decide (J < bl) = true := by simpa using hJ
      rw [d2, if_pos rfl] at hR
      subst hR
      clear hI hJ
      go_region_law (first
        | (go_simp; go_at_call 48; with_reducible refine (PB1.out).mono ?_; rintro e w5 ⟨rfl, hB5⟩; have q1 := G1.out w5 hB5)
        | fail)
      all_goals
        clear t0 t1 t2 u0 u1 u2 d1 d2 PB1 q1
        have HBq := Lib.hid ((Below.refl (w.heap.size + 4) W0).trans ((drew_below hB5).mono (Nat.le_of_eq HSz.out.symm)))
        have HBw := Lib.hid (HB0.out.trans (HBq.out.mono (show w.heap.size ≤ w.heap.size + 4 by omega)))
        clear hB5
        have HT := Lib.hid (blk_in HBq.out HT0.out (by omega))
        have HR := Lib.hid (blk_in HBq.out HR0.out (by omega))
        have HS := Lib.hid (blk_in HBq.out HS0.out (by omega))
        have t0 : w5.cell? ⟨w.heap.size, 0, none⟩ = some (.int .i64 I) := cell_of_row _ _ 0 _ _ _ HT.out
        have t1 : w5.cell? ⟨w.heap.size, 1, none⟩ = some (.int .i64 J) := cell_of_row _ _ 1 _ _ _ HT.out
        have t2 : w5.cell? ⟨w.heap.size, 2, none⟩ = some (.slice A k c) := cell_of_row _ _ 2 _ _ _ HT.out
        have lT : w.heap.size < w5.heap.size := heap_lt HT.out
        have r0 : w5.cell? ⟨w.heap.size + 2, 0, none⟩ = some (.int .i64 0) := cell_of_row _ _ 0 _ _ _ HR.out
        have r1 : w5.cell? ⟨w.heap.size + 2, 1, none⟩ = some (.int .i64 0) := cell_of_row _ _ 1 _ _ _ HR.out
        have r2 : w5.cell? ⟨w.heap.size + 2, 2, none⟩ = some (.slice none 0 0) := cell_of_row _ _ 2 _ _ _ HR.out
        have s0 : w5.cell? ⟨w.heap.size + 3, 0, none⟩ = some (.int .i64 0) := cell_of_row _ _ 0 _ _ _ HS.out
        have s1 : w5.cell? ⟨w.heap.size + 3, 1, none⟩ = some (.slice none 0 0) := cell_of_row _ _ 1 _ _ _ HS.out
        have s2 : w5.cell? ⟨w.heap.size + 3, 2, none⟩ = some (.slice none 0 0) := cell_of_row _ _ 2 _ _ _ HS.out
        have s3 : w5.cell? ⟨w.heap.size + 3, 3, none⟩ = some (.int .i64 0) := cell_of_row _ _ 3 _ _ _ HS.out
        have s4 : w5.cell? ⟨w.heap.size + 3, 4, none⟩ = some (.bool false) := cell_of_row _ _ 4 _ _ _ HS.out
        have v0 := frozen_of_row w5 (w.heap.size + 2) 0 _ _ HR.out
        have v1 := frozen_of_row w5 (w.heap.size + 2) 1 _ _ HR.out
        have v2 := frozen_of_row w5 (w.heap.size + 2) 2 _ _ HR.out
        have z0 := frozen_of_row w5 (w.heap.size + 3) 0 _ _ HS.out
        have z1 := frozen_of_row w5 (w.heap.size + 3) 1 _ _ HS.out
        have z2 := frozen_of_row w5 (w.heap.size + 3) 2 _ _ HS.out
        have z3 := frozen_of_row w5 (w.heap.size + 3) 3 _ _ HS.out
        have z4 := frozen_of_row w5 (w.heap.size + 3) 4 _ _ HS.out
        have lR : w.heap.size + 2 < w5.heap.size := heap_lt HR.out
        have lS : w.heap.size + 3 < w5.heap.size := heap_lt HS.out
        go_wp2_with fail
        go_region_law (first
          | (go_simp; go_at_call 36; refine (PN.out _).mono ?_; rintro e w6 ⟨rfl, rfl⟩)
          | fail)
        all_goals
          have hlr := heap_drewL (heap_alloc (leaf_r (a := .int .i64 I) (b := .int .i64 J) (c := .slice A k c) (x0 := .int .i64 16) (x1 := .slice none 0 0) (x2 := .slice none 0 0) (x3 := .int .i64 0) (x4 := .bool false) HR.out (by omega : w.heap.size + 2 ≠ w.heap.size + 3)) (.cells #[.int .i64 16, .slice none 0 0, .slice none 0 0, .int .i64 0, .bool false] 36))
          have hls := heap_drewL (heap_alloc (leaf_s (a := .int .i64 I) (b := .int .i64 J) (c := .slice A k c) (x0 := .int .i64 16) (x1 := .slice none 0 0) (x2 := .slice none 0 0) (x3 := .int .i64 0) (x4 := .bool false) HS.out (by omega : w.heap.size + 2 ≠ w.heap.size + 3)) (.cells #[.int .i64 16, .slice none 0 0, .slice none 0 0, .int .i64 0, .bool false] 36))
          have hlb := leaf_b (R := w.heap.size + 2) (S := w.heap.size + 3) (a := .int .i64 I) (b := .int .i64 J) (c := .slice A k c) (x0 := .int .i64 16) (x1 := .slice none 0 0) (x2 := .slice none 0 0) (x3 := .int .i64 0) (x4 := .bool false) HBw.out HBw.out.size (by omega) (by omega)
          have hlt := told_no (I := I) (J := J) (z := 16) HRT.out HK.out (hlb.alloc hlb.size (.cells #[.int .i64 16, .slice none 0 0, .slice none 0 0, .int .i64 0, .bool false] 36)).drew
          go_wp2_with fail
          exact bodyPost_ret (ret_rta rfl (by rfl) hlr (by rfl) hls) rfl hlt
    · have d2 : decide (J < bl) = false := by simpa using hJ
      rw [d2, if_neg (by simp)] at hR
      subst hR
      clear hI hJ
      go_region_law (first
        | (go_simp; go_at_call 48; with_reducible refine (PB1.out).mono ?_; rintro e w5 ⟨rfl, hB5⟩; have q1 := G1.out w5 hB5)
        | fail)
      all_goals
        clear t0 t1 t2 u0 u1 u2 d1 d2 PB1 q1
        have HBq := Lib.hid ((Below.refl (w.heap.size + 4) W0).trans ((drew_below hB5).mono (Nat.le_of_eq HSz.out.symm)))
        have HBw := Lib.hid (HB0.out.trans (HBq.out.mono (show w.heap.size ≤ w.heap.size + 4 by omega)))
        clear hB5
        have HT := Lib.hid (blk_in HBq.out HT0.out (by omega))
        have HR := Lib.hid (blk_in HBq.out HR0.out (by omega))
        have HS := Lib.hid (blk_in HBq.out HS0.out (by omega))
        have t0 : w5.cell? ⟨w.heap.size, 0, none⟩ = some (.int .i64 I) := cell_of_row _ _ 0 _ _ _ HT.out
        have t1 : w5.cell? ⟨w.heap.size, 1, none⟩ = some (.int .i64 J) := cell_of_row _ _ 1 _ _ _ HT.out
        have t2 : w5.cell? ⟨w.heap.size, 2, none⟩ = some (.slice A k c) := cell_of_row _ _ 2 _ _ _ HT.out
        have lT : w.heap.size < w5.heap.size := heap_lt HT.out
        have r0 : w5.cell? ⟨w.heap.size + 2, 0, none⟩ = some (.int .i64 0) := cell_of_row _ _ 0 _ _ _ HR.out
        have r1 : w5.cell? ⟨w.heap.size + 2, 1, none⟩ = some (.int .i64 0) := cell_of_row _ _ 1 _ _ _ HR.out
        have r2 : w5.cell? ⟨w.heap.size + 2, 2, none⟩ = some (.slice none 0 0) := cell_of_row _ _ 2 _ _ _ HR.out
        have s0 : w5.cell? ⟨w.heap.size + 3, 0, none⟩ = some (.int .i64 0) := cell_of_row _ _ 0 _ _ _ HS.out
        have s1 : w5.cell? ⟨w.heap.size + 3, 1, none⟩ = some (.slice none 0 0) := cell_of_row _ _ 1 _ _ _ HS.out
        have s2 : w5.cell? ⟨w.heap.size + 3, 2, none⟩ = some (.slice none 0 0) := cell_of_row _ _ 2 _ _ _ HS.out
        have s3 : w5.cell? ⟨w.heap.size + 3, 3, none⟩ = some (.int .i64 0) := cell_of_row _ _ 3 _ _ _ HS.out
        have s4 : w5.cell? ⟨w.heap.size + 3, 4, none⟩ = some (.bool false) := cell_of_row _ _ 4 _ _ _ HS.out
        have v0 := frozen_of_row w5 (w.heap.size + 2) 0 _ _ HR.out
        have v1 := frozen_of_row w5 (w.heap.size + 2) 1 _ _ HR.out
        have v2 := frozen_of_row w5 (w.heap.size + 2) 2 _ _ HR.out
        have z0 := frozen_of_row w5 (w.heap.size + 3) 0 _ _ HS.out
        have z1 := frozen_of_row w5 (w.heap.size + 3) 1 _ _ HS.out
        have z2 := frozen_of_row w5 (w.heap.size + 3) 2 _ _ HS.out
        have z3 := frozen_of_row w5 (w.heap.size + 3) 3 _ _ HS.out
        have z4 := frozen_of_row w5 (w.heap.size + 3) 4 _ _ HS.out
        have lR : w.heap.size + 2 < w5.heap.size := heap_lt HR.out
        have lS : w.heap.size + 3 < w5.heap.size := heap_lt HS.out
        have HT' := Lib.hid (blk_in HBq.out HT2.out (by omega))
        have u0 : w5.cell? ⟨w.heap.size + 1, 0, none⟩ = some (.int .i64 I) := cell_of_row _ _ 0 _ _ _ HT'.out
        have u1 : w5.cell? ⟨w.heap.size + 1, 1, none⟩ = some (.int .i64 J) := cell_of_row _ _ 1 _ _ _ HT'.out
        have u2 : w5.cell? ⟨w.heap.size + 1, 2, none⟩ = some (.slice A' n c') := cell_of_row _ _ 2 _ _ _ HT'.out
        go_wp2_with fail
        have hlr := leaf_r (a := .int .i64 I) (b := .int .i64 J) (c := .slice A' n c') (x0 := .int .i64 0) (x1 := .slice none 0 0) (x2 := .slice none 0 0) (x3 := .int .i64 0) (x4 := .bool false) HR.out (by omega : w.heap.size + 2 ≠ w.heap.size + 3)
        have hls := leaf_s (a := .int .i64 I) (b := .int .i64 J) (c := .slice A' n c') (x0 := .int .i64 0) (x1 := .slice none 0 0) (x2 := .slice none 0 0) (x3 := .int .i64 0) (x4 := .bool false) HS.out (by omega : w.heap.size + 2 ≠ w.heap.size + 3)
        have hlb := leaf_b (R := w.heap.size + 2) (S := w.heap.size + 3) (a := .int .i64 I) (b := .int .i64 J) (c := .slice A' n c') (x0 := .int .i64 0) (x1 := .slice none 0 0) (x2 := .slice none 0 0) (x3 := .int .i64 0) (x4 := .bool false) HBw.out HBw.out.size (by omega) (by omega)
        have hlt := told_no (I := I) (J := J) (z := 0) HRT'.out HN.out hlb
        exact bodyPost_ret (ret_rta rfl (by rfl) hlr (by rfl) hls) rfl hlt
end Go.Proofs.YtabecceojbeomaaGreatDoor
end

section
/- What the walks of the reference's remove, rename and bytes keep. No condition. -/
namespace Go.Cat.Tree
open Go.RowKit Go.Cat Go.Cat.Dir
section
variable {l : TL} {p : Txt}
theorem file_err (h : (findV l p).1 ≠ 0) : fileV l p = ((findV l p).1, zeroT) := by unfold fileV; rw [if_neg h]
theorem file_dir (h : (findV l p).1 = 0) (hd : (findV l p).2.dir = true) : fileV l p = (15, zeroT) := by unfold fileV; rw [if_pos h, if_pos hd]
theorem file_file (h : (findV l p).1 = 0) (hd : (findV l p).2.dir = false) : fileV l p = (0, (findV l p).2) := by unfold fileV; rw [if_pos h, if_neg (by rw [hd]; simp)]
end
end Go.Cat.Tree
namespace Go.Proofs.YtabecceojbeomaaGreatDoor
open Go.RowKit Go.Cat Go.Cat.Dir Go.Cat.Tree
/-- The four boxes of a call's own: the tree, the call, both results. -/
structure RxW (w : World) (I J : Int) (A : Option Addr) (k ca : Nat) (c : CallV) (Ac : Option Addr) (cA : Nat) (W : World) : Prop where
  tb : W.heap[w.heap.size]? = some (.cells #[.int .i64 I, .int .i64 J, .slice A k ca] 53 (0, 0))
  cb : W.heap[w.heap.size + 1]? = some (.cells (callC c Ac cA) 33 (0, 0))
  rb : W.heap[w.heap.size + 2]? = some (.cells #[.int .i64 0, .int .i64 0, .slice none 0 0] 53 (0, 0))
  sb : W.heap[w.heap.size + 3]? = some (.cells #[.int .i64 0, .slice none 0 0, .slice none 0 0, .int .i64 0, .bool false] 36 (0, 0))
  bel : Below w.heap.size w W
section
variable {w W W' : World} {I J : Int} {A : Option Addr} {k ca : Nat} {c : CallV} {Ac : Option Addr} {cA : Nat}
theorem RxW.new {W0 : World} (h : W0 = (((w.alloc (.cells #[.int .i64 I, .int .i64 J, .slice A k ca] 53)).alloc (.cells (callC c Ac cA) 33)).alloc (.cells #[.int .i64 0, .int .i64 0, .slice none 0 0] 53)).alloc (.cells #[.int .i64 0, .slice none 0 0, .slice none 0 0, .int .i64 0, .bool false] 36)) : RxW w I J A k ca c Ac cA W0 := by
  obtain ⟨a1, a2, a3, a4, _, a6⟩ := allocs4 h
  exact ⟨a1, a2, a3, a4, a6⟩
theorem RxW.below (h : RxW w I J A k ca c Ac cA W) (hb : Below W.heap.size W W') : RxW w I J A k ca c Ac cA W' :=
  ⟨heap_below h.tb hb, heap_below h.cb hb, heap_below h.rb hb, heap_below h.sb hb, h.bel.trans (hb.mono h.bel.size)⟩
theorem RxW.alloc (h : RxW w I J A k ca c Ac cA W) (o : Obj) : RxW w I J A k ca c Ac cA (W.alloc o) := h.below ((Below.refl _ _).alloc (Nat.le_refl _) _)
theorem RxW.drew (h : RxW w I J A k ca c Ac cA W) : RxW w I J A k ca c Ac cA W.drew := ⟨h.tb, h.cb, h.rb, h.sb, h.bel.drew⟩
theorem RxW.drewN (h : RxW w I J A k ca c Ac cA W) (n : Nat) : RxW w I J A k ca c Ac cA (W.drewN n) := ⟨h.tb, h.cb, h.rb, h.sb, below_drewN h.bel n⟩
theorem RxW.tree (h : RxW w I J A k ca c Ac cA W) : W.cell? ⟨w.heap.size, 0, none⟩ = some (.int .i64 I) ∧ W.cell? ⟨w.heap.size, 1, none⟩ = some (.int .i64 J) ∧ W.cell? ⟨w.heap.size, 2, none⟩ = some (.slice A k ca) ∧ w.heap.size < W.heap.size :=
  ⟨cell_of_row _ _ 0 _ _ _ h.tb, cell_of_row _ _ 1 _ _ _ h.tb, cell_of_row _ _ 2 _ _ _ h.tb, heap_lt h.tb⟩
theorem RxW.call (h : RxW w I J A k ca c Ac cA W) : W.cell? ⟨w.heap.size + 1, 0, none⟩ = some (.int .i64 c.kind) ∧ W.cell? ⟨w.heap.size + 1, 1, none⟩ = some (.string (bs c.path)) ∧ W.cell? ⟨w.heap.size + 1, 2, none⟩ = some (.string (bs c.to)) ∧ W.cell? ⟨w.heap.size + 1, 3, none⟩ = some (.int .i64 c.off) ∧ W.cell? ⟨w.heap.size + 1, 4, none⟩ = some (.int .i64 c.n) ∧ W.cell? ⟨w.heap.size + 1, 5, none⟩ = some (.slice Ac c.data.length cA) ∧ w.heap.size + 1 < W.heap.size :=
  ⟨cell_of_row _ _ 0 _ _ _ h.cb, cell_of_row _ _ 1 _ _ _ h.cb, cell_of_row _ _ 2 _ _ _ h.cb, cell_of_row _ _ 3 _ _ _ h.cb, cell_of_row _ _ 4 _ _ _ h.cb, cell_of_row _ _ 5 _ _ _ h.cb, heap_lt h.cb⟩
theorem RxW.res (h : RxW w I J A k ca c Ac cA W) : (W.cell? ⟨w.heap.size + 2, 0, none⟩ = some (.int .i64 0) ∧ W.cell? ⟨w.heap.size + 2, 1, none⟩ = some (.int .i64 0) ∧ W.cell? ⟨w.heap.size + 2, 2, none⟩ = some (.slice none 0 0)) ∧
    (W.cell? ⟨w.heap.size + 3, 0, none⟩ = some (.int .i64 0) ∧ W.cell? ⟨w.heap.size + 3, 1, none⟩ = some (.slice none 0 0) ∧ W.cell? ⟨w.heap.size + 3, 2, none⟩ = some (.slice none 0 0) ∧ W.cell? ⟨w.heap.size + 3, 3, none⟩ = some (.int .i64 0) ∧ W.cell? ⟨w.heap.size + 3, 4, none⟩ = some (.bool false)) ∧
    (W.frozen? ⟨w.heap.size + 2, 0, none⟩ = false ∧ W.frozen? ⟨w.heap.size + 2, 1, none⟩ = false ∧ W.frozen? ⟨w.heap.size + 2, 2, none⟩ = false) ∧
    (W.frozen? ⟨w.heap.size + 3, 0, none⟩ = false ∧ W.frozen? ⟨w.heap.size + 3, 1, none⟩ = false ∧ W.frozen? ⟨w.heap.size + 3, 2, none⟩ = false ∧ W.frozen? ⟨w.heap.size + 3, 3, none⟩ = false ∧ W.frozen? ⟨w.heap.size + 3, 4, none⟩ = false) ∧
    w.heap.size + 2 < W.heap.size ∧ w.heap.size + 3 < W.heap.size :=
  ⟨⟨cell_of_row _ _ 0 _ _ _ h.rb, cell_of_row _ _ 1 _ _ _ h.rb, cell_of_row _ _ 2 _ _ _ h.rb⟩,
   ⟨cell_of_row _ _ 0 _ _ _ h.sb, cell_of_row _ _ 1 _ _ _ h.sb, cell_of_row _ _ 2 _ _ _ h.sb, cell_of_row _ _ 3 _ _ _ h.sb, cell_of_row _ _ 4 _ _ _ h.sb⟩,
   ⟨frozen_of_row _ _ 0 _ _ h.rb, frozen_of_row _ _ 1 _ _ h.rb, frozen_of_row _ _ 2 _ _ h.rb⟩,
   ⟨frozen_of_row _ _ 0 _ _ h.sb, frozen_of_row _ _ 1 _ _ h.sb, frozen_of_row _ _ 2 _ _ h.sb, frozen_of_row _ _ 3 _ _ h.sb, frozen_of_row _ _ 4 _ _ h.sb⟩, heap_lt h.rb, heap_lt h.sb⟩
/-- A row lasts through stores into blocks that hold no text and no byte. -/
theorem RT.skip {K : Nat → Prop} {A : Option Addr} {c : Nat} {es : List (Txt × El)} (h : RT w A c es) (ht : Tch K w W) (hs : ∀ k, K k → ∀ o (s : Txt), w.cell? ⟨k, o, none⟩ ≠ some (.string (bs s))) (hb : ∀ k, K k → ∀ o (u : UInt8), w.cell? ⟨k, o, none⟩ ≠ some (by8 u)) : RT W A c es := by
  refine ⟨?_, fun y hy => el_skip (h.all y hy) ht hb, h.len, h.cap⟩
  by_cases h0 : 0 < es.length
  · obtain ⟨b, off, hA, hlt, hc⟩ := h.see.elem (f := rthC) (k := 3) (fun _ => rfl) (by omega) h0
    subst hA
    have hb0 : ¬ K b := fun hk => hs b hk _ _ (hc 0 h0 0 (by omega))
    refine Sees.flat_mk (k := 3) (fun _ => rfl) (by omega) fun i hi j hj => ?_
    exact (World.cell?_of_block (ht.block b hlt hb0)).trans (hc i hi j hj)
  · rw [List.eq_nil_of_length_eq_zero (by omega : es.length = 0)]
    exact .inl rfl
theorem RxW.plain (h : RxW w I J A k ca c Ac cA W) : (∀ k, k = w.heap.size + 2 ∨ k = w.heap.size + 3 → ∀ o (s : Txt), W.cell? ⟨k, o, none⟩ ≠ some (.string (bs s))) ∧ ∀ k, k = w.heap.size + 2 ∨ k = w.heap.size + 3 → ∀ o (u : UInt8), W.cell? ⟨k, o, none⟩ ≠ some (by8 u) :=
  ⟨fun k hk o s => by rcases hk with rfl | rfl; exact no_cell h.rb (by simp) o; exact no_cell h.sb (by simp) o,
   fun k hk o u => by rcases hk with rfl | rfl; exact no_cell h.rb (by simp [by8]) o; exact no_cell h.sb (by simp [by8]) o⟩
/-- The end: both results stored. -/
theorem RxW.end_ {a b v x0 x1 x2 x3 x4 : Value} (h : RxW w I J A k ca c Ac cA W) : (leafW W (w.heap.size + 2) (w.heap.size + 3) a b v x0 x1 x2 x3 x4).heap[w.heap.size + 2]? = some (.cells #[a, b, v] 53 (0, 0)) ∧
    (leafW W (w.heap.size + 2) (w.heap.size + 3) a b v x0 x1 x2 x3 x4).heap[w.heap.size + 3]? = some (.cells #[x0, x1, x2, x3, x4] 36 (0, 0)) ∧ Below w.heap.size w (leafW W (w.heap.size + 2) (w.heap.size + 3) a b v x0 x1 x2 x3 x4) ∧
    Tch (fun k => k = w.heap.size + 2 ∨ k = w.heap.size + 3) W (leafW W (w.heap.size + 2) (w.heap.size + 3) a b v x0 x1 x2 x3 x4) :=
  ⟨leaf_r h.rb (by omega), leaf_s h.sb (by omega), leaf_b h.bel h.bel.size (by omega) (by omega), ((tch3B _ _ _ _ _).mono fun _ _ e => .inl e).trans ((tch5B _ _ _ _ _ _ _).mono fun _ _ e => .inr e)⟩
/-- A store into a box that is younger. -/
theorem RxW.side (h : RxW w I J A k ca c Ac cA W) {N i : Nat} {v : Value} (hN : w.heap.size + 3 < N) : RxW w I J A k ca c Ac cA (W.setCell ⟨N, i, none⟩ v) := by
  have ht := Tch.set W N i v
  exact ⟨heap_touch h.tb ht (fun e => by omega), heap_touch h.cb ht (fun e => by omega), heap_touch h.rb ht (fun e => by omega), heap_touch h.sb ht (fun e => by omega), h.bel.trans (ht.below h.bel.size fun k e => by omega)⟩
/-- What is told with all well: another tree. -/
theorem RxW.told (h : RxW w I J A k ca c Ac cA W) {A2 : Option Addr} {c2 : Nat} {es2 : List (Txt × El)} (hRT : RT W A2 c2 es2) {l : TL} (hl : fullR es2 = l) :
    ToldRDo (l, {}) I J w (.returned (.tuple #[.agg #[.int .i64 I, .int .i64 J, .slice A2 es2.length c2], .agg #[.int .i64 0, .slice none 0 0, .slice none 0 0, .int .i64 0, .bool false]])) (leafW W (w.heap.size + 2) (w.heap.size + 3) (.int .i64 I) (.int .i64 J) (.slice A2 es2.length c2) (.int .i64 0) (.slice none 0 0) (.slice none 0 0) (.int .i64 0) (.bool false)) := by
  obtain ⟨_, _, hb, ht⟩ := h.end_ (a := .int .i64 I) (b := .int .i64 J) (v := .slice A2 es2.length c2) (x0 := .int .i64 0) (x1 := .slice none 0 0) (x2 := .slice none 0 0) (x3 := .int .i64 0) (x4 := .bool false)
  exact ⟨A2, c2, es2, none, 0, none, 0, rfl, RT.skip hRT ht h.plain.1 h.plain.2, hl, .inl rfl, .inl rfl, hb⟩
/-- What is told in general: a tree, and an answer. -/
theorem RxW.toldF (h : RxW w I J A k ca c Ac cA W) {r : TL × AnsV} {A2 : Option Addr} {c2 : Nat} {es2 : List (Txt × El)} {B C : Option Addr} {cB cC m n q : Nat} (hRT : RT W A2 c2 es2) (hl : fullR es2 = r.1) (hB : Bytes W B r.2.data) (hC : Texts W C r.2.names) (hq : q = es2.length) (hm : m = r.2.data.length) (hn : n = r.2.names.length) :
    ToldRDo r I J w (.returned (.tuple #[.agg #[.int .i64 I, .int .i64 J, .slice A2 q c2], .agg #[.int .i64 r.2.code, .slice B m cB, .slice C n cC, .int .i64 r.2.size, .bool r.2.dir]])) (leafW W (w.heap.size + 2) (w.heap.size + 3) (.int .i64 I) (.int .i64 J) (.slice A2 q c2) (.int .i64 r.2.code) (.slice B m cB) (.slice C n cC) (.int .i64 r.2.size) (.bool r.2.dir)) := by
  obtain ⟨_, _, hb, ht⟩ := h.end_ (a := .int .i64 I) (b := .int .i64 J) (v := .slice A2 q c2) (x0 := .int .i64 r.2.code) (x1 := .slice B m cB) (x2 := .slice C n cC) (x3 := .int .i64 r.2.size) (x4 := .bool r.2.dir)
  refine ⟨A2, c2, es2, B, cB, C, cC, by rw [hq, hm, hn], RT.skip hRT ht h.plain.1 h.plain.2, hl, bytes_skip hB ht h.plain.2, sees_skip hC ht fun k hk o u hu => ?_, hb⟩
  obtain ⟨s, _, rfl⟩ := List.mem_map.1 hu
  exact h.plain.1 k hk o s
/-- What is told with bytes: the same tree. -/
theorem RxW.toldD (h : RxW w I J A k ca c Ac cA W) {es : List (Txt × El)} {d : List UInt8} {B : Option Addr} {cB m : Nat} (hRT : RT w A ca es) (hk : k = es.length) (hB : Bytes W B d) (hm : m = d.length) :
    ToldRDo (fullR es, { data := d }) I J w (.returned (.tuple #[.agg #[.int .i64 I, .int .i64 J, .slice A k ca], .agg #[.int .i64 0, .slice B m cB, .slice none 0 0, .int .i64 0, .bool false]])) (leafW W (w.heap.size + 2) (w.heap.size + 3) (.int .i64 I) (.int .i64 J) (.slice A k ca) (.int .i64 0) (.slice B m cB) (.slice none 0 0) (.int .i64 0) (.bool false)) :=
  h.toldF (r := (fullR es, { data := d })) (C := none) (cC := 0) (hRT.below h.bel) rfl hB (.inl rfl) hk hm rfl
theorem ToldRDo.drew {r : TL × AnsV} {e : Ending} (h : ToldRDo r I J w e W) : ToldRDo r I J w e W.drew := by
  obtain ⟨A2, c2, es2, B, cB, C, cC, h1, h2, h3, h4, h5, h6⟩ := h
  exact ⟨A2, c2, es2, B, cB, C, cC, h1, ⟨h2.see, h2.all, h2.len, h2.cap⟩, h3, h4, h5, h6.drew⟩
end
/-- What the loops of rename keep: the four boxes, and the tree that grows. -/
structure RnW (w : World) (I J : Int) (A : Option Addr) (k ca : Nat) (c : CallV) (Ac : Option Addr) (cA NU : Nat) (Au : Option Addr) (cu : Nat) (m : List (Txt × El)) (W : World) : Prop where
  x : RxW w I J A k ca c Ac cA W
  ub : W.heap[NU]? = some (.cells #[.int .i64 I, .int .i64 J, .slice Au m.length cu] 53 (0, 0))
  rt : RT W Au cu m
section
variable {w W W' : World} {I J : Int} {A Au : Option Addr} {k ca cu NU : Nat} {c : CallV} {Ac : Option Addr} {cA : Nat} {m : List (Txt × El)}
theorem RnW.below (h : RnW w I J A k ca c Ac cA NU Au cu m W) (hb : Below W.heap.size W W') : RnW w I J A k ca c Ac cA NU Au cu m W' := ⟨h.x.below hb, heap_below h.ub hb, h.rt.below hb⟩
theorem RnW.u (h : RnW w I J A k ca c Ac cA NU Au cu m W) : W.cell? ⟨NU, 0, none⟩ = some (.int .i64 I) ∧ W.cell? ⟨NU, 1, none⟩ = some (.int .i64 J) ∧ W.cell? ⟨NU, 2, none⟩ = some (.slice Au m.length cu) ∧ W.frozen? ⟨NU, 0, none⟩ = false ∧ W.frozen? ⟨NU, 1, none⟩ = false ∧ W.frozen? ⟨NU, 2, none⟩ = false ∧ NU < W.heap.size :=
  ⟨cell_of_row _ _ 0 _ _ _ h.ub, cell_of_row _ _ 1 _ _ _ h.ub, cell_of_row _ _ 2 _ _ _ h.ub, frozen_of_row _ _ 0 _ _ h.ub, frozen_of_row _ _ 1 _ _ h.ub, frozen_of_row _ _ 2 _ _ h.ub, heap_lt h.ub⟩
/-- Another row is stored. -/
theorem RnW.set (h : RnW w I J A k ca c Ac cA NU Au cu m W) {A2 : Option Addr} {c2 : Nat} {m2 : List (Txt × El)} (hRT : RT W A2 c2 m2) (hN : w.heap.size + 3 < NU) : RnW w I J A k ca c Ac cA NU A2 c2 m2 (((W.setCell ⟨NU, 0, none⟩ (.int .i64 I)).setCell ⟨NU, 1, none⟩ (.int .i64 J)).setCell ⟨NU, 2, none⟩ (.slice A2 m2.length c2)) :=
  ⟨((h.x.side hN).side hN).side hN, set3_block _ _ _ h.ub, RT.skip hRT (tch3B _ _ _ _ _) (fun k hk o s => by subst hk; exact no_cell h.ub (by simp) o) (fun k hk o u => by subst hk; exact no_cell h.ub (by simp [by8]) o)⟩
end
end Go.Proofs.YtabecceojbeomaaGreatDoor
end

section
/- The reference's renaming, plain: what is under the path is taken away, and then put elsewhere; it is the tree's. No condition. -/
namespace Go.Cat.Tree
open Go.RowKit Go.Cat Go.Cat.Dir Go.Proofs.YtabecceojbeomaaGreatDoor
def delF (path : Txt) (m l : List (Txt × El)) : List (Txt × El) := l.foldl (fun m y => if underV y.1 path then delT y.1 m else m) m
def putF (path to : Txt) (m l : List (Txt × El)) : List (Txt × El) := l.foldl (fun m y => if underV y.1 path then putT (goes path to y.1) y.2 m else m) m
variable {es : List (Txt × El)} {path to : Txt}
theorem delF_snoc (m l : List (Txt × El)) (y : Txt × El) : delF path m (l ++ [y]) = if underV y.1 path then delT y.1 (delF path m l) else delF path m l := by unfold delF; rw [List.foldl_append]; rfl
theorem putF_snoc (m l : List (Txt × El)) (y : Txt × El) : putF path to m (l ++ [y]) = if underV y.1 path then putT (goes path to y.1) y.2 (putF path to m l) else putF path to m l := by unfold putF; rw [List.foldl_append]; rfl
theorem delF_mem {y : Txt × El} : ∀ {l m : List (Txt × El)}, y ∈ delF path m l ↔ y ∈ m ∧ ∀ z ∈ l, underV z.1 path = true → y.1 ≠ z.1
  | [], m => ⟨fun h => ⟨h, fun z hz => by cases hz⟩, fun h => h.1⟩
  | z :: l, m => by
    show y ∈ delF path (if underV z.1 path then delT z.1 m else m) l ↔ _
    rw [delF_mem]
    by_cases hu : underV z.1 path = true
    · rw [if_pos hu, del_mem]
      constructor
      · rintro ⟨⟨h1, h2⟩, h3⟩
        refine ⟨h1, fun u hu1 hu2 => ?_⟩
        rcases List.mem_cons.1 hu1 with rfl | e
        · exact h2
        · exact h3 u e hu2
      · rintro ⟨h1, h2⟩
        exact ⟨⟨h1, h2 z (by simp) hu⟩, fun u hu1 => h2 u (List.mem_cons_of_mem _ hu1)⟩
    · rw [if_neg hu]
      constructor
      · rintro ⟨h1, h3⟩
        refine ⟨h1, fun u hu1 hu2 => ?_⟩
        rcases List.mem_cons.1 hu1 with rfl | e
        · exact absurd hu2 hu
        · exact h3 u e hu2
      · rintro ⟨h1, h2⟩
        exact ⟨h1, fun u hu1 => h2 u (List.mem_cons_of_mem _ hu1)⟩
theorem delF_all {y : Txt × El} : y ∈ delF path es es ↔ y ∈ es ∧ ¬ underV y.1 path = true := by
  rw [delF_mem]
  constructor
  · rintro ⟨h1, h2⟩
    exact ⟨h1, fun hu => h2 y h1 hu rfl⟩
  · rintro ⟨h1, h2⟩
    exact ⟨h1, fun z _ hu e => h2 (by rw [e]; exact hu)⟩
theorem delF_rise : ∀ {l m : List (Txt × El)}, Rise m → Rise (delF path m l)
  | [], _, h => h
  | z :: l, m, h => by
    show Rise (delF path (if underV z.1 path then delT z.1 m else m) l)
    refine delF_rise ?_
    split
    · exact h.del _
    · exact h
theorem delF_le : ∀ {l m : List (Txt × El)}, (delF path m l).length ≤ m.length
  | [], _ => Nat.le_refl _
  | z :: l, m => by
    show (delF path (if underV z.1 path then delT z.1 m else m) l).length ≤ _
    refine Nat.le_trans delF_le ?_
    split
    · exact del_le _ _
    · exact Nat.le_refl _
theorem putF_rise : ∀ {l m : List (Txt × El)}, Rise m → Rise (putF path to m l)
  | [], _, h => h
  | z :: l, m, h => by
    show Rise (putF path to (if underV z.1 path then putT (goes path to z.1) z.2 m else m) l)
    refine putF_rise ?_
    split
    · exact h.put _ _
    · exact h
theorem putF_le : ∀ {l m : List (Txt × El)}, (putF path to m l).length ≤ m.length + l.length
  | [], _ => Nat.le_refl _
  | z :: l, m => by
    show (putF path to (if underV z.1 path then putT (goes path to z.1) z.2 m else m) l).length ≤ _
    refine Nat.le_trans putF_le ?_
    split
    · have := put_le (goes path to z.1) z.2 m; rw [List.length_cons]; omega
    · rw [List.length_cons]; omega
theorem putF_mem {a b : List Txt} {x : Th} (h : MvOk (fullR es) a b x) {y : Txt × El} : ∀ {k : Nat}, y ∈ putF (joinV a) (joinV b) (delF (joinV a) es es) (es.take k) ↔ y ∈ delF (joinV a) es es ∨ ∃ z ∈ es.take k, underV z.1 (joinV a) = true ∧ y = (goes (joinV a) (joinV b) z.1, z.2)
  | 0 => by rw [List.take_zero]; exact ⟨.inl, fun h => h.elim id fun ⟨z, hz, _⟩ => by cases hz⟩
  | k + 1 => by
    by_cases hk : k < es.length
    · rw [List.take_succ_eq_append_getElem hk, putF_snoc]
      have hz : es[k] ∈ es := List.getElem_mem _
      by_cases hu : underV es[k].1 (joinV a) = true
      · rw [if_pos hu, put_mem, putF_mem h (k := k)]
        constructor
        · rintro (rfl | ⟨h1 | ⟨z, h1, h2, rfl⟩, _⟩)
          · exact .inr ⟨es[k], List.mem_append_right _ (List.mem_singleton.2 rfl), hu, rfl⟩
          · exact .inl h1
          · exact .inr ⟨z, List.mem_append_left _ h1, h2, rfl⟩
        · rintro (h1 | ⟨z, h1, h2, rfl⟩)
          · refine .inr ⟨.inl h1, ?_⟩
            exact h.goes_free (full_mem hz) hu (y.1, y.2.1) (full_mem (delF_all.1 h1).1)
          · rcases List.mem_append.1 h1 with e | e
            · by_cases he : z.1 = es[k].1
              · left
                have := (full_rise h.inv).inj (List.mem_of_mem_take e) hz he
                rw [this]
              · refine .inr ⟨.inr ⟨z, e, h2, rfl⟩, fun e1 => he ?_⟩
                exact h.goes_inj (full_mem (List.mem_of_mem_take e)) h2 (full_mem hz) hu e1
            · rw [List.mem_singleton.1 e]; exact .inl rfl
      · rw [if_neg hu, putF_mem h (k := k)]
        constructor
        · rintro (h1 | ⟨z, h1, h2, rfl⟩)
          · exact .inl h1
          · exact .inr ⟨z, List.mem_append_left _ h1, h2, rfl⟩
        · rintro (h1 | ⟨z, h1, h2, rfl⟩)
          · exact .inl h1
          · rcases List.mem_append.1 h1 with e | e
            · exact .inr ⟨z, e, h2, rfl⟩
            · rw [List.mem_singleton.1 e] at h2; exact absurd h2 hu
    · rw [List.take_of_length_le (by omega), ← List.take_of_length_le (l := es) (i := k) (by omega)]
      have := putF_mem h (y := y) (k := k)
      simpa [List.take_of_length_le (l := es) (i := k) (by omega)] using this
/-- All that is under the path, moved. -/
theorem rmove_full {a b : List Txt} {x : Th} (h : MvOk (fullR es) a b x) : fullR (putF (joinV a) (joinV b) (delF (joinV a) es es) es) = moveV (joinV a) (joinV b) (fullR es) := by
  obtain ⟨h1, h2⟩ := h.move
  have hm := fun y => putF_mem h (y := y) (k := es.length)
  simp only [List.take_length] at hm
  have hroot : ¬ underV [47] (joinV a) = true := by
    have := under_join Nms.nil h.na
    rw [show joinV [] = [47] from rfl] at this
    rw [this]
    exact fun e => h.a0 (List.prefix_nil.1 e)
  refine rise_ext ?_ h1 fun z => ?_
  · refine rise_cons.2 ⟨fun y hy => ?_, mapT_rise.2 (putF_rise (delF_rise (full_rise h.inv)))⟩
    obtain ⟨u, hu, rfl⟩ := List.mem_map.1 hy
    rcases (hm u).1 hu with e | ⟨v, hv, hv2, rfl⟩
    · exact full_lt h.inv (delF_all.1 e).1
    · obtain ⟨r, _, k2, _, k4, _⟩ := h.goes_ (full_mem hv) hv2
      show Lt [47] (goes (joinV a) (joinV b) v.1)
      rw [show goes (joinV a) (joinV b) v.1 = joinV (b ++ r) from k2]
      exact lt_root k4 (by simp [h.b0])
  · rw [h2]
    unfold fullR
    rw [List.mem_cons]
    constructor
    · rintro (rfl | hz)
      · exact .inl ⟨by simp, hroot⟩
      · obtain ⟨u, hu, rfl⟩ := List.mem_map.1 hz
        rcases (hm u).1 hu with e | ⟨v, hv, hv2, rfl⟩
        · exact .inl ⟨full_mem (delF_all.1 e).1, (delF_all.1 e).2⟩
        · exact .inr ⟨(v.1, v.2.1), full_mem hv, hv2, rfl⟩
    · rintro (⟨hz, hn⟩ | ⟨v, hv, hv2, rfl⟩)
      · rcases List.mem_cons.1 hz with e | e
        · exact .inl e
        · obtain ⟨u, hu, rfl⟩ := List.mem_map.1 e
          exact .inr (List.mem_map_of_mem (f := fun y : Txt × El => (y.1, y.2.1)) ((hm u).2 (.inl (delF_all.2 ⟨hu, hn⟩))))
      · rcases List.mem_cons.1 hv with e | e
        · rw [e] at hv2; exact absurd hv2 hroot
        · obtain ⟨u, hu, rfl⟩ := List.mem_map.1 e
          exact .inr (List.mem_map_of_mem (f := fun y : Txt × El => (y.1, y.2.1)) ((hm (goes (joinV a) (joinV b) u.1, u.2)).2 (.inr ⟨u, hu, hv2, rfl⟩)))
end Go.Cat.Tree
end

section
/- What the reference's rename answers, plain, path by path. No condition. -/
namespace Go.Cat.Tree
open Go.RowKit Go.Cat Go.Cat.Dir Go.Proofs.YtabecceojbeomaaGreatDoor
variable {l : TL} {c : CallV} {I J : Int}
theorem under_len {p t : Txt} (h : underV p t = true) : t.length ≤ p.length := by
  unfold underV at h
  split at h
  · rename_i a b h1 h2
    obtain ⟨k1, k2⟩ := nms_split h1
    obtain ⟨l1, l2⟩ := nms_split h2
    have hb := of_decide_eq_true h
    have ha : a = b ++ a.drop b.length := by conv => lhs; rw [← List.take_append_drop b.length a, hb.2]
    rw [k2, l2]
    by_cases h0 : b = []
    · subst h0
      by_cases h3 : a = []
      · rw [h3]; exact Nat.le_refl _
      · rw [join_some h3]
        show 1 ≤ _
        cases a with
        | nil => exact absurd rfl h3
        | cons n r => rw [List.flatMap_cons, List.cons_append, List.length_cons]; omega
    · rw [ha, join_app h0, List.length_append]; omega
  · cases h
theorem dov5_bad {e : Int} (hk : c.kind = 5) (h : renameV l c = (l, wrongV e)) (h0 : e ≠ 0) : doV I J l c = (l, wrongV e) := by
  have ha : actV l c = (l, wrongV e) := by unfold actV; rw [hk]; exact h
  unfold doV
  rw [ha]
  exact if_neg h0
theorem dov5_ok {m : TL} (hk : c.kind = 5) (h : renameV l c = (m, {})) : doV I J l c = if overV I J m then (l, wrongV 16) else (m, {}) := by
  have ha : actV l c = (m, {}) := by unfold actV; rw [hk]; exact h
  unfold doV
  rw [ha, hk]
  rfl
/-- Does the directory move below itself? -/
def lpB (d : Bool) (c : CallV) : Bool := d && (!(c.to == c.path) && underV c.to c.path)
theorem lp_iff {d : Bool} : lpB d c = true ↔ d = true ∧ c.to ≠ c.path ∧ underV c.to c.path = true := by unfold lpB; simp
def lgB (d : Bool) (c : CallV) : Bool := d && decide ((spl c.path).length < (spl c.to).length)
theorem spl_count {p : Txt} (h : abe p = 0) : (spl p).length = p.count 47 := by
  obtain ⟨ls, h1, h2, h3⟩ := abe_join h
  have := (spl_some (split_join h1)).1
  rw [h3, this, join_count h2 h1.2]
theorem lg_iff {d : Bool} (h1 : abe c.path = 0) (h2 : abe c.to = 0) : lgB d c = true ↔ d = true ∧ c.path.count 47 < c.to.count 47 := by unfold lgB; rw [spl_count h1, spl_count h2]; simp
def bgB (l : TL) (c : CallV) : Bool := !((upV l c.to).2 == (abv c.path).1) && decide (32 ≤ (namesV (upV l c.to).2 l).length)
theorem full_iff (h : Inv l) {p : Txt} (hu : (upV l p).1 = 0) : fullV l (upV l p).2 = decide (32 ≤ (namesV (upV l p).2 l).length) := by
  obtain ⟨_, h2, t, ht, hd⟩ := h.up_ok hu
  rw [← h2] at ht
  unfold fullV sizeV thAt
  rw [ht]
  simp only [Option.getD_some, hd, if_true]
  congr 1
  exact propext ⟨fun h => by omega, fun h => by omega⟩
theorem bg_iff (h : Inv l) (hu : (upV l c.to).1 = 0) : bgB l c = true ↔ (upV l c.to).2 ≠ (abv c.path).1 ∧ fullV l (upV l c.to).2 = true := by rw [full_iff h hu]; unfold bgB; simp
theorem ren_name (hk : c.kind = 5) (h : ¬ (abe c.path = 0 ∧ abe c.to = 0)) : doV I J l c = (l, wrongV 18) := dov5_bad hk (by unfold renameV; rw [if_neg h]) (by decide)
theorem ren_find (hk : c.kind = 5) (h : abe c.path = 0 ∧ abe c.to = 0) (hf : (findV l c.path).1 ≠ 0) : doV I J l c = (l, wrongV (findV l c.path).1) := dov5_bad hk (by unfold renameV; rw [if_pos h, if_neg hf]) hf
theorem ren_loop (hk : c.kind = 5) (h : abe c.path = 0 ∧ abe c.to = 0) (hf : (findV l c.path).1 = 0) (hl : lpB (findV l c.path).2.dir c = true) : doV I J l c = (l, wrongV 21) := dov5_bad hk (by unfold renameV; rw [if_pos h, if_pos hf, if_pos (lp_iff.1 hl)]) (by decide)
theorem ren_long (hk : c.kind = 5) (h : abe c.path = 0 ∧ abe c.to = 0) (hf : (findV l c.path).1 = 0) (hl : lpB (findV l c.path).2.dir c = false) (hg : lgB (findV l c.path).2.dir c = true) : doV I J l c = (l, wrongV 6) :=
  dov5_bad hk (by unfold renameV; rw [if_pos h, if_pos hf, if_neg (fun e => by rw [lp_iff.2 e] at hl; cases hl), if_pos ((lg_iff h.1 h.2).1 hg)]) (by decide)
theorem ren_up (hk : c.kind = 5) (h : abe c.path = 0 ∧ abe c.to = 0) (hf : (findV l c.path).1 = 0) (hl : lpB (findV l c.path).2.dir c = false) (hg : lgB (findV l c.path).2.dir c = false) (hu : (upV l c.to).1 ≠ 0) : doV I J l c = (l, wrongV (upV l c.to).1) :=
  dov5_bad hk (by unfold renameV; rw [if_pos h, if_pos hf, if_neg (fun e => by rw [lp_iff.2 e] at hl; cases hl), if_neg (fun e => by rw [(lg_iff h.1 h.2).2 e] at hg; cases hg), if_neg hu]) hu
theorem ren_there (hk : c.kind = 5) (h : abe c.path = 0 ∧ abe c.to = 0) (hf : (findV l c.path).1 = 0) (hl : lpB (findV l c.path).2.dir c = false) (hg : lgB (findV l c.path).2.dir c = false) (hu : (upV l c.to).1 = 0) (ht : (getT c.to l).isSome = true) : doV I J l c = (l, wrongV 8) :=
  dov5_bad hk (by unfold renameV; rw [if_pos h, if_pos hf, if_neg (fun e => by rw [lp_iff.2 e] at hl; cases hl), if_neg (fun e => by rw [(lg_iff h.1 h.2).2 e] at hg; cases hg), if_pos hu, if_pos ht]) (by decide)
theorem ren_big (hi : Inv l) (hk : c.kind = 5) (h : abe c.path = 0 ∧ abe c.to = 0) (hf : (findV l c.path).1 = 0) (hl : lpB (findV l c.path).2.dir c = false) (hg : lgB (findV l c.path).2.dir c = false) (hu : (upV l c.to).1 = 0) (ht : (getT c.to l).isSome = false) (hb : bgB l c = true) : doV I J l c = (l, wrongV 17) :=
  dov5_bad hk (by unfold renameV; rw [if_pos h, if_pos hf, if_neg (fun e => by rw [lp_iff.2 e] at hl; cases hl), if_neg (fun e => by rw [(lg_iff h.1 h.2).2 e] at hg; cases hg), if_pos hu, if_neg (by rw [ht]; simp), if_pos ((bg_iff hi hu).1 hb)]) (by decide)
theorem ren_ok {es : List (Txt × El)} (hi : Inv (fullR es)) (hk : c.kind = 5) (h : abe c.path = 0 ∧ abe c.to = 0) (hf : (findV (fullR es) c.path).1 = 0) (hl : lpB (findV (fullR es) c.path).2.dir c = false) (hg : lgB (findV (fullR es) c.path).2.dir c = false) (hu : (upV (fullR es) c.to).1 = 0) (ht : (getT c.to (fullR es)).isSome = false) (hb : bgB (fullR es) c = false) :
    Inv (fullR (putF c.path c.to (delF c.path es es) es)) ∧ doV I J (fullR es) c = if overV I J (fullR (putF c.path c.to (delF c.path es es) es)) then (fullR es, wrongV 16) else (fullR (putF c.path c.to (delF c.path es es) es), {}) := by
  have h4 : ¬ ((findV (fullR es) c.path).2.dir = true ∧ c.to ≠ c.path ∧ underV c.to c.path = true) := fun e => by rw [lp_iff.2 e] at hl; cases hl
  have h5 : ¬ ((findV (fullR es) c.path).2.dir = true ∧ c.path.count 47 < c.to.count 47) := fun e => by rw [(lg_iff h.1 h.2).2 e] at hg; cases hg
  have h7 : ¬ (getT c.to (fullR es)).isSome = true := by rw [ht]; simp
  obtain ⟨a, b, e1, e2, hM⟩ := rename_ok hi h.1 h.2 hf h4 h5 hu h7
  have hr := rmove_full hM
  rw [← e1, ← e2] at hr
  refine ⟨?_, ?_⟩
  · rw [hr, e1, e2]; exact hM.keeps
  · rw [hr]
    refine dov5_ok hk ?_
    unfold renameV
    rw [if_pos h, if_pos hf, if_neg h4, if_neg h5, if_pos hu, if_neg h7, if_neg (fun e => by rw [(bg_iff hi hu).2 e] at hb; cases hb)]
end Go.Cat.Tree
namespace Go.Proofs.YtabecceojbeomaaGreatDoor
open Go.RowKit Go.Cat Go.Cat.Dir Go.Cat.Tree
theorem bs_tailR (x : Txt) (m : Nat) : (bs x).extract m x.length = bs (x.drop m) := by
  show (⟨x.toArray⟩ : ByteArray).extract m x.length = _
  rw [Lib.extract_mk, List.take_of_length_le (by rw [List.length_drop]; omega)]
  rfl
theorem run_scut {s : Txt} {lo : Nat} (h : lo ≤ s.length) (U : World) : (Instr.slice 9 (.string (bs s)) (some (.int .i64 (lo : Int))) none none).run Tryz.prog U = .ok (.string (bs (s.drop lo))) U := by
  simp [Instr.slice, run_underlying Tryz.underlying9, Instr.sliceBounds, Instr.sliceBound, asIntOf, go_sem]
  rw [if_pos (by rw [bs_size]; exact h), bs_size, bs_tailR]
end Go.Proofs.YtabecceojbeomaaGreatDoor
end

section
/- What the reference's Do answers, plain, path by path. No condition. -/
namespace Go.Cat.Tree
open Go.RowKit Go.Cat Go.Cat.Dir Go.Proofs.YtabecceojbeomaaGreatDoor
variable {l : TL} {c : CallV} {I J : Int}
def OkOr (l : TL) (r : TL × AnsV) : Prop := r.2.code = 0 ∨ ∃ e, r = (l, wrongV e)
theorem makeV_or (l : TL) (c : CallV) : OkOr l (makeV l c) := by
  unfold makeV
  (repeat' split) <;> first | exact .inl rfl | exact .inr ⟨_, rfl⟩
theorem removeV_or (l : TL) (c : CallV) : OkOr l (removeV l c) := by
  unfold removeV
  (repeat' split) <;> first | exact .inl rfl | exact .inr ⟨_, rfl⟩
theorem renameV_or (l : TL) (c : CallV) : OkOr l (renameV l c) := by
  unfold renameV
  (repeat' split) <;> first | exact .inl rfl | exact .inr ⟨_, rfl⟩
theorem putV_or (l : TL) (c : CallV) : OkOr l (putV l c) := by
  unfold putV
  (repeat' split) <;> first | exact .inl rfl | exact .inr ⟨_, rfl⟩
theorem getV_or (l : TL) (c : CallV) : OkOr l (getV l c) := by
  unfold getV
  (repeat' split) <;> first | exact .inl rfl | exact .inr ⟨_, rfl⟩
theorem truncV_or (l : TL) (c : CallV) : OkOr l (truncV l c) := by
  unfold truncV
  (repeat' split) <;> first | exact .inl rfl | exact .inr ⟨_, rfl⟩
theorem listV_or (l : TL) (c : CallV) : OkOr l (listV l c) := by
  unfold listV
  (repeat' split) <;> first | exact .inl rfl | exact .inr ⟨_, rfl⟩
theorem statV_or (l : TL) (c : CallV) : OkOr l (statV l c) := by
  unfold statV
  (repeat' split) <;> first | exact .inl rfl | exact .inr ⟨_, rfl⟩
theorem act_or (l : TL) (c : CallV) : OkOr l (actV l c) := by
  unfold actV
  (repeat' split) <;> first | exact makeV_or _ _ | exact removeV_or _ _ | exact renameV_or _ _ | exact putV_or _ _ | exact getV_or _ _ | exact truncV_or _ _ | exact listV_or _ _ | exact statV_or _ _ | exact .inr ⟨_, rfl⟩
theorem act_wrong (h : (actV l c).2.code ≠ 0) : actV l c = (l, wrongV (actV l c).2.code) := by
  rcases act_or l c with h0 | ⟨e, h0⟩
  · exact absurd h0 h
  · rw [h0]; rfl
theorem do_act (h : (turnsV c.kind && overV I J (actV l c).1) = false) : doV I J l c = actV l c := by
  unfold doV
  by_cases h0 : (actV l c).2.code = 0
  · rw [if_pos h0, h]; rfl
  · rw [if_neg h0]; exact (act_wrong h0).symm
theorem do_bad {e : Int} (h : actV l c = (l, wrongV e)) (h0 : e ≠ 0) : doV I J l c = (l, wrongV e) := by
  unfold doV
  rw [h]
  exact if_neg h0
theorem over_of {m : TL} (h : InvA I J l) (h1 : m.length ≤ l.length) (h2 : blocksV m ≤ blocksV l) : overV I J m = false := by
  unfold overV
  have := h.len
  have := h.blk
  simp only [Bool.or_eq_false_iff, decide_eq_false_iff_not]
  omega
theorem do_remove (h : InvA I J l) (hk : c.kind = 3 ∨ c.kind = 4) : doV I J l c = removeV l c := by
  have ha : actV l c = removeV l c := by unfold actV; rw [if_neg (by omega), if_pos hk]
  rw [← ha]
  refine do_act ?_
  rw [ha]
  have ho : overV I J (removeV l c).1 = false := by
    unfold removeV
    (repeat' split) <;> first | exact h.over | exact over_of h (del_le _ _) (blocks_del h.inv.rise _)
  rw [ho, Bool.and_false]
theorem do_trunc (h : InvA I J l) (hk : c.kind = 8) : doV I J l c = truncV l c := by
  have ha : actV l c = truncV l c := by unfold actV; rw [hk]; rfl
  rw [← ha]
  refine do_act ?_
  rw [ha]
  have ho : overV I J (truncV l c).1 = false := by
    unfold truncV
    split
    · exact h.over
    split
    · rename_i h0
      obtain ⟨hx, hd, _⟩ := h.inv.file_ok h0
      split
      · exact h.over
      · refine over_of h (Nat.le_of_eq ?_) (blocks_cut h.inv.rise hx hd (by rw [List.length_take]; omega))
        have := congrArg List.length (put_keys h.inv.rise hx ⟨false, (fileV l c.path).2.b.take c.n.toNat⟩)
        simpa using this
    · exact h.over
  rw [ho, Bool.and_false]
theorem do_get (hk : c.kind = 7) : doV I J l c = getV l c := by
  have ha : actV l c = getV l c := by unfold actV; rw [hk]; rfl
  rw [← ha]
  exact do_act (by rw [hk]; rfl)
theorem do_other (h1 : ¬ (1 ≤ c.kind ∧ c.kind ≤ 10)) : doV I J l c = (l, wrongV 1) :=
  do_bad (by unfold actV; rw [if_neg (by omega), if_neg (by omega), if_neg (by omega), if_neg (by omega), if_neg (by omega), if_neg (by omega), if_neg (by omega), if_neg (by omega)]) (by decide)
theorem do_lfind (hk : c.kind = 9 ∨ c.kind = 10) (hf : (findV l c.path).1 ≠ 0) : doV I J l c = (l, wrongV (findV l c.path).1) := by
  refine do_bad ?_ hf
  unfold actV
  rcases hk with hk | hk
  · unfold listV; rw [hk, if_neg hf]; rfl
  · unfold statV; rw [hk, if_neg hf]; rfl
theorem do_lnot (hk : c.kind = 9) (hf : (findV l c.path).1 = 0) (hd : (findV l c.path).2.dir = false) : doV I J l c = (l, wrongV 14) := by
  refine do_bad ?_ (by decide)
  unfold actV listV
  rw [hk, if_pos hf, hd]
  rfl
theorem do_list (hk : c.kind = 9) (hf : (findV l c.path).1 = 0) (hd : (findV l c.path).2.dir = true) : doV I J l c = (l, { names := namesV c.path l }) := by
  have ha : actV l c = (l, { names := namesV c.path l }) := by unfold actV listV; rw [hk, if_pos hf, hd]; rfl
  rw [← ha]
  exact do_act (by rw [hk]; rfl)
theorem do_sdir (hk : c.kind = 10) (hf : (findV l c.path).1 = 0) (hd : (findV l c.path).2.dir = true) : doV I J l c = (l, { dir := true, size := (namesV c.path l).length }) := by
  have ha : actV l c = (l, { dir := true, size := (namesV c.path l).length }) := by unfold actV statV; rw [hk, if_pos hf, hd]; rfl
  rw [← ha]
  exact do_act (by rw [hk]; rfl)
theorem do_sfile (hk : c.kind = 10) (hf : (findV l c.path).1 = 0) (hd : (findV l c.path).2.dir = false) : doV I J l c = (l, { size := (findV l c.path).2.b.length }) := by
  have ha : actV l c = (l, { size := (findV l c.path).2.b.length }) := by unfold actV statV; rw [hk, if_pos hf, hd]; rfl
  rw [← ha]
  exact do_act (by rw [hk]; rfl)
theorem act_make (hk : c.kind = 1 ∨ c.kind = 2) : actV l c = makeV l c := by unfold actV; rw [if_pos hk]
theorem mk_up (hk : c.kind = 1 ∨ c.kind = 2) (hu : (upV l c.path).1 ≠ 0) : doV I J l c = (l, wrongV (upV l c.path).1) :=
  do_bad (by rw [act_make hk]; unfold makeV; rw [if_neg hu]) hu
theorem mk_there (hk : c.kind = 1 ∨ c.kind = 2) (hu : (upV l c.path).1 = 0) (ht : (getT c.path l).isSome = true) : doV I J l c = (l, wrongV 8) :=
  do_bad (by rw [act_make hk]; unfold makeV; rw [if_pos hu, if_pos ht]) (by decide)
theorem mk_big (hi : Inv l) (hk : c.kind = 1 ∨ c.kind = 2) (hu : (upV l c.path).1 = 0) (ht : (getT c.path l).isSome = false) (hb : 32 ≤ (namesV (upV l c.path).2 l).length) : doV I J l c = (l, wrongV 17) :=
  do_bad (by rw [act_make hk]; unfold makeV; rw [if_pos hu, if_neg (by rw [ht]; simp), if_pos (by rw [full_iff hi hu]; simpa using hb)]) (by decide)
theorem mk_ok {es : List (Txt × El)} (hi : Inv (fullR es)) (hk : c.kind = 1 ∨ c.kind = 2) (hu : (upV (fullR es) c.path).1 = 0) (ht : (getT c.path (fullR es)).isSome = false) (hb : ¬ 32 ≤ (namesV (upV (fullR es) c.path).2 (fullR es)).length) :
    Inv (fullR (putT c.path (⟨c.kind == 2, []⟩, none, 0) es)) ∧ doV I J (fullR es) c = if overV I J (fullR (putT c.path (⟨c.kind == 2, []⟩, none, 0) es)) then (fullR es, wrongV 16) else (fullR (putT c.path (⟨c.kind == 2, []⟩, none, 0) es), {}) := by
  obtain ⟨ls, h1, h2, h3⟩ := abe_join (hi.up_ok hu).1
  have hm : makeV (fullR es) c = (putT c.path ⟨c.kind == 2, []⟩ (fullR es), {}) := by
    unfold makeV
    rw [if_pos hu, if_neg (by rw [ht]; simp), if_neg (by rw [full_iff hi hu]; simpa using hb)]
  have hf : fullR (putT c.path (⟨c.kind == 2, []⟩, none, 0) es) = putT c.path ⟨c.kind == 2, []⟩ (fullR es) := by rw [h3]; exact full_put hi h1 h2 _
  rw [hf]
  refine ⟨?_, ?_⟩
  · have := make_inv hi c
    rw [hm] at this
    exact this
  · unfold doV
    rw [act_make hk, hm]
    have ht2 : turnsV c.kind = true := by unfold turnsV; simp; omega
    rw [ht2]
    rfl
end Go.Cat.Tree
end
