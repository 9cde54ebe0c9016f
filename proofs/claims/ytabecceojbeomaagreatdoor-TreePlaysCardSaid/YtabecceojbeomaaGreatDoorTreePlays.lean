/- The walk of the law TreePlays: whatever calls are done, the tree answers what the document's answers, and has what it has. Condition: the library's variable MaxLen holds an int. -/
import Derived.Test.YtabecceojbeomaaGreatDoorTrFar
import Derived.Test.YtabecceojbeomaaGreatDoorTrOpen
import Derived.Test.YtabecceojbeomaaGreatDoorTrRDo
import Derived.Test.YtabecceojbeomaaGreatDoorTrRD
namespace Go.Proofs.YtabecceojbeomaaGreatDoor
open Go.RowKit Go.Cat Go.Cat.Dir Go.Cat.Tree Go.Maps

/-- A call's cells in a slice. -/
theorem pl_facts {w W : World} {l : List Cl} {G b off k : Nat} (hG : b < G) (bel : Below G w W) (hc : ∀ i (hi : i < l.length) j, j < 6 → w.cell? ⟨b, off + (i * 6 + j), none⟩ = (clC l[i])[j]?) (hk : k < l.length) {z : Cl} (hz : z = l[k]) :
    W.cell? ⟨b, off + k * 6, none⟩ = some (.int .i64 z.1.kind) ∧ W.cell? ⟨b, off + k * 6 + 1, none⟩ = some (.string (bs z.1.path)) ∧ W.cell? ⟨b, off + k * 6 + 2, none⟩ = some (.string (bs z.1.to)) ∧ W.cell? ⟨b, off + k * 6 + 3, none⟩ = some (.int .i64 z.1.off) ∧ W.cell? ⟨b, off + k * 6 + 4, none⟩ = some (.int .i64 z.1.n) ∧ W.cell? ⟨b, off + k * 6 + 5, none⟩ = some (.slice z.2.1 z.1.data.length z.2.2) := by
  have e := fun j (hj : j < 6) => (bel.cell (p := ⟨b, off + (k * 6 + j), none⟩) hG).trans (hc k hk j hj)
  rw [← hz] at e
  simp only [← Nat.add_assoc] at e
  exact ⟨e 0 (by omega), e 1 (by omega), e 2 (by omega), e 3 (by omega), e 4 (by omega), e 5 (by omega)⟩
/-- What the loop keeps: a tree, and the document's that has the same. -/
structure PlR (w : World) (x y : Int) (a M : Nat) (es : List (Txt × El)) (NR : Nat) (A : Option Addr) (ca : Nat) (rs : List (Txt × El)) (W : World) : Prop where
  bel : Below w.heap.size w W
  tr : TrAt W a x y M es
  rb : W.heap[NR]? = some (.cells #[.int .i64 x, .int .i64 y, .slice A rs.length ca] 53 (0, 0))
  rt : RT W A ca rs
  eq : ths es = fullR rs
  inv : InvA x y (ths es)
  lo : w.heap.size < a
  nr : a < NR
  hi : x ≤ 64
section
variable {w W W' : World} {x y : Int} {a M NR ca : Nat} {es rs : List (Txt × El)} {A : Option Addr}
theorem PlR.below (h : PlR w x y a M es NR A ca rs W) (hb : Below W.heap.size W W') : PlR w x y a M es NR A ca rs W' :=
  ⟨h.bel.trans (hb.mono h.bel.size), h.tr.below hb, heap_below h.rb hb, h.rt.below hb, h.eq, h.inv, h.lo, h.nr, h.hi⟩
theorem PlR.len (h : PlR w x y a M es NR A ca rs W) : es.length ≤ 64 := by
  have := h.inv.len
  rw [ths_length] at this
  have := h.hi
  omega
theorem PlR.len2 (h : PlR w x y a M es NR A ca rs W) : rs.length ≤ 64 := by have := h.len; have := len_full h.eq; omega
end
/-- Behind the tree's call: its answer lies in a box, the document's tree stands as it stood. -/
structure PlM (w : World) (x y : Int) (a M : Nat) (es : List (Txt × El)) (NR : Nat) (A : Option Addr) (ca : Nat) (rs : List (Txt × El)) (r : TL × AnsV) (B C : Option Addr) (cB cC N : Nat) (W : World) : Prop where
  bel : Below w.heap.size w W
  tr : TrAt W a x y M es
  rb : W.heap[NR]? = some (.cells #[.int .i64 x, .int .i64 y, .slice A rs.length ca] 53 (0, 0))
  rt : RT W A ca rs
  e1 : ths es = r.1
  b : Bytes W B r.2.data
  c : Texts W C r.2.names
  bx : W.heap[N]? = some (.cells #[.int .i64 r.2.code, .slice B r.2.data.length cB, .slice C r.2.names.length cC, .int .i64 r.2.size, .bool r.2.dir] 36 (0, 0))
section
variable {w W W' : World} {x y : Int} {a M NR ca cB cC N : Nat} {es rs : List (Txt × El)} {A B C : Option Addr} {r : TL × AnsV}
theorem PlM.below (h : PlM w x y a M es NR A ca rs r B C cB cC N W) (hb : Below W.heap.size W W') : PlM w x y a M es NR A ca rs r B C cB cC N W' :=
  ⟨h.bel.trans (hb.mono h.bel.size), h.tr.below hb, heap_below h.rb hb, h.rt.below hb, h.e1, h.b.below hb, Sees.below h.c hb, heap_below h.bx hb⟩
/-- What the region of the document's call reads. -/
def PlQ (x y : Int) (NR : Nat) (A : Option Addr) (n ca : Nat) (b o : Nat) (z : Cl) (W5 U : World) : Prop :=
  U.cell? ⟨NR, 0, none⟩ = some (.int .i64 x) ∧ U.cell? ⟨NR, 1, none⟩ = some (.int .i64 y) ∧ U.cell? ⟨NR, 2, none⟩ = some (.slice A n ca) ∧
  U.cell? ⟨b, o, none⟩ = some (.int .i64 z.1.kind) ∧ U.cell? ⟨b, o + 1, none⟩ = some (.string (bs z.1.path)) ∧ U.cell? ⟨b, o + 2, none⟩ = some (.string (bs z.1.to)) ∧ U.cell? ⟨b, o + 3, none⟩ = some (.int .i64 z.1.off) ∧ U.cell? ⟨b, o + 4, none⟩ = some (.int .i64 z.1.n) ∧ U.cell? ⟨b, o + 5, none⟩ = some (.slice z.2.1 z.1.data.length z.2.2) ∧
  Below W5.heap.size W5 U
theorem PlQ.bel {n o : Nat} {b : Nat} {z : Cl} {W5 U : World} (h : PlQ x y NR A n ca b o z W5 U) : Below W5.heap.size W5 U := h.2.2.2.2.2.2.2.2.2
theorem bl_al {w U : World} {o : Obj} (h : Below w.heap.size w U) : Below w.heap.size w (U.alloc o) := h.alloc h.size _
theorem bl_dr {w U : World} (h : Below w.heap.size w U) : Below w.heap.size w U.drew := h.drew
theorem bl_set {w U : World} {g i : Nat} {v : Value} (h : Below w.heap.size w U) (hg : w.heap.size ≤ g) : Below w.heap.size w (U.setCell ⟨g, i, none⟩ v) := h.trans ((Tch.set _ _ _ _).below h.size fun k e => by omega)
/-- The boxes of the document's answer, made ahead of its call. -/
theorem tb_facts {W : World} {g : Nat} (h : W.heap[g]? = some (.cells #[.int .i64 0, .int .i64 0, .slice none 0 0] 53 (0, 0))) : W.cell? ⟨g, 0, none⟩ = some (.int .i64 0) ∧ W.cell? ⟨g, 1, none⟩ = some (.int .i64 0) ∧ W.cell? ⟨g, 2, none⟩ = some (.slice none 0 0) ∧ W.frozen? ⟨g, 0, none⟩ = false ∧ W.frozen? ⟨g, 1, none⟩ = false ∧ W.frozen? ⟨g, 2, none⟩ = false ∧ g < W.heap.size ∧ g ≠ W.heap.size :=
  ⟨cell_of_row _ _ 0 _ _ _ h, cell_of_row _ _ 1 _ _ _ h, cell_of_row _ _ 2 _ _ _ h, frozen_of_row _ _ 0 _ _ h, frozen_of_row _ _ 1 _ _ h, frozen_of_row _ _ 2 _ _ h, heap_lt h, Nat.ne_of_lt (heap_lt h)⟩
theorem ab_facts {W : World} {g : Nat} (h : W.heap[g]? = some (.cells #[.int .i64 0, .slice none 0 0, .slice none 0 0, .int .i64 0, .bool false] 36 (0, 0))) : W.cell? ⟨g, 0, none⟩ = some (.int .i64 0) ∧ W.cell? ⟨g, 1, none⟩ = some (.slice none 0 0) ∧ W.cell? ⟨g, 2, none⟩ = some (.slice none 0 0) ∧ W.cell? ⟨g, 3, none⟩ = some (.int .i64 0) ∧ W.cell? ⟨g, 4, none⟩ = some (.bool false) ∧ W.frozen? ⟨g, 0, none⟩ = false ∧ W.frozen? ⟨g, 1, none⟩ = false ∧ W.frozen? ⟨g, 2, none⟩ = false ∧ W.frozen? ⟨g, 3, none⟩ = false ∧ W.frozen? ⟨g, 4, none⟩ = false ∧ g < W.heap.size ∧ g ≠ W.heap.size :=
  ⟨cell_of_row _ _ 0 _ _ _ h, cell_of_row _ _ 1 _ _ _ h, cell_of_row _ _ 2 _ _ _ h, cell_of_row _ _ 3 _ _ _ h, cell_of_row _ _ 4 _ _ _ h, frozen_of_row _ _ 0 _ _ h, frozen_of_row _ _ 1 _ _ h, frozen_of_row _ _ 2 _ _ h, frozen_of_row _ _ 3 _ _ h, frozen_of_row _ _ 4 _ _ h, heap_lt h, Nat.ne_of_lt (heap_lt h)⟩
theorem pre1 {W W' : World} {o : Obj} (hB : Below (W.alloc o).drew.heap.size (W.alloc o).drew W') : W'.heap[W.heap.size]? = some o := heap_below (w := (W.alloc o).drew) (heap_alloc_new W o) hB
theorem pre2 {W W' : World} {o o' : Obj} (hB : Below ((W.alloc o).alloc o').drew.heap.size ((W.alloc o).alloc o').drew W') : W'.heap[W.heap.size]? = some o ∧ W'.heap[W.heap.size + 1]? = some o' := by
  have h2 := heap_alloc_new (W.alloc o) o'
  rw [show (W.alloc o).heap.size = W.heap.size + 1 by simp] at h2
  exact ⟨heap_below (w := ((W.alloc o).alloc o').drew) (heap_alloc (heap_alloc_new W o) o') hB, heap_below (w := ((W.alloc o).alloc o').drew) h2 hB⟩
/-- Behind the tree's call. -/
theorem PlR.done (h : PlR w x y a M es NR A ca rs W) {M3 : Nat} {es3 : List (Txt × El)} (hT : TrAt W' a x y M3 es3) (ht : Tch (fun k => k = a) W W') : Below w.heap.size w W' ∧ W'.heap[NR]? = some (.cells #[.int .i64 x, .int .i64 y, .slice A rs.length ca] 53 (0, 0)) ∧ RT W' A ca rs :=
  ⟨h.bel.trans (ht.below h.bel.size fun k e => by have := h.lo; omega), heap_touch h.rb ht (fun e => by have := h.nr; omega), RT.skip h.rt ht (fun k hk o s => by subst hk; exact no_text_trB h.tr.blk o s) (fun k hk o u => by subst hk; exact no_byte_trB h.tr.blk o u)⟩
end

theorem getV_data {l : TL} (h : ∀ p, (fileV l p).2.b.length ≤ 512) (c : CallV) : (getV l c).2.data.length ≤ 512 := by
  unfold getV
  split
  · exact Nat.zero_le _
  split
  · split
    · exact Nat.zero_le _
    · refine Nat.le_trans (List.length_take_le' _ _) ?_
      rw [List.length_drop]
      have := h c.path
      omega
  · exact Nat.zero_le _
theorem act_data {l : TL} (h : ∀ p, (fileV l p).2.b.length ≤ 512) (c : CallV) : (actV l c).2.data.length ≤ 512 := by
  unfold actV
  split; · unfold makeV; repeat' split
           all_goals exact Nat.zero_le _
  split; · unfold removeV; repeat' split
           all_goals exact Nat.zero_le _
  split; · unfold renameV; repeat' split
           all_goals exact Nat.zero_le _
  split; · unfold putV; repeat' split
           all_goals exact Nat.zero_le _
  split; · exact getV_data h c
  split; · unfold truncV; repeat' split
           all_goals exact Nat.zero_le _
  split; · unfold listV; repeat' split
           all_goals exact Nat.zero_le _
  split; · unfold statV; repeat' split
           all_goals exact Nat.zero_le _
  exact Nat.zero_le _
theorem fileV_fit {l : TL} (h : Inv l) (p : Txt) : (fileV l p).2.b.length ≤ 512 := by
  by_cases h0 : (fileV l p).1 = 0
  · exact h.fit _ (get_mem (h.file_ok h0).1)
  · unfold fileV at h0 ⊢
    split
    · rename_i h1
      rw [if_pos h1] at h0
      split
      · exact Nat.zero_le _
      · rename_i h2
        rw [if_neg h2] at h0
        exact absurd rfl h0
    · exact Nat.zero_le _
theorem do_data {I J : Int} {l : TL} (h : Inv l) (c : CallV) : (doV I J l c).2.data.length ≤ 512 := by
  unfold doV
  split
  · split
    · exact Nat.zero_le _
    · exact act_data (fileV_fit h) c
  · exact Nat.zero_le _
/-- Behind the document's call: both answers lie in boxes, and so does the document's new tree. -/
structure PlD (w : World) (x y : Int) (a M : Nat) (es : List (Txt × El)) (NR : Nat) (A : Option Addr) (ca : Nat) (rs : List (Txt × El)) (r : TL × AnsV) (B C : Option Addr) (cB cC N N10 N11 : Nat) (A6 : Option Addr) (c6 : Nat) (es6 : List (Txt × El)) (B6 C6 : Option Addr) (cB6 cC6 : Nat) (W : World) : Prop where
  m : PlM w x y a M es NR A ca rs r B C cB cC N W
  tb : W.heap[N10]? = some (.cells #[.int .i64 x, .int .i64 y, .slice A6 es6.length c6] 53 (0, 0))
  ab : W.heap[N11]? = some (.cells #[.int .i64 r.2.code, .slice B6 r.2.data.length cB6, .slice C6 r.2.names.length cC6, .int .i64 r.2.size, .bool r.2.dir] 36 (0, 0))
  rt : RT W A6 c6 es6
  f : fullR es6 = r.1
  b : Bytes W B6 r.2.data
  c : Texts W C6 r.2.names
  n1 : NR < N10
  n2 : NR < N11
section
variable {w W5 w6 W : World} {x y : Int} {a M NR ca cB cC N N10 N11 c6 cB6 cC6 : Nat} {es rs es6 : List (Txt × El)} {A B C A6 B6 C6 : Option Addr} {r : TL × AnsV} {K : Nat → Prop}
theorem PlM.done (h : PlM w x y a M es NR A ca rs r B C cB cC N W5) (hb : Below W5.heap.size W5 W) (ht : Tch K w6 W) (hK : ∀ k, K k → (∀ o (s : Txt), w6.cell? ⟨k, o, none⟩ ≠ some (.string (bs s))) ∧ ∀ o (u : UInt8), w6.cell? ⟨k, o, none⟩ ≠ some (by8 u))
    (hRT : RT w6 A6 c6 es6) (hf : fullR es6 = r.1) (hB : Bytes w6 B6 r.2.data) (hC : Texts w6 C6 r.2.names) (h10 : W.heap[N10]? = some (.cells #[.int .i64 x, .int .i64 y, .slice A6 es6.length c6] 53 (0, 0))) (h11 : W.heap[N11]? = some (.cells #[.int .i64 r.2.code, .slice B6 r.2.data.length cB6, .slice C6 r.2.names.length cC6, .int .i64 r.2.size, .bool r.2.dir] 36 (0, 0))) (l10 : W5.heap.size ≤ N10) (l11 : W5.heap.size ≤ N11) :
    PlD w x y a M es NR A ca rs r B C cB cC N N10 N11 A6 c6 es6 B6 C6 cB6 cC6 W := by
  have hl := heap_lt h.rb
  refine ⟨h.below hb, h10, h11, RT.skip hRT ht (fun k hk => (hK k hk).1) (fun k hk => (hK k hk).2), hf, bytes_skip hB ht (fun k hk => (hK k hk).2), sees_skip hC ht (fun k hk o u hu => ?_), by omega, by omega⟩
  obtain ⟨s, _, rfl⟩ := List.mem_map.1 hu
  exact (hK k hk).1 o s
theorem zt_plain {k : Nat} (h : w6.heap[k]? = some (.cells #[.int .i64 0, .int .i64 0, .slice none 0 0] 53 (0, 0))) : (∀ o (s : Txt), w6.cell? ⟨k, o, none⟩ ≠ some (.string (bs s))) ∧ ∀ o (u : UInt8), w6.cell? ⟨k, o, none⟩ ≠ some (by8 u) := ⟨fun o s => no_cell h (by simp) o, fun o u => no_cell h (by simp [by8]) o⟩
theorem za_plain {k : Nat} (h : w6.heap[k]? = some (.cells #[.int .i64 0, .slice none 0 0, .slice none 0 0, .int .i64 0, .bool false] 36 (0, 0))) : (∀ o (s : Txt), w6.cell? ⟨k, o, none⟩ ≠ some (.string (bs s))) ∧ ∀ o (u : UInt8), w6.cell? ⟨k, o, none⟩ ≠ some (by8 u) := ⟨fun o s => no_cell h (by simp) o, fun o u => no_cell h (by simp [by8]) o⟩
theorem al_at {U : World} {g : Nat} (o : Obj) (h : U.heap.size = g) : (U.alloc o).heap[g]? = some o := by subst h; exact heap_alloc_new U o
theorem way_aa (o1 o2 : Obj) : Tch (fun _ => False) w6 ((w6.alloc o1).alloc o2) ∧ ((w6.alloc o1).alloc o2).heap[w6.heap.size]? = some o1 ∧ ((w6.alloc o1).alloc o2).heap[w6.heap.size + 1]? = some o2 :=
  ⟨Tch.of_below (bl_al (bl_al (Below.refl _ _))), heap_alloc (heap_alloc_new _ _) _, al_at _ (by simp)⟩
theorem way_ta {g : Nat} (h : w6.heap[g]? = some (.cells #[.int .i64 0, .int .i64 0, .slice none 0 0] 53 (0, 0))) (u0 u1 u2 : Value) (o : Obj) :
    Tch (fun k => k = g) w6 ((((w6.setCell ⟨g, 0, none⟩ u0).setCell ⟨g, 1, none⟩ u1).setCell ⟨g, 2, none⟩ u2).alloc o) ∧ ((((w6.setCell ⟨g, 0, none⟩ u0).setCell ⟨g, 1, none⟩ u1).setCell ⟨g, 2, none⟩ u2).alloc o).heap[g]? = some (.cells #[u0, u1, u2] 53 (0, 0)) ∧ ((((w6.setCell ⟨g, 0, none⟩ u0).setCell ⟨g, 1, none⟩ u1).setCell ⟨g, 2, none⟩ u2).alloc o).heap[w6.heap.size]? = some o :=
  ⟨(tch3B _ _ _ _ _).trans (Tch.of_below (bl_al (Below.refl _ _))), heap_alloc (set3_block _ _ _ h) _, al_at _ (by simp)⟩
theorem way_sa {g : Nat} (h : w6.heap[g]? = some (.cells #[.int .i64 0, .slice none 0 0, .slice none 0 0, .int .i64 0, .bool false] 36 (0, 0))) (u0 u1 u2 u3 u4 : Value) (o : Obj) :
    Tch (fun k => k = g) w6 ((((((w6.setCell ⟨g, 0, none⟩ u0).setCell ⟨g, 1, none⟩ u1).setCell ⟨g, 2, none⟩ u2).setCell ⟨g, 3, none⟩ u3).setCell ⟨g, 4, none⟩ u4).alloc o) ∧ ((((((w6.setCell ⟨g, 0, none⟩ u0).setCell ⟨g, 1, none⟩ u1).setCell ⟨g, 2, none⟩ u2).setCell ⟨g, 3, none⟩ u3).setCell ⟨g, 4, none⟩ u4).alloc o).heap[g]? = some (.cells #[u0, u1, u2, u3, u4] 36 (0, 0)) ∧ ((((((w6.setCell ⟨g, 0, none⟩ u0).setCell ⟨g, 1, none⟩ u1).setCell ⟨g, 2, none⟩ u2).setCell ⟨g, 3, none⟩ u3).setCell ⟨g, 4, none⟩ u4).alloc o).heap[w6.heap.size]? = some o :=
  ⟨(tch5B _ _ _ _ _ _ _).trans (Tch.of_below (bl_al (Below.refl _ _))), heap_alloc (set5_block h) _, al_at _ (by simp)⟩
theorem way_ts {g q : Nat} (h : w6.heap[g]? = some (.cells #[.int .i64 0, .int .i64 0, .slice none 0 0] 53 (0, 0))) (h' : w6.heap[q]? = some (.cells #[.int .i64 0, .slice none 0 0, .slice none 0 0, .int .i64 0, .bool false] 36 (0, 0))) (hn : g ≠ q) (u0 u1 u2 v0 v1 v2 v3 v4 : Value) :
    Tch (fun k => k = g ∨ k = q) w6 (leafW w6 g q u0 u1 u2 v0 v1 v2 v3 v4) ∧ (leafW w6 g q u0 u1 u2 v0 v1 v2 v3 v4).heap[g]? = some (.cells #[u0, u1, u2] 53 (0, 0)) ∧ (leafW w6 g q u0 u1 u2 v0 v1 v2 v3 v4).heap[q]? = some (.cells #[v0, v1, v2, v3, v4] 36 (0, 0)) :=
  ⟨((tch3B _ _ _ _ _).mono fun _ _ e => .inl e).trans ((tch5B _ _ _ _ _ _ _).mono fun _ _ e => .inr e), leaf_r h hn, leaf_s h' hn⟩
end

/-- Behind the store of the document's new tree. -/
structure PlE (w : World) (x y : Int) (a M : Nat) (es : List (Txt × El)) (NR : Nat) (A6 : Option Addr) (c6 : Nat) (es6 : List (Txt × El)) (r : TL × AnsV) (B C : Option Addr) (cB cC N N11 : Nat) (B6 C6 : Option Addr) (cB6 cC6 : Nat) (W : World) : Prop where
  bel : Below w.heap.size w W
  tr : TrAt W a x y M es
  rb : W.heap[NR]? = some (.cells #[.int .i64 x, .int .i64 y, .slice A6 es6.length c6] 53 (0, 0))
  rt : RT W A6 c6 es6
  e1 : ths es = r.1
  f : fullR es6 = r.1
  b : Bytes W B r.2.data
  c : Texts W C r.2.names
  bx : W.heap[N]? = some (.cells #[.int .i64 r.2.code, .slice B r.2.data.length cB, .slice C r.2.names.length cC, .int .i64 r.2.size, .bool r.2.dir] 36 (0, 0))
  b6 : Bytes W B6 r.2.data
  c6 : Texts W C6 r.2.names
  ab : W.heap[N11]? = some (.cells #[.int .i64 r.2.code, .slice B6 r.2.data.length cB6, .slice C6 r.2.names.length cC6, .int .i64 r.2.size, .bool r.2.dir] 36 (0, 0))
section
variable {w W W' : World} {x y : Int} {a M NR ca cB cC N N10 N11 c6 cB6 cC6 : Nat} {es rs es6 : List (Txt × El)} {A B C A6 B6 C6 : Option Addr} {r : TL × AnsV}
theorem PlE.below (h : PlE w x y a M es NR A6 c6 es6 r B C cB cC N N11 B6 C6 cB6 cC6 W) (hb : Below W.heap.size W W') : PlE w x y a M es NR A6 c6 es6 r B C cB cC N N11 B6 C6 cB6 cC6 W' :=
  ⟨h.bel.trans (hb.mono h.bel.size), h.tr.below hb, heap_below h.rb hb, h.rt.below hb, h.e1, h.f, h.b.below hb, Sees.below h.c hb, heap_below h.bx hb, h.b6.below hb, Sees.below h.c6 hb, heap_below h.ab hb⟩
theorem PlD.set (h : PlD w x y a M es NR A ca rs r B C cB cC N N10 N11 A6 c6 es6 B6 C6 cB6 cC6 W) (hg : MaxG w) (h1 : w.heap.size < a) (h2 : a < NR) :
    PlE w x y a M es NR A6 c6 es6 r B C cB cC N N11 B6 C6 cB6 cC6 (((W.setCell ⟨NR, 0, none⟩ (.int .i64 x)).setCell ⟨NR, 1, none⟩ (.int .i64 y)).setCell ⟨NR, 2, none⟩ (.slice A6 es6.length c6)) := by
  have ht := tch3B W NR (.int .i64 x) (.int .i64 y) (.slice A6 es6.length c6)
  have hs : ∀ k, k = NR → ∀ o (s : Txt), W.cell? ⟨k, o, none⟩ ≠ some (.string (bs s)) := fun k hk o s => by subst hk; exact no_cell h.m.rb (by simp) o
  have hb : ∀ k, k = NR → ∀ o (u : UInt8), W.cell? ⟨k, o, none⟩ ≠ some (by8 u) := fun k hk o u => by subst hk; exact no_cell h.m.rb (by simp [by8]) o
  have ht2 : ∀ {C' : Option Addr} {l : List Txt}, Texts W C' l → Texts _ C' l := fun hC => sees_skip hC ht (fun k hk o u hu => by
    obtain ⟨s, _, rfl⟩ := List.mem_map.1 hu
    exact hs k hk o s)
  have hN : N ≠ NR := fun e => by
    have := h.m.bx
    rw [e, h.m.rb] at this
    injection this with this
    injection this with _ this
    exact absurd this (by decide)
  refine ⟨h.m.bel.trans (ht.below h.m.bel.size fun k e => by omega), h.m.tr.touch ht (fun e => by omega) (fun e => ?_) (fun e => ?_) hb, set3_block _ _ _ h.m.rb, RT.skip h.rt ht hs hb, h.m.e1, h.f, bytes_skip h.m.b ht hb, ht2 h.m.c, heap_touch h.m.bx ht hN, bytes_skip h.b ht hb, ht2 h.c, heap_touch h.ab ht (fun e => by have := h.n2; omega)⟩
  · obtain ⟨ms, clock, h3, _⟩ := h.m.tr.tm.own
    rw [e, h.m.rb] at h3
    cases h3
  · obtain ⟨m, hm⟩ := hg
    have := World.block_lt_of_cell? w _ hm
    have e : 0 = NR := e
    omega
end

set_option maxRecDepth 100000 in
set_option maxHeartbeats 16000000 in
theorem treeplays_any (x y : Int) (Ao : Option Addr) (co : Nat) (l : List Cl) (w : World) (hsee : Sees w Ao (l.flatMap clC)) (hl : ∀ z ∈ l, clOk w z) (hm : l.length ≤ maxLen) (hg : MaxG w) :
    Calls Tryz.prog 5 #[.agg #[.int .i64 x, .int .i64 y], .slice Ao l.length co] w fun e w' => e = .returned (.bool true) ∧ Below w.heap.size w w' := by
  unfold maxLen at hm
  obtain ⟨n, hn⟩ : ∃ n, n = l.length := ⟨_, rfl⟩
  rw [← hn] at hm ⊢
  have HN := Lib.hid hn
  have HSee := Lib.hid hsee
  have HIn := Lib.hid hl
  have hB0 : Below w.heap.size w (w.alloc (.cells #[.int .i64 x, .int .i64 y] 49)) := (Below.refl _ _).alloc (Nat.le_refl _) _
  have HX0 := Lib.hid (heap_alloc_new w (.cells #[.int .i64 x, .int .i64 y] 49))
  have hg0 : MaxG (w.alloc (.cells #[.int .i64 x, .int .i64 y] 49)) := hg.touch (K := fun _ => False) (Tch.of_below hB0) (fun e => e)
  have PA := Lib.hid (fun W (hW : MaxG W) => awake_any W hW)
  have HB0 := Lib.hid hB0
  have HG := Lib.hid hg
  by_cases hr : rightP x y
  case neg =>
    have P1 := Lib.hid (new_not x y (w.alloc (.cells #[.int .i64 x, .int .i64 y] 49)) hr)
    have pr := fun W => rright_any x y W
    rw [right_no hr] at pr
    have PR := Lib.hid pr
    clear hn hsee hl hB0 hg0 hg hr pr
    go_enter Tryz.func5, Tryz.ntmps5
    go_wp2_with fail
    refine (P1.out).mono ?_
    rintro e w1 ⟨rfl, hB1⟩
    have HX1 := Lib.hid (heap_below HX0.out hB1)
    have HB1 := Lib.hid (HB0.out.trans (hB1.mono HB0.out.size))
    have k0 : w1.cell? ⟨w.heap.size, 0, none⟩ = some (.int .i64 x) := cell_of_row _ _ 0 _ _ _ HX1.out
    have k1 : w1.cell? ⟨w.heap.size, 1, none⟩ = some (.int .i64 y) := cell_of_row _ _ 1 _ _ _ HX1.out
    clear hB1 P1
    go_wp2_with fail
    refine (PR.out w1).mono ?_
    rintro e w2 ⟨rfl, hB2⟩
    have HB2 := Lib.hid (HB1.out.trans (hB2.mono HB1.out.size))
    have P2 := Lib.hid (PA.out w2 (HG.out.touch (K := fun _ => False) (Tch.of_below HB2.out) (fun e => e)))
    clear hB2 k0 k1
    go_wp2_with fail
    refine (P2.out).mono ?_
    rintro e w3 ⟨rfl, hB3⟩
    have HB3 := Lib.hid (HB2.out.trans (hB3.mono HB2.out.size))
    clear hB3
    go_wp2_with fail
    go_ret
    exact ⟨rfl, HB3.out⟩
  case pos =>
    have P1 := Lib.hid (new_ok x y (w.alloc (.cells #[.int .i64 x, .int .i64 y] 49)) hr hg0)
    have pr := fun W => rright_any x y W
    rw [right_yes hr] at pr
    have PR := Lib.hid pr
    have hx1 : x ≤ 64 := hr.2.1
    have hi0 : InvA x y newV := inv0 hr.1 hr.2.2.1
    have HI0 := Lib.hid hi0
    have HX1 := Lib.hid hx1
    clear hn hsee hl hB0 hg0 hg hr hi0 hx1 pr
    go_enter Tryz.func5, Tryz.ntmps5
    go_wp2_with fail
    refine (P1.out).mono ?_
    rintro e w1 ⟨a, M0, es0, rfl, hT1, he1, ha1, hB1⟩
    have hlo : w.heap.size < a := by have := lt_of_block HX0.out; omega
    have HLo := Lib.hid hlo
    have HBx := Lib.hid (heap_below HX0.out hB1)
    have HB1 := Lib.hid (HB0.out.trans (hB1.mono HB0.out.size))
    have HT1 := Lib.hid hT1
    have HE1 := Lib.hid he1
    have k0 : w1.cell? ⟨w.heap.size, 0, none⟩ = some (.int .i64 x) := cell_of_row _ _ 0 _ _ _ HBx.out
    have k1 : w1.cell? ⟨w.heap.size, 1, none⟩ = some (.int .i64 y) := cell_of_row _ _ 1 _ _ _ HBx.out
    clear hT1 he1 ha1 hB1 P1 HB0 HX0 hlo
    go_wp2_with fail
    refine (PR.out w1).mono ?_
    rintro e w2 ⟨rfl, hB2⟩
    have hx2 := heap_below HBx.out hB2
    have k0 : w2.cell? ⟨w.heap.size, 0, none⟩ = some (.int .i64 x) := cell_of_row _ _ 0 _ _ _ hx2
    have k1 : w2.cell? ⟨w.heap.size, 1, none⟩ = some (.int .i64 y) := cell_of_row _ _ 1 _ _ _ hx2
    have hb3 : Below w2.heap.size w2 (w2.alloc (.cells #[.int .i64 x, .int .i64 y, .slice none 0 0] 53)) := (Below.refl _ _).alloc (Nat.le_refl _) _
    have hT3 := (HT1.out.below hB2).below hb3
    have hS : PlR w x y a M0 es0 w2.heap.size none 0 [] (w2.alloc (.cells #[.int .i64 x, .int .i64 y, .slice none 0 0] 53)) :=
      ⟨HB1.out.trans ((hB2.trans (hb3.mono hB2.size)).mono HB1.out.size), hT3, heap_alloc_new _ _, ⟨.inl rfl, (fun y hy => by cases hy), Nat.le_refl _, Nat.zero_le _⟩, by rw [HE1.out]; rfl, by rw [HE1.out]; exact HI0.out, HLo.out, by have := (HT1.out.below hB2).lt; omega, HX1.out⟩
    have HS := Lib.hid hS
    clear hB2 hx2 hb3 hT3 hS HT1 HE1 HB1 HBx HI0 HX1 PR
    go_upto_region 5 with (fail)
    generalize w2.alloc (.cells #[.int .i64 x, .int .i64 y, .slice none 0 0] 53) = W2 at HS ⊢
    generalize w2.heap.size = NR at HS ⊢
    clear k0 k1
    go_wp2_with fail
    go_loopw [8] (fun iv wr => ∃ (k M : Nat) (es : List (Txt × El)) (A : Option Addr) (ca : Nat) (rs : List (Txt × El)), k ≤ n ∧ k ≤ 40 ∧ iv = .int .i64 k ∧ Hid (PlR w x y a M es NR A ca rs wr)) (fun iv _ => n - (intOf iv).toNat)
    case atStart => exact ⟨0, _, _, _, _, _, Nat.zero_le _, Nat.zero_le _, rfl, HS⟩
    case round =>
      clear HS
      obtain ⟨k, M, es, A, ca, rs, hk, hk30, rfl, HT⟩ := hrel
      by_cases hlt : k < n
      · by_cases hlt2 : k < 40
        · have hko : k < l.length := by rw [← HN.out]; exact hlt
          obtain ⟨b, off, hAo, hbs, hc⟩ := HSee.out.elem (f := clC) (k := 6) (fun _ => rfl) (by omega) (by omega)
          obtain ⟨z, hz⟩ : ∃ z, z = l[k] := ⟨_, rfl⟩
          have hin : clOk w z := HIn.out z (by rw [hz]; exact List.getElem_mem _)
          have hrow := fun W (bel : Below w.heap.size w W) => pl_facts hbs bel hc hko hz
          obtain ⟨⟨e0, e1, e2, e3, e4, e5⟩⟩ := And.intro (hrow wr HT.out.bel) True.intro
          have HRow := Lib.hid hrow
          have HZ := Lib.hid (fun W (bel : Below w.heap.size w W) => Sees.below (A := z.2.1) hin bel)
          have hkI : (k : Int) < (n : Int) := by omega
          have hk6 : decide ((k : Int) < 40) = true := by simp; omega
          have hk0 : (0 : Int) ≤ (k : Int) := by omega
          rw [hAo]
          clear hz hc hin hAo hrow
          have P2 := Lib.hid (far_any z.1 z.2.1 z.2.2 wr)
          obtain ⟨far, hfar⟩ : ∃ far, far = farV z.1 := ⟨_, rfl⟩
          rw [← hfar] at P2
          have HFar := Lib.hid hfar
          clear hfar hbs
          cases far with
          | true =>
            clear HFar
            go_wp2_with fail
            refine (P2.out).mono ?_
            rintro e w2 ⟨rfl, hB2⟩
            have hT2 := HT.out.below hB2
            have P3 := Lib.hid (PA.out w2 hT2.tr.gl)
            have HB := Lib.hid hT2.bel
            clear hB2 hT2
            go_wp2_with fail
            refine (P3.out).mono ?_
            rintro e w3 ⟨rfl, hB3⟩
            have HF := Lib.hid (HB.out.trans (hB3.mono HB.out.size))
            clear hB3
            go_wp2_with fail
            go_ret
            exact ⟨rfl, HF.out⟩
          | false =>
            have hfl : z.1.path.length ≤ 120 ∧ z.1.to.length ≤ 120 ∧ z.1.data.length ≤ 600 := by
              have := HFar.out
              unfold farV at this
              have := of_decide_eq_false this.symm
              omega
            have HFl := Lib.hid hfl
            clear hfl HFar
            go_wp2_with fail
            refine (P2.out).mono ?_
            rintro e w2 ⟨rfl, hB2⟩
            have hT2 := HT.out.below hB2
            have p4 := do_any a x y M es z.1 z.2.1 z.2.2 w2 hT2.tr (HZ.out w2 hT2.bel) hT2.inv.inv (by have := hT2.len; omega) (by have := HFl.out; omega) (by have := HFl.out; omega)
            obtain ⟨r, hr⟩ : ∃ r, r = doV x y (ths es) z.1 := ⟨_, rfl⟩
            rw [← hr] at p4
            have P4 := Lib.hid p4
            have HR := Lib.hid hr
            have HT2 := Lib.hid hT2
            obtain ⟨e0, e1, e2, e3, e4, e5⟩ := HRow.out w2 hT2.bel
            clear hB2 hT2 P2 p4 hr HT
            go_wp2_with fail
            refine (P4.out).mono ?_
            rintro e w4 ⟨M3, es3, B, cB, C, cC, rfl, hb4, hc4, hT4, he4, ht4⟩
            obtain ⟨hq1, hq2, hq3⟩ := HT2.out.done hT4 ht4
            have hb5 : Below w4.heap.size w4 (w4.alloc (.cells #[.int .i64 r.2.code, .slice B r.2.data.length cB, .slice C r.2.names.length cC, .int .i64 r.2.size, .bool r.2.dir] 36)) := (Below.refl _ _).alloc (Nat.le_refl _) _
            have hD : PlM w x y a M3 es3 NR A ca rs r B C cB cC w4.heap.size (w4.alloc (.cells #[.int .i64 r.2.code, .slice B r.2.data.length cB, .slice C r.2.names.length cC, .int .i64 r.2.size, .bool r.2.dir] 36)) :=
              ⟨hq1.trans (hb5.mono hq1.size), hT4.below hb5, heap_below hq2 hb5, hq3.below hb5, he4, hb4.below hb5, Sees.below hc4 hb5, heap_alloc_new _ _⟩
            have HInv := Lib.hid HT2.out.inv
            have HEq := Lib.hid HT2.out.eq
            have HLen := Lib.hid HT2.out.len2
            clear hb4 hc4 hT4 he4 ht4 hq1 hq2 hq3 hb5 e0 e1 e2 e3 e4 e5 P4
            go_upto_region 11 with (fail)
            generalize w4.alloc (.cells #[.int .i64 r.2.code, .slice B r.2.data.length cB, .slice C r.2.names.length cC, .int .i64 r.2.size, .bool r.2.dir] 36) = W5 at hD ⊢
            generalize w4.heap.size = N at hD ⊢
            obtain ⟨e0, e1, e2, e3, e4, e5⟩ := HRow.out W5 hD.bel
            have r0 : W5.cell? ⟨NR, 0, none⟩ = some (.int .i64 x) := cell_of_row _ _ 0 _ _ _ hD.rb
            have r1 : W5.cell? ⟨NR, 1, none⟩ = some (.int .i64 y) := cell_of_row _ _ 1 _ _ _ hD.rb
            have r2 : W5.cell? ⟨NR, 2, none⟩ = some (.slice A rs.length ca) := cell_of_row _ _ 2 _ _ _ hD.rb
            have HD := Lib.hid hD
            have HPQ : Hid (∀ U, Below W5.heap.size W5 U → PlQ x y NR A rs.length ca b (off + k * 6) z W5 U) := fun U hU => by
              have hx := hD.below hU
              obtain ⟨e0, e1, e2, e3, e4, e5⟩ := HRow.out U hx.bel
              exact ⟨cell_of_row _ _ 0 _ _ _ hx.rb, cell_of_row _ _ 1 _ _ _ hx.rb, cell_of_row _ _ 2 _ _ _ hx.rb, e0, e1, e2, e3, e4, e5, hU⟩
            obtain ⟨n2, hn2⟩ : ∃ n2, n2 = rs.length := ⟨_, rfl⟩
            have HN2 := Lib.hid hn2
            have PD : Hid (∀ U, PlQ x y NR A n2 ca b (off + k * 6) z W5 U → Calls Tryz.prog 21 #[.agg #[.int .i64 x, .int .i64 y, .slice A n2 ca], .agg #[.int .i64 z.1.kind, .string (bs z.1.path), .string (bs z.1.to), .int .i64 z.1.off, .int .i64 z.1.n, .slice z.2.1 z.1.data.length z.2.2]] U (ToldRDo r x y U)) := fun U hU => by
              have hx := HD.out.below hU.bel
              have := rdo_any x y A rs ca z.1 z.2.1 z.2.2 U hx.rt (HZ.out U hx.bel) (by have := HFl.out; omega) (by rw [← HEq.out]; exact HInv.out) (by have := HLen.out; omega) (by have := HFl.out; omega) (by have := HFl.out; omega)
              rw [← HEq.out, ← HR.out, ← HN2.out] at this
              exact this
            rw [← hn2] at HPQ
            rw [← hn2] at r2
            clear hD hn2
            unfold ToldRDo at PD
            go_cut [10, 11] (fun s t wc => ∃ (N10 N11 : Nat) (A6 : Option Addr) (c6 : Nat) (es6 : List (Txt × El)) (B6 C6 : Option Addr) (cB6 cC6 : Nat), s = .pointer (some ⟨N10, 0, none⟩) ∧ t = .pointer (some ⟨N11, 0, none⟩) ∧ Hid (PlD w x y a M3 es3 NR A ca rs r B C cB cC N N10 N11 A6 c6 es6 B6 C6 cB6 cC6 wc))
            case first =>
              have PD0 := Lib.hid (PD.out (W5.drew) (HPQ.out _ (bl_dr (Below.refl _ _))))
              have PD1 := Lib.hid (PD.out ((W5.alloc (.cells #[.int .i64 0, .int .i64 0, .slice none 0 0] 53)).drew) (HPQ.out _ (bl_dr (bl_al (Below.refl _ _)))))
              have PD2 := Lib.hid (PD.out ((W5.alloc (.cells #[.int .i64 0, .slice none 0 0, .slice none 0 0, .int .i64 0, .bool false] 36)).drew) (HPQ.out _ (bl_dr (bl_al (Below.refl _ _)))))
              have PD3 := Lib.hid (PD.out (((W5.alloc (.cells #[.int .i64 0, .int .i64 0, .slice none 0 0] 53)).alloc (.cells #[.int .i64 0, .slice none 0 0, .slice none 0 0, .int .i64 0, .bool false] 36)).drew) (HPQ.out _ (bl_dr (bl_al (bl_al (Below.refl _ _))))))
              have PD4 := Lib.hid (PD.out (((W5.alloc (.cells #[.int .i64 0, .slice none 0 0, .slice none 0 0, .int .i64 0, .bool false] 36)).alloc (.cells #[.int .i64 0, .int .i64 0, .slice none 0 0] 53)).drew) (HPQ.out _ (bl_dr (bl_al (bl_al (Below.refl _ _))))))
              go_region_held3 (fun U => U.cell? ⟨NR, 0, none⟩ = some (.int .i64 x) ∧ U.cell? ⟨NR, 1, none⟩ = some (.int .i64 y) ∧ U.cell? ⟨NR, 2, none⟩ = some (.slice A n2 ca) ∧ U.cell? ⟨b, off + k * 6, none⟩ = some (.int .i64 z.1.kind) ∧ U.cell? ⟨b, off + k * 6 + 1, none⟩ = some (.string (bs z.1.path)) ∧ U.cell? ⟨b, off + k * 6 + 2, none⟩ = some (.string (bs z.1.to)) ∧ U.cell? ⟨b, off + k * 6 + 3, none⟩ = some (.int .i64 z.1.off) ∧ U.cell? ⟨b, off + k * 6 + 4, none⟩ = some (.int .i64 z.1.n) ∧ U.cell? ⟨b, off + k * 6 + 5, none⟩ = some (.slice z.2.1 z.1.data.length z.2.2) ∧ Below W5.heap.size W5 U)
                (first | exact HPQ.out _ (by repeat' first | with_reducible exact hb6 | with_reducible exact Below.refl _ _ | with_reducible refine bl_dr ?_ | with_reducible refine bl_al ?_ | with_reducible refine bl_set ?_ (by simp)) | fail)
                (first
                  | (go_at_call 21; (with_reducible refine (PD0.out).mono ?_); rintro e w6 ⟨A6, c6, es6, B6, cB6, C6, cC6, rfl, hRT6, hfl6, hby6, htx6, hB6⟩; have hb6 : Below W5.heap.size W5 w6 := (bl_dr (Below.refl _ _)).trans (hB6.mono (bl_dr (Below.refl _ _)).size))
                  | (go_at_call 21; (with_reducible refine (PD1.out).mono ?_); rintro e w6 ⟨A6, c6, es6, B6, cB6, C6, cC6, rfl, hRT6, hfl6, hby6, htx6, hB6⟩; have hb6 : Below W5.heap.size W5 w6 := (bl_dr (bl_al (Below.refl _ _))).trans (hB6.mono (bl_dr (bl_al (Below.refl _ _))).size); have J10 := Lib.hid (pre1 hB6); obtain ⟨a0, a1, a2, af0, af1, af2, al, an⟩ := tb_facts J10.out)
                  | (go_at_call 21; (with_reducible refine (PD2.out).mono ?_); rintro e w6 ⟨A6, c6, es6, B6, cB6, C6, cC6, rfl, hRT6, hfl6, hby6, htx6, hB6⟩; have hb6 : Below W5.heap.size W5 w6 := (bl_dr (bl_al (Below.refl _ _))).trans (hB6.mono (bl_dr (bl_al (Below.refl _ _))).size); have J11 := Lib.hid (pre1 hB6); obtain ⟨b0, b1, b2, b3, b4, bf0, bf1, bf2, bf3, bf4, bl, bn⟩ := ab_facts J11.out)
                  | (go_at_call 21; (with_reducible refine (PD3.out).mono ?_); rintro e w6 ⟨A6, c6, es6, B6, cB6, C6, cC6, rfl, hRT6, hfl6, hby6, htx6, hB6⟩; have hb6 : Below W5.heap.size W5 w6 := (bl_dr (bl_al (bl_al (Below.refl _ _)))).trans (hB6.mono (bl_dr (bl_al (bl_al (Below.refl _ _)))).size); have J10 := Lib.hid (pre2 hB6).1; have J11 := Lib.hid (pre2 hB6).2; obtain ⟨a0, a1, a2, af0, af1, af2, al, an⟩ := tb_facts J10.out; obtain ⟨b0, b1, b2, b3, b4, bf0, bf1, bf2, bf3, bf4, bl, bn⟩ := ab_facts J11.out; have ab : W5.heap.size ≠ W5.heap.size + 1 := Nat.ne_of_lt (Nat.lt_succ_self _); have ba : W5.heap.size + 1 ≠ W5.heap.size := Nat.ne_of_gt (Nat.lt_succ_self _))
                  | (go_at_call 21; (with_reducible refine (PD4.out).mono ?_); rintro e w6 ⟨A6, c6, es6, B6, cB6, C6, cC6, rfl, hRT6, hfl6, hby6, htx6, hB6⟩; have hb6 : Below W5.heap.size W5 w6 := (bl_dr (bl_al (bl_al (Below.refl _ _)))).trans (hB6.mono (bl_dr (bl_al (bl_al (Below.refl _ _)))).size); have J10 := Lib.hid (pre2 hB6).2; have J11 := Lib.hid (pre2 hB6).1; obtain ⟨a0, a1, a2, af0, af1, af2, al, an⟩ := tb_facts J10.out; obtain ⟨b0, b1, b2, b3, b4, bf0, bf1, bf2, bf3, bf4, bl, bn⟩ := ab_facts J11.out; have ab : W5.heap.size ≠ W5.heap.size + 1 := Nat.ne_of_lt (Nat.lt_succ_self _); have ba : W5.heap.size + 1 ≠ W5.heap.size := Nat.ne_of_gt (Nat.lt_succ_self _))
                  | fail)
              all_goals rename_i FS0
              · go_wp2_with fail
                go_meet
                obtain ⟨hw1, hw2, hw3⟩ := way_aa _ _
                exact ⟨_, _, A6, c6, es6, B6, C6, cB6, cC6, rfl, rfl, Lib.hid (HD.out.done FS0.2.2.2.2.2.2.2.2.2 hw1 (fun k e => e.elim) hRT6 hfl6 hby6 htx6 hw2 hw3 (by have := hb6.size; omega) (by have := hb6.size; omega))⟩
              · go_wp2_with fail
                go_meet
                obtain ⟨hw1, hw2, hw3⟩ := way_aa _ _
                exact ⟨_, _, A6, c6, es6, B6, C6, cB6, cC6, rfl, rfl, Lib.hid (HD.out.done FS0.2.2.2.2.2.2.2.2.2 hw1 (fun k e => e.elim) hRT6 hfl6 hby6 htx6 hw3 hw2 (by have := hb6.size; omega) (by have := hb6.size; omega))⟩
              · go_wp2_with fail
                go_meet
                obtain ⟨hw1, hw2, hw3⟩ := way_ta J10.out _ _ _ _
                exact ⟨_, _, A6, c6, es6, B6, C6, cB6, cC6, rfl, rfl, Lib.hid (HD.out.done FS0.2.2.2.2.2.2.2.2.2 hw1 (fun k e => by subst e; exact zt_plain J10.out) hRT6 hfl6 hby6 htx6 hw2 hw3 (by have := hb6.size; omega) (by have := hb6.size; omega))⟩
              · go_wp2_with fail
                go_meet
                obtain ⟨hw1, hw2, hw3⟩ := way_ts J10.out J11.out ab _ _ _ _ _ _ _ _
                exact ⟨_, _, A6, c6, es6, B6, C6, cB6, cC6, rfl, rfl, Lib.hid (HD.out.done FS0.2.2.2.2.2.2.2.2.2 hw1 (fun k e => by rcases e with rfl | rfl; exact zt_plain J10.out; exact za_plain J11.out) hRT6 hfl6 hby6 htx6 hw2 hw3 (by have := hb6.size; omega) (by have := hb6.size; omega))⟩
              · go_wp2_with fail
                go_meet
                obtain ⟨hw1, hw2, hw3⟩ := way_sa J11.out _ _ _ _ _ _
                exact ⟨_, _, A6, c6, es6, B6, C6, cB6, cC6, rfl, rfl, Lib.hid (HD.out.done FS0.2.2.2.2.2.2.2.2.2 hw1 (fun k e => by subst e; exact za_plain J11.out) hRT6 hfl6 hby6 htx6 hw3 hw2 (by have := hb6.size; omega) (by have := hb6.size; omega))⟩
              · go_wp2_with fail
                go_meet
                obtain ⟨hw1, hw2, hw3⟩ := way_ts J10.out J11.out ba _ _ _ _ _ _ _ _
                exact ⟨_, _, A6, c6, es6, B6, C6, cB6, cC6, rfl, rfl, Lib.hid (HD.out.done FS0.2.2.2.2.2.2.2.2.2 hw1 (fun k e => by rcases e with rfl | rfl; exact zt_plain J10.out; exact za_plain J11.out) hRT6 hfl6 hby6 htx6 hw2 hw3 (by have := hb6.size; omega) (by have := hb6.size; omega))⟩
            case rest =>
              obtain ⟨N10, N11, A6, c6, es6, B6, C6, cB6, cC6, rfl, rfl, HQ⟩ := hcut
              have hq := HQ.out
              have q0 : wc.cell? ⟨N10, 0, none⟩ = some (.int .i64 x) := cell_of_row _ _ 0 _ _ _ hq.tb
              have q1 : wc.cell? ⟨N10, 1, none⟩ = some (.int .i64 y) := cell_of_row _ _ 1 _ _ _ hq.tb
              have q2 : wc.cell? ⟨N10, 2, none⟩ = some (.slice A6 es6.length c6) := cell_of_row _ _ 2 _ _ _ hq.tb
              have r0 : wc.cell? ⟨NR, 0, none⟩ = some (.int .i64 x) := cell_of_row _ _ 0 _ _ _ hq.m.rb
              have r1 : wc.cell? ⟨NR, 1, none⟩ = some (.int .i64 y) := cell_of_row _ _ 1 _ _ _ hq.m.rb
              have r2 : wc.cell? ⟨NR, 2, none⟩ = some (.slice A rs.length ca) := cell_of_row _ _ 2 _ _ _ hq.m.rb
              have f0 := frozen_of_row wc NR 0 _ _ hq.m.rb
              have f1 := frozen_of_row wc NR 1 _ _ hq.m.rb
              have f2 := frozen_of_row wc NR 2 _ _ hq.m.rb
              have lr : NR < wc.heap.size := heap_lt hq.m.rb
              have HE := Lib.hid (hq.set HG.out HT2.out.lo HT2.out.nr)
              clear hq e0 e1 e2 e3 e4 e5 HPQ PD
              go_upto_region 13 with (fail)
              clear q0 q1 q2 r0 r1 r2 f0 f1 f2 lr
              generalize ((wc.setCell ⟨NR, 0, none⟩ (.int .i64 x)).setCell ⟨NR, 1, none⟩ (.int .i64 y)).setCell ⟨NR, 2, none⟩ (.slice A6 es6.length c6) = W8 at HE ⊢
              have hdl : r.2.data.length ≤ 512 := by rw [HR.out]; exact do_data HInv.out.inv z.1
              have hnl : r.2.names.length ≤ 1000 := by
                have := do_names x y (ths es) z.1
                rw [← HR.out, HEq.out, full_length] at this
                have := HLen.out
                omega
              have p9 := rsame_eq r.2 B cB C cC B6 cB6 C6 cC6 W8 HE.out.b HE.out.c HE.out.b6 HE.out.c6 (by omega) (by omega)
              have p10 := fun U (hU : Below W8.heap.size W8 U) => tsame_eq r.2 B cB C cC B6 cB6 C6 cC6 U (HE.out.b.below hU) (Sees.below HE.out.c hU) (HE.out.b6.below hU) (Sees.below HE.out.c6 hU) (by omega)
              have hl6 : es6.length ≤ 64 := by
                have h1 : InvA x y r.1 := by rw [HR.out]; exact do_inv HInv.out z.1
                have h2 := h1.len
                rw [← HE.out.f, full_length] at h2
                have := HT2.out.hi
                omega
              have p11 := fun U (hU : Below W8.heap.size W8 U) => lsame_any a x y M3 es3 A6 es6 c6 U (HE.out.tr.below hU) (HE.out.rt.below hU) (by rw [HE.out.e1, HE.out.f]) (by rw [HE.out.f, HR.out]; exact (do_inv HInv.out z.1).inv) (by omega)
              have P9 := Lib.hid p9
              have P10 := Lib.hid p10
              have P11 := Lib.hid p11
              have x0 : W8.cell? ⟨N, 0, none⟩ = some (.int .i64 r.2.code) := cell_of_row _ _ 0 _ _ _ HE.out.bx
              have x1 : W8.cell? ⟨N, 1, none⟩ = some (.slice B r.2.data.length cB) := cell_of_row _ _ 1 _ _ _ HE.out.bx
              have x2 : W8.cell? ⟨N, 2, none⟩ = some (.slice C r.2.names.length cC) := cell_of_row _ _ 2 _ _ _ HE.out.bx
              have x3 : W8.cell? ⟨N, 3, none⟩ = some (.int .i64 r.2.size) := cell_of_row _ _ 3 _ _ _ HE.out.bx
              have x4 : W8.cell? ⟨N, 4, none⟩ = some (.bool r.2.dir) := cell_of_row _ _ 4 _ _ _ HE.out.bx
              have y0 : W8.cell? ⟨N11, 0, none⟩ = some (.int .i64 r.2.code) := cell_of_row _ _ 0 _ _ _ HE.out.ab
              have y1 : W8.cell? ⟨N11, 1, none⟩ = some (.slice B6 r.2.data.length cB6) := cell_of_row _ _ 1 _ _ _ HE.out.ab
              have y2 : W8.cell? ⟨N11, 2, none⟩ = some (.slice C6 r.2.names.length cC6) := cell_of_row _ _ 2 _ _ _ HE.out.ab
              have y3 : W8.cell? ⟨N11, 3, none⟩ = some (.int .i64 r.2.size) := cell_of_row _ _ 3 _ _ _ HE.out.ab
              have y4 : W8.cell? ⟨N11, 4, none⟩ = some (.bool r.2.dir) := cell_of_row _ _ 4 _ _ _ HE.out.ab
              clear hdl hnl hl6 p9 p10 p11
              go_wp2_with fail
              refine (P9.out).mono ?_
              rintro e w9 ⟨rfl, hB9⟩
              have HB9 := Lib.hid hB9
              have HE9 := Lib.hid (HE.out.below hB9)
              have P12 := Lib.hid (P10.out w9 hB9)
              clear hB9 x0 x1 x2 x3 x4 y0 y1 y2 y3 y4 P9 P10
              have x0 : w9.cell? ⟨N, 0, none⟩ = some (.int .i64 r.2.code) := cell_of_row _ _ 0 _ _ _ HE9.out.bx
              have x1 : w9.cell? ⟨N, 1, none⟩ = some (.slice B r.2.data.length cB) := cell_of_row _ _ 1 _ _ _ HE9.out.bx
              have x2 : w9.cell? ⟨N, 2, none⟩ = some (.slice C r.2.names.length cC) := cell_of_row _ _ 2 _ _ _ HE9.out.bx
              have x3 : w9.cell? ⟨N, 3, none⟩ = some (.int .i64 r.2.size) := cell_of_row _ _ 3 _ _ _ HE9.out.bx
              have x4 : w9.cell? ⟨N, 4, none⟩ = some (.bool r.2.dir) := cell_of_row _ _ 4 _ _ _ HE9.out.bx
              have y0 : w9.cell? ⟨N11, 0, none⟩ = some (.int .i64 r.2.code) := cell_of_row _ _ 0 _ _ _ HE9.out.ab
              have y1 : w9.cell? ⟨N11, 1, none⟩ = some (.slice B6 r.2.data.length cB6) := cell_of_row _ _ 1 _ _ _ HE9.out.ab
              have y2 : w9.cell? ⟨N11, 2, none⟩ = some (.slice C6 r.2.names.length cC6) := cell_of_row _ _ 2 _ _ _ HE9.out.ab
              have y3 : w9.cell? ⟨N11, 3, none⟩ = some (.int .i64 r.2.size) := cell_of_row _ _ 3 _ _ _ HE9.out.ab
              have y4 : w9.cell? ⟨N11, 4, none⟩ = some (.bool r.2.dir) := cell_of_row _ _ 4 _ _ _ HE9.out.ab
              go_wp2_with fail
              refine (P12.out).mono ?_
              rintro e w10 ⟨rfl, hB10⟩
              have hB11 := HB9.out.trans (hB10.mono HB9.out.size)
              have HE10 := Lib.hid (HE9.out.below hB10)
              have P13 := Lib.hid (P11.out w10 hB11)
              clear hB10 hB11 x0 x1 x2 x3 x4 y0 y1 y2 y3 y4 P12 P11
              have r0 : w10.cell? ⟨NR, 0, none⟩ = some (.int .i64 x) := cell_of_row _ _ 0 _ _ _ HE10.out.rb
              have r1 : w10.cell? ⟨NR, 1, none⟩ = some (.int .i64 y) := cell_of_row _ _ 1 _ _ _ HE10.out.rb
              have r2 : w10.cell? ⟨NR, 2, none⟩ = some (.slice A6 es6.length c6) := cell_of_row _ _ 2 _ _ _ HE10.out.rb
              go_wp2_with fail
              refine (P13.out).mono ?_
              rintro e w11 ⟨rfl, hB11⟩
              have HE11 := Lib.hid (HE10.out.below hB11)
              have HS : Hid (PlR w x y a M3 es3 NR A6 c6 es6 w11) := ⟨HE11.out.bel, HE11.out.tr, HE11.out.rb, HE11.out.rt, HE11.out.e1.trans HE11.out.f.symm, by rw [HE11.out.e1, HR.out]; exact do_inv HInv.out z.1, HT2.out.lo, HT2.out.nr, HT2.out.hi⟩
              clear hB11 r0 r1 r2
              go_wp2_with fail
              go_roundw
              case rel => exact ⟨k + 1, M3, es3, A6, c6, es6, by omega, by omega, by go_num, HS⟩
              case measure => simp [intOf]; omega
        · have hk6 : decide ((k : Int) < 40) = false := by simp; omega
          have hkI : (k : Int) < (n : Int) := by omega
          have P2 := Lib.hid (PA.out wr HT.out.tr.gl)
          go_wp2_with fail
          refine (P2.out).mono ?_
          rintro e w3 ⟨rfl, hB3⟩
          have HF := Lib.hid (HT.out.below hB3).bel
          clear hB3
          go_wp2_with fail
          go_ret
          exact ⟨rfl, HF.out⟩
      · obtain rfl : k = n := by omega
        have P2 := Lib.hid (PA.out wr HT.out.tr.gl)
        go_wp2_with fail
        refine (P2.out).mono ?_
        rintro e w3 ⟨rfl, hB3⟩
        have HF := Lib.hid (HT.out.below hB3).bel
        clear hB3
        go_wp2_with fail
        go_ret
        exact ⟨rfl, HF.out⟩
end Go.Proofs.YtabecceojbeomaaGreatDoor
