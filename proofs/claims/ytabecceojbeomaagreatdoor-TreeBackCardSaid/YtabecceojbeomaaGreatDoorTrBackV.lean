/- How much a call may raise the blocks that a tree uses: a weight of things that bounds them, raised by at most two. No condition. -/
import Derived.Test.YtabecceojbeomaaGreatDoorTrPlain
namespace Go.Cat.Tree
open Go.RowKit Go.Cat Go.Cat.Dir
/-- A thing's weight. -/
def wtT (y : Txt × Th) : Nat := (if y.2.dir then 0 else (y.2.b.length + 63) / 64) + 1
def wtL (l : TL) : Nat := (l.map wtT).sum
theorem rise_nodup {l : TL} (h : Rise l) : l.Nodup := by
  refine List.Pairwise.imp_of_mem ?_ h
  intro a b _ _ hl e
  rw [e] at hl
  exact lt_irrefl _ hl
theorem wt_perm {l m : TL} (h : l.Perm m) : wtL l = wtL m := (h.map wtT).sum_nat
theorem wt_cons (y : Txt × Th) (l : TL) : wtL (y :: l) = wtT y + wtL l := by unfold wtL; rw [List.map_cons, List.sum_cons]
theorem wt_append (l m : TL) : wtL (l ++ m) = wtL l + wtL m := by unfold wtL; rw [List.map_append, List.sum_append]
theorem wt_put {l : TL} (hr : Rise l) (p : Txt) (x : Th) : wtL (putT p x l) = wtT (p, x) + wtL (delT p l) := by
  rw [← wt_cons]
  refine wt_perm ((List.perm_ext_iff_of_nodup (rise_nodup (hr.put p x)) (List.nodup_cons.2 ⟨fun h => (del_mem.1 h).2 rfl, rise_nodup (hr.del p)⟩)).2 fun y => ?_)
  rw [put_mem, List.mem_cons, del_mem]
theorem wt_there {l : TL} (hr : Rise l) {p : Txt} {x : Th} (h : getT p l = some x) : wtL l = wtT (p, x) + wtL (delT p l) := by
  rw [← wt_put hr, put_same hr h]
theorem wt_del (p : Txt) (l : TL) : wtL (delT p l) ≤ wtL l := by
  unfold wtL delT
  induction l with
  | nil => exact Nat.le_refl _
  | cons y l ih =>
    rw [List.filter_cons]
    split
    · rw [List.map_cons, List.map_cons, List.sum_cons, List.sum_cons]; omega
    · rw [List.map_cons, List.sum_cons]; omega
theorem wt_filter (p : Txt × Th → Bool) (l : TL) : wtL (l.filter fun y => !p y) + wtL (l.filter p) = wtL l := by
  induction l with
  | nil => rfl
  | cons y l ih =>
    rw [List.filter_cons, List.filter_cons, wt_cons]
    cases p y <;> simp only [Bool.not_true, Bool.not_false, if_true, if_false, Bool.false_eq_true, wt_cons] <;> omega
theorem wt_keys (f : Txt × Th → Txt) (l : TL) : wtL (l.map fun y => (f y, y.2)) = wtL l := by
  unfold wtL
  rw [List.map_map]
  rfl
theorem MvOk.weight {l : TL} {a b : List Txt} {x : Th} (h : MvOk l a b x) : wtL (moveV (joinV a) (joinV b) l) = wtL l := by
  obtain ⟨h1, h2⟩ := h.move
  rw [← wt_filter (fun y => underV y.1 (joinV a)) l, ← wt_keys (fun y => goes (joinV a) (joinV b) y.1) (l.filter fun y => underV y.1 (joinV a)), ← wt_append]
  refine wt_perm ((List.perm_ext_iff_of_nodup (rise_nodup h1) (List.nodup_append.2 ⟨(rise_nodup h.inv.rise).filter _, ?_, ?_⟩)).2 fun y => ?_)
  · unfold List.Nodup
    rw [List.pairwise_map]
    refine List.Pairwise.imp_of_mem ?_ ((rise_nodup h.inv.rise).filter _)
    intro y z hy hz hne e
    obtain ⟨hy1, hy2⟩ := List.mem_filter.1 hy
    obtain ⟨hz1, hz2⟩ := List.mem_filter.1 hz
    injection e with e1 _
    exact hne (h.inv.rise.inj hy1 hz1 (h.goes_inj hy1 hy2 hz1 hz2 e1))
  · intro y hy z hz e
    obtain ⟨u, hu, rfl⟩ := List.mem_map.1 hz
    obtain ⟨hu1, hu2⟩ := List.mem_filter.1 hu
    exact h.goes_free hu1 hu2 y (List.mem_filter.1 hy).1 (by rw [e])
  · rw [h2, List.mem_append, List.mem_filter, List.mem_map]
    constructor
    · rintro (⟨h3, h4⟩ | ⟨z, hz, hu, rfl⟩)
      · exact .inl ⟨h3, by simpa using h4⟩
      · exact .inr ⟨z, List.mem_filter.2 ⟨hz, hu⟩, rfl⟩
    · rintro (⟨h3, h4⟩ | ⟨z, hz, rfl⟩)
      · exact .inl ⟨h3, by simpa using h4⟩
      · exact .inr ⟨z, (List.mem_filter.1 hz).1, (List.mem_filter.1 hz).2, rfl⟩
/-- Names of all paths together. -/
theorem one_key {ks : List Txt} (h : ks.Nodup) (q : Txt) : (ks.map fun k => if k = q then 1 else 0).sum ≤ 1 := by
  induction ks with
  | nil => exact Nat.zero_le _
  | cons k ks ih =>
    obtain ⟨h1, h2⟩ := List.nodup_cons.1 h
    rw [List.map_cons, List.sum_cons]
    by_cases hk : k = q
    · rw [if_pos hk]
      have : (ks.map fun k => if k = q then 1 else 0).sum = 0 := by
        clear ih h h2
        induction ks with
        | nil => rfl
        | cons j js ij =>
          rw [List.map_cons, List.sum_cons, if_neg (fun e => h1 (by rw [hk, ← e]; exact List.mem_cons_self)), ij (fun e => h1 (List.mem_cons_of_mem _ e))]
      omega
    · rw [if_neg hk]
      have := ih h2
      omega
theorem sum_add {α : Type} (f g : α → Nat) (l : List α) : (l.map fun y => f y + g y).sum = (l.map f).sum + (l.map g).sum := by
  induction l with
  | nil => rfl
  | cons y l ih => simp only [List.map_cons, List.sum_cons, ih]; omega
theorem sum_leN {α : Type} {f g : α → Nat} {l : List α} (h : ∀ y ∈ l, f y ≤ g y) : (l.map f).sum ≤ (l.map g).sum := by
  induction l with
  | nil => exact Nat.le_refl _
  | cons y l ih =>
    simp only [List.map_cons, List.sum_cons]
    have := h y List.mem_cons_self
    have := ih fun z hz => h z (List.mem_cons_of_mem _ hz)
    omega
theorem names_all {ks : List Txt} (h : ks.Nodup) (m : TL) : (ks.map fun k => (namesV k m).length).sum ≤ m.length := by
  induction m with
  | nil =>
    have : ∀ k, (namesV k []).length = 0 := fun _ => rfl
    simp only [this, List.length_nil]
    clear h
    induction ks with
    | nil => exact Nat.le_refl _
    | cons k ks ih => rw [List.map_cons, List.sum_cons]; omega
  | cons z m ih =>
    have e : ∀ k ∈ ks, (namesV k (z :: m)).length ≤ (if k = (abv z.1).1 then 1 else 0) + (namesV k m).length := fun k _ => by
      unfold namesV
      rw [List.filterMap_cons]
      split
      · omega
      · rename_i n hn
        unfold nameOf at hn
        split at hn
        · rename_i hc
          rw [if_pos hc.2.symm, List.length_cons]; omega
        · cases hn
    have h1 := sum_leN e
    rw [sum_add] at h1
    have h2 := one_key h (abv z.1).1
    rw [List.length_cons]
    omega
theorem need_nat (n : Nat) : need (n : Int) = ((n + 63) / 64 : Nat) := by unfold need; split <;> omega
theorem sum_cast {α : Type} (f : α → Nat) (l : List α) : (l.map fun y => ((f y : Nat) : Int)).sum = (((l.map f).sum : Nat) : Int) := by
  induction l with
  | nil => rfl
  | cons y l ih => rw [List.map_cons, List.map_cons, List.sum_cons, List.sum_cons, ih]; omega
/-- The weight bounds the blocks. -/
theorem blocks_wt {l : TL} (h : Inv l) : blocksV l ≤ wtL l := by
  have e : ∀ y ∈ l, need (sizeV l y.1) ≤ (((wtT y - 1) + (namesV y.1 l).length : Nat) : Int) := fun y hy => by
    have ht : thAt l y.1 = y.2 := by unfold thAt; rw [get_of_mem h.rise (show (y.1, y.2) ∈ l from hy)]; rfl
    unfold sizeV wtT
    rw [ht, need_nat]
    split <;> omega
  have h1 := sum_le e
  have h2 := sum_cast (fun y : Txt × Th => (wtT y - 1) + (namesV y.1 l).length) l
  rw [h2, sum_add] at h1
  have h3 := names_all (ks := l.map (·.1)) (by
    unfold List.Nodup
    rw [List.pairwise_map]
    exact List.Pairwise.imp (fun hl => lt_ne hl) h.rise) l
  rw [List.map_map] at h3
  have h4 : (l.map fun y => wtT y - 1).sum + l.length = wtL l := by
    unfold wtL
    clear h1 h2 h3 e h
    induction l with
    | nil => rfl
    | cons y l ih =>
      have : 1 ≤ wtT y := by unfold wtT; omega
      rw [List.map_cons, List.map_cons, List.sum_cons, List.sum_cons, List.length_cons]
      omega
  have h5 : (l.map ((fun k => (namesV k l).length) ∘ fun x => x.1)).sum = (l.map fun y => (namesV y.1 l).length).sum := rfl
  unfold blocksV
  omega
theorem write_len2 {b d : List UInt8} {off : Nat} (h : off ≤ b.length) : (writeV b off d).length ≤ b.length + d.length := by
  unfold writeV
  rw [List.length_append, List.length_append, List.length_take, List.length_drop]
  omega
/-- A call raises the weight by at most two. -/
theorem act_wt {l : TL} (h : Inv l) (c : CallV) : wtL (actV l c).1 ≤ wtL l + 2 := by
  unfold actV
  split
  · unfold makeV
    split
    · split
      · exact Nat.le_add_right _ _
      · split
        · exact Nat.le_add_right _ _
        · show wtL (putT _ _ _) ≤ _
          rw [wt_put h.rise]
          have := wt_del c.path l
          have : wtT (c.path, ⟨c.kind == 2, []⟩) ≤ 1 := by unfold wtT; split <;> simp
          omega
    · exact Nat.le_add_right _ _
  split
  · unfold removeV
    repeat' split
    all_goals first | exact Nat.le_add_right _ _ | (have := wt_del c.path l; show wtL (delT _ _) ≤ _; omega)
  split
  · unfold renameV
    split
    · rename_i h1
      split
      · rename_i h2
        split
        · exact Nat.le_add_right _ _
        · rename_i h3
          split
          · exact Nat.le_add_right _ _
          · rename_i h4
            split
            · rename_i h5
              split
              · exact Nat.le_add_right _ _
              · rename_i h6
                split
                · exact Nat.le_add_right _ _
                · rename_i h7
                  obtain ⟨a, b, e1, e2, hM⟩ := rename_ok h h1.1 h1.2 h2 h3 h4 h5 h6
                  rw [e1, e2]
                  show wtL (moveV _ _ _) ≤ _
                  rw [hM.weight]
                  exact Nat.le_add_right _ _
            · exact Nat.le_add_right _ _
      · exact Nat.le_add_right _ _
    · exact Nat.le_add_right _ _
  split
  · unfold putV
    split
    · exact Nat.le_add_right _ _
    · rename_i h1
      split
      · rename_i h2
        split
        · exact Nat.le_add_right _ _
        · rename_i h3
          split
          · exact Nat.le_add_right _ _
          · obtain ⟨h4, h5, _⟩ := h.file_ok h2
            show wtL (putT _ _ _) ≤ _
            rw [wt_put h.rise, wt_there h.rise h4]
            have h6 := write_len2 (b := (fileV l c.path).2.b) (d := c.data) (off := c.off.toNat) (by omega)
            unfold wtT
            rw [h5]
            simp only [Bool.false_eq_true, if_false]
            omega
      · exact Nat.le_add_right _ _
  split
  · rw [get_same]; exact Nat.le_add_right _ _
  split
  · unfold truncV
    split
    · exact Nat.le_add_right _ _
    · split
      · rename_i h2
        split
        · exact Nat.le_add_right _ _
        · obtain ⟨h4, h5, _⟩ := h.file_ok h2
          show wtL (putT _ _ _) ≤ _
          rw [wt_put h.rise, wt_there h.rise h4]
          have h6 : ((fileV l c.path).2.b.take c.n.toNat).length ≤ (fileV l c.path).2.b.length := by rw [List.length_take]; omega
          unfold wtT
          rw [h5]
          simp only [Bool.false_eq_true, if_false]
          omega
      · exact Nat.le_add_right _ _
  split
  · rw [list_same]; exact Nat.le_add_right _ _
  split
  · rw [stat_same]; exact Nat.le_add_right _ _
  exact Nat.le_add_right _ _
theorem do_wt {l : TL} (h : Inv l) (I J : Int) (c : CallV) : wtL (doV I J l c).1 ≤ wtL l + 2 := by
  unfold doV
  split
  · split
    · exact Nat.le_add_right _ _
    · exact act_wt h c
  · exact Nat.le_add_right _ _
end Go.Cat.Tree
