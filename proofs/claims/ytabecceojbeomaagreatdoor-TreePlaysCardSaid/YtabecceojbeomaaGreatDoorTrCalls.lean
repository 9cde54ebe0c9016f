/- The contracts of the parts TrNames, TrFind, TrSize, TrUp, TrFile, TrMF, TrPaths, in one text. Conditions: those told at each part. -/
import Derived.Test.YtabecceojbeomaaGreatDoorTrBoxes
import Derived.Test.YtabecceojbeomaaGreatDoorTrBase
import Derived.Test.YtabecceojbeomaaGreatDoorTrPlain
import Derived.Test.YtabecceojbeomaaGreatDoorTrLaid
import Derived.Test.YtabecceojbeomaaGreatDoorDirRSplit
import Derived.Test.YtabecceojbeomaaGreatDoorDirJoin
import Derived.Deep.RegionLaw
import Derived.Deep.Cut
import Derived.Outline
import Derived.Test.YtabecceojbeomaaGreatDoorClone
import Derived.Deep.RegionWith
section
/- The contract of a Tree's names. Condition: at most 100000 things; keys' lengths below 2^31. -/
namespace Go.Proofs.YtabecceojbeomaaGreatDoor
open Go.RowKit Go.Cat Go.Cat.Dir Go.Cat.Tree Go.Maps
theorem namesV_perm {path : Txt} {l m : List (Txt × Th)} (h : l.Perm m) : (namesV path l).Perm (namesV path m) := h.filterMap _
theorem namesV_snoc (path p : Txt) (x : Th) (l : List (Txt × Th)) : namesV path (l ++ [(p, x)]) = namesV path l ++ (nameOf path p).toList := by
  unfold namesV
  rw [List.filterMap_append]
  show List.filterMap _ l ++ List.filterMap _ [(p, x)] = _
  rw [List.filterMap_cons]
  cases nameOf path p <;> rfl
theorem ths_length (es : List (Txt × El)) : (ths es).length = es.length := mapT_length _ _
theorem namesV_le (path : Txt) (l : List (Txt × Th)) : (namesV path l).length ≤ l.length := List.length_filterMap_le _ _
/-- A range is kept by an append onto a row of the call's own. -/
theorem _root_.Go.Cat.Tree.TR.own {w w' : World} {P : Program} {k e : TypeId} {M r n size : Nat} {es : List (Txt × El)} {done : List (Txt × Th)} {rest : List (Txt × El)} {v : Value} {xs : List Value} (h : TR w P k M r es done rest)
    (ho : w.ownsRow (r + 1) e size v n xs) (hg : w.grownBy w' v.ownBlock) (hT : TM w' P k M es) (hM : M < r + 1) : TR w' P k M r es done rest := by
  have hne : ∀ j, j < r + 1 → v.ownBlock ≠ some j := fun j hj e => by have := (ho.lt j e).1; omega
  exact h.kept hT (hg.block M h.tm.lt (hne M hM).symm) (hg.block r h.lt (hne r (Nat.lt_succ_self r)).symm)
/-- Texts that a call hands back. -/
def ToldT (l : List Txt) (w : World) (e : Ending) (w' : World) : Prop := ∃ A c, e = .returned (.slice A l.length c) ∧ Texts w' A l ∧ Below w.heap.size w w'

set_option maxRecDepth 100000 in
set_option maxHeartbeats 2000000 in
theorem names_any (a : Nat) (I J : Int) (M : Nat) (es : List (Txt × El)) (path : Txt) (w : World) (h : TrAt w a I J M es) (hn : es.length ≤ 100000) (hk : ∀ y ∈ es, y.1.length < 4294967281) :
    Calls Tryz.prog 59 #[.pointer (some ⟨a, 0, none⟩), sv path] w (ToldT (namesV path (ths es)) w) := by
  show Calls Tryz.prog 59 #[.pointer (some ⟨a, 0, none⟩), .string (bs path)] w (ToldT (namesV path (ths es)) w)
  have c2 := h.c2
  have hT := h.tm
  have HA := Lib.hid h
  have HN := Lib.hid hn
  have HK := Lib.hid hk
  clear h hn hk
  go_enter Tryz.func59, Tryz.ntmps59
  go_wp2_with (first
    | (at_range; refine wpList_range_tr _ rfl _ 61 rfl 9 60 Tryz.underlying9 Tryz.underlying61 M es rfl hT ?_; intro w0 hR0 hB0 hs0)
    | go_in)
  go_frame
  have HB0 := Lib.hid hB0
  have HS0 := Lib.hid hs0
  clear hT c2 hB0 hs0
  go_loopw [5] (fun v wr => ∃ (done : List (Txt × Th)) (rest : List (Txt × El)) (A : Option Addr) (n c : Nat), TR wr Tryz.prog 9 M w.heap.size es done rest ∧ Hid (n = (namesV path done).length) ∧ v = .slice A n c ∧
      Hid (wr.ownsRow (w.heap.size + 1) 9 1 (.slice A n c) n ((namesV path done).map sv)) ∧ Hid (Below w.heap.size w wr) ∧ Hid (w.heap.size + 1 ≤ wr.heap.size))
    (fun _ wr => wr.rangeLeft M w.heap.size)
  case atStart => exact ⟨[], es, none, 0, 0, hR0, Lib.hid rfl, rfl, Lib.hid (World.ownsRow_nil w0 (w.heap.size + 1) 9 1), HB0, Lib.hid (by rw [HS0.out]; omega)⟩
  case round =>
    obtain ⟨done, rest, A, n, c, hR, HN1, rfl, HO, HB, HS⟩ := hrel
    go_wp2_with (first
      | (at_next; refine wpList_next_tr _ rfl _ rfl 9 Tryz.underlying9 M w.heap.size es done rest rfl hR ?_ ?_)
      | go_in)
    · intro h0
      subst h0
      have hperm : done.Perm (ths es) := by have := hR.perm; rwa [show ths ([] : List (Txt × El)) = [] from rfl, List.append_nil] at this
      have hlen : (namesV path done).length ≤ 100000 := by have := namesV_le path done; have := hperm.length_eq; rw [ths_length] at this; have := HN.out; omega
      have hsort : (namesV path done).mergeSort leT = namesV path (ths es) := sort_rise (namesV_perm hperm) (names_rise (mapT_rise.2 hR.tm.rise) path)
      have hl : (namesV path (ths es)).length = n := by rw [HN1.out]; exact (namesV_perm hperm).length_eq.symm
      have p1 := sorttxt_any A (namesV path done) c (w.heap.size + 1) wr (by rw [← HN1.out]; exact HO.out) (by omega) HS.out
      rw [hsort, ← HN1.out] at p1
      have P1 := Lib.hid p1
      have HL := Lib.hid hl
      clear hperm hlen hsort hl p1 hR
      go_wp2_with fail
      refine (P1.out).mono ?_
      rintro e w1 ⟨⟨v, rfl⟩, ho, hB1, _⟩
      have HO1 := Lib.hid (Sees.of_own ho)
      have HB1 := Lib.hid (HB.out.trans (hB1.mono (Nat.le_succ _)))
      clear ho hB1
      go_wp2_with fail
      go_ret
      exact ⟨A, c, by rw [HL.out]; rfl, HO1.out, HB1.out⟩
    · intro p th A0 c0 w1 hm hR1 hg1 hs1 hen
      have hme := hR.sub _ hm
      have hB1 : Below w.heap.size w w1 := HB.out.grown hg1 HB.out.size (fun j hj => by cases hj; exact Nat.le_refl _)
      obtain ⟨m, hmx⟩ := (HA.out.below hB1).gl
      have P1 := Lib.hid (dabove_any p m w1 (HK.out _ hme) hmx)
      have HR1 := Lib.hid hR1
      have HB1 := Lib.hid hB1
      have HLt : Hid ((delT p rest).length < rest.length) := by
        have := (perm_step hR.rise hm).length_eq
        simp at this
        show _ < _
        omega
      have HL0 := Lib.hid hR.left_eq
      have HO1 := Lib.hid (HO.out.kept hg1 (by
        rcases HO.out.2 with ⟨hv, _⟩ | ⟨g, cap, cur, hv, hgb, _⟩
        · left; rw [hv]; rfl
        · right; rw [hv]; intro e; have h9 : some g = some w.heap.size := e; injection h9 with h9; omega))
      have HS1 : Hid (w.heap.size + 1 ≤ w1.heap.size) := Lib.hid (by rw [hs1]; exact HS.out)
      clear hm hR1 hg1 hs1 hme hB1 hmx hR HO
      go_wp2_with fail
      refine (P1.out).mono ?_
      rintro e w2 ⟨rfl, hB2⟩
      have HB2 := Lib.hid (HB1.out.trans (hB2.mono HB1.out.size))
      have HR2 := Lib.hid (HR1.out.kept (HR1.out.tm.below hB2) (hB2.block _ HR1.out.tm.lt) (hB2.block _ HR1.out.lt))
      have HO2 := Lib.hid (own_texts HO1.out hB2)
      have HS2 := Lib.hid (Nat.le_trans HS1.out hB2.size)
      clear P1 hB2 HR1 HB1 HO1
      have hd1 : (namesV path done).length ≤ 100000 := by
        have h1 := namesV_le path done
        have h2 := HR2.out.perm.length_eq
        rw [ths_length, List.length_append, List.length_append] at h2
        have := HN.out
        omega
      rw [← HN1.out] at hd1
      have HM : Hid (w2.rangeLeft M w.heap.size = (delT p rest).length) := HR2.out.left_eq
      by_cases h0 : abe p = 0
      · have t0 : (abe p == 0) = true := by simpa using h0
        by_cases h1 : (abv p).1 = path
        · have hno : nameOf path p = some (abv p).2 := by unfold nameOf; rw [if_pos ⟨h0, h1⟩]
          have hnv : namesV path (done ++ [(p, th)]) = namesV path done ++ [(abv p).2] := by rw [namesV_snoc, hno]; rfl
          have t1 : ((bs (abv p).1).toList == (bs path).toList) = true := by rw [h1]; simp
          obtain ⟨nm, hnm⟩ : ∃ nm, nm = (abv p).2 := ⟨_, rfl⟩
          rw [← hnm] at hnv ⊢
          have hb1 : Below w2.heap.size w2 (w2.alloc (.cells #[.string (bs nm)] 9)) := (Below.refl _ _).alloc (Nat.le_refl _) _
          have HO3 := Lib.hid (own_texts HO2.out hb1)
          have HR3 := Lib.hid (HR2.out.kept (HR2.out.tm.below hb1) (hb1.block _ HR2.out.tm.lt) (hb1.block _ HR2.out.lt))
          have HB3 := Lib.hid (HB2.out.trans (hb1.mono HB2.out.size))
          have hsz3 : w.heap.size + 1 ≤ (w2.alloc (.cells #[.string (bs nm)] 9)).heap.size := Nat.le_trans HS2.out hb1.size
          have HNv := Lib.hid hnv
          clear hno hnv hnm hb1 h1
          go_wp2_with (at_builtin; refine wpList_app elem_str rfl _ _ rfl (w.heap.size + 1) (.slice A n c) n ((namesV path done).map sv) rfl HO3.out (some ⟨_, 0, none⟩) 1 1 [.string (bs nm)] rfl (sees_new _ _ _) rfl (by intro u hu; simp at hu; subst hu; rfl) (by omega) hsz3 ?_)
          intro v2 w3 hown hgr _
          obtain ⟨A2, c2, rfl, _, _⟩ := own_full hown
          have HB4 := Lib.hid (HB3.out.own HO3.out hgr (Nat.le_of_succ_le hsz3) (Nat.le_succ _))
          have ho2 : w3.ownsRow (w.heap.size + 1) 9 1 (.slice A2 (n + 1) c2) (n + 1) ((namesV path (done ++ [(p, th)])).map sv) := by rw [HNv.out, List.map_append]; exact hown
          have HO4 := Lib.hid ho2
          have HN4 : Hid (n + 1 = (namesV path (done ++ [(p, th)])).length) := by show _ = _; rw [HNv.out, List.length_append, ← HN1.out]; rfl
          have HR4 := Lib.hid (HR3.out.own HO3.out hgr (HA.out.tm.below HB4.out) (Nat.lt_succ_of_lt HA.out.tm.lt))
          have HS4 : Hid (w.heap.size + 1 ≤ w3.heap.size) := Nat.le_trans hsz3 hgr.size
          have HM4 : Hid (w3.rangeLeft M w.heap.size = (delT p rest).length) := HR4.out.left_eq
          clear hown hgr ho2 hsz3
          go_wp2_with fail
          exact ⟨⟨done ++ [(p, th)], delT p rest, A2, n + 1, c2, HR4.out, HN4, rfl, HO4, HB4, HS4⟩, by rw [HM4.out, HL0.out]; exact HLt.out⟩
        · have hno : nameOf path p = none := by unfold nameOf; rw [if_neg (fun h => h1 h.2)]
          have hnv : namesV path (done ++ [(p, th)]) = namesV path done := by rw [namesV_snoc, hno]; exact List.append_nil _
          have t1 : ((bs (abv p).1).toList == (bs path).toList) = false := by rw [bs_toList, bs_toList]; simpa using h1
          have HNv := Lib.hid hnv
          clear hno hnv h1
          go_wp2_with fail
          exact ⟨⟨done ++ [(p, th)], delT p rest, A, n, c, HR2.out, by show _ = _; rw [HNv.out]; exact HN1.out, rfl, by show World.ownsRow _ _ _ _ _ _ _; rw [HNv.out]; exact HO2.out, HB2, HS2⟩, by rw [HM.out, HL0.out]; exact HLt.out⟩
      · have hno : nameOf path p = none := by unfold nameOf; rw [if_neg (fun h => h0 h.1)]
        have hnv : namesV path (done ++ [(p, th)]) = namesV path done := by rw [namesV_snoc, hno]; exact List.append_nil _
        have t0 : (abe p == 0) = false := by simpa using h0
        have HNv := Lib.hid hnv
        clear hno hnv h0
        go_wp2_with fail
        exact ⟨⟨done ++ [(p, th)], delT p rest, A, n, c, HR2.out, by show _ = _; rw [HNv.out]; exact HN1.out, rfl, by show World.ownsRow _ _ _ _ _ _ _; rw [HNv.out]; exact HO2.out, HB2, HS2⟩, by rw [HM.out, HL0.out]; exact HLt.out⟩
end Go.Proofs.YtabecceojbeomaaGreatDoor
end

section
/- The contract of a Tree's find. Condition: the path's length below 2^31. -/
namespace Go.Proofs.YtabecceojbeomaaGreatDoor
open Go.RowKit Go.Cat Go.Cat.Dir Go.Cat.Tree Go.Maps
theorem zero_thing (w : World) : (zeroValue 60).run Tryz.prog w = .ok (elV zeroE) w := by kernel_rfl
theorem ths_get (es : List (Txt × El)) (p : Txt) : getT p (ths es) = (getT p es).map Prod.fst := mapT_get _ _ _
theorem th_look (es : List (Txt × El)) (p : Txt) : (lookE p es).1 = thAt (ths es) p := by
  unfold lookE thAt
  rw [ths_get]
  cases getT p es <;> rfl
theorem walk_step {es : List (Txt × El)} {ls : List Txt} {k : Nat} (hk : k < ls.length) {x : Th} (hd : x.dir = true) :
    walkV (ths es) (ls.take k) x (ls.drop k) = if (getT (joinV (ls.take (k + 1))) es).isSome then walkV (ths es) (ls.take (k + 1)) (lookE (joinV (ls.take (k + 1))) es).1 (ls.drop (k + 1)) else (13, zeroT) := by
  rw [List.drop_eq_getElem_cons hk, walkV, if_pos hd, ← List.take_succ_eq_append_getElem hk, ths_get]
  unfold lookE
  cases getT (joinV (ls.take (k + 1))) es <;> rfl
/-- What find tells. -/
def ToldFi (r : Int × Th) (w : World) (e : Ending) (w' : World) : Prop := ∃ x : El, e = .returned (.tuple #[elV x, .int .i64 r.1]) ∧ x.1 = r.2 ∧ ElAt w' x ∧ Below w.heap.size w w'
theorem ToldFi.no {c : Int} {w w' : World} (h : Below w.heap.size w w') : ToldFi (c, zeroT) w (.returned (.tuple #[.agg #[.bool false, .slice none 0 0], .int .i64 c])) w' := ⟨zeroE, rfl, rfl, .zero _, h⟩
/-- What the walk of find keeps: the result's box, the present thing's box, the tree. -/
structure FiR (w : World) (a : Nat) (I J : Int) (M : Nat) (es : List (Txt × El)) (A : Option Addr) (ls : List Txt) (wr : World) : Prop where
  rb : wr.heap[w.heap.size]? = some (.cells (thC zeroE) 60 (0, 0))
  tr0 : TrAt w a I J M es
  tr : TrAt wr a I J M es
  tx : Texts wr A ls
  bel : Below w.heap.size w wr
structure FiW (w : World) (a : Nat) (I J : Int) (M : Nat) (es : List (Txt × El)) (A : Option Addr) (ls : List Txt) (H : Nat) (x : El) (wr : World) : Prop where
  r : FiR w a I J M es A ls wr
  hb : wr.heap[H]? = some (.cells (thC x) 60 (0, 0))
  el : ElAt wr x
  lo : w.heap.size < H
section
variable {w wr w' : World} {a M H : Nat} {I J : Int} {es : List (Txt × El)} {A : Option Addr} {ls : List Txt} {x : El}
theorem FiR.lt (h : FiR w a I J M es A ls wr) : w.heap.size < wr.heap.size := heap_lt h.rb
theorem FiR.below (h : FiR w a I J M es A ls wr) (hb : Below wr.heap.size wr w') : FiR w a I J M es A ls w' :=
  ⟨heap_below h.rb hb, h.tr0, h.tr.below hb, h.tx.below hb, h.bel.trans (hb.mono h.bel.size)⟩
theorem FiR.box (h : FiR w a I J M es A ls wr) (hx : ElAt wr x) : FiW w a I J M es A ls wr.heap.size x (wr.alloc (.cells (thC x) 60)) :=
  ⟨h.below ((Below.refl _ _).alloc (Nat.le_refl _) _), heap_alloc_new _ _, el_below hx ((Below.refl _ _).alloc (Nat.le_refl _) _), h.lt⟩
theorem FiW.below (h : FiW w a I J M es A ls H x wr) (hb : Below wr.heap.size wr w') : FiW w a I J M es A ls H x w' :=
  ⟨h.r.below hb, heap_below h.hb hb, el_below h.el hb, h.lo⟩
theorem FiW.set (h : FiW w a I J M es A ls H x wr) {y : El} (hy : ElAt wr y) : FiW w a I J M es A ls H y ((wr.setCell ⟨H, 0, none⟩ (.bool y.1.dir)).setCell ⟨H, 1, none⟩ (.slice y.2.1 y.1.b.length y.2.2)) := by
  have ht := tch2B wr H (.bool y.1.dir) (.slice y.2.1 y.1.b.length y.2.2)
  have hnb := no_byte_th h.hb
  have hl := h.lo
  refine ⟨⟨heap_touch h.r.rb ht (fun e => by omega), h.r.tr0, h.r.tr0.own_box h.r.tr (Nat.le_of_lt hl) ht hnb, ?_, h.r.bel.trans (ht.below h.r.bel.size fun k e => by omega)⟩, set2B _ _ h.hb, el_skip hy ht (fun k hk o u => by subst hk; exact hnb o u), hl⟩
  refine sees_skip h.r.tx ht fun k hk o u hu => ?_
  obtain ⟨s, _, rfl⟩ := List.mem_map.1 hu
  subst hk
  exact no_text_th h.hb o s
theorem FiW.lt (h : FiW w a I J M es A ls H x wr) : H < wr.heap.size := heap_lt h.hb
/-- A store into another box of the call's own. -/
theorem FiW.side {w5 : World} {z : El} (h : FiW w a I J M es A ls H x w5) (h0 : FiW w a I J M es A ls H x wr) (hx : w5.heap[wr.heap.size]? = some (.cells (thC z) 60 (0, 0))) (y : El) :
    FiW w a I J M es A ls H x ((w5.setCell ⟨wr.heap.size, 0, none⟩ (.bool y.1.dir)).setCell ⟨wr.heap.size, 1, none⟩ (.slice y.2.1 y.1.b.length y.2.2)) := by
  have ht := tch2B w5 wr.heap.size (.bool y.1.dir) (.slice y.2.1 y.1.b.length y.2.2)
  have hnb := no_byte_th hx
  have hl := h0.r.lt
  have hl2 := h0.lt
  refine ⟨⟨heap_touch h.r.rb ht (fun e => by omega), h.r.tr0, h.r.tr0.own_box h.r.tr (Nat.le_of_lt hl) ht hnb, ?_, h.r.bel.trans (ht.below h.r.bel.size fun k e => by omega)⟩, heap_touch h.hb ht (fun e => by omega), el_skip h.el ht (fun k hk o u => by subst hk; exact hnb o u), h.lo⟩
  refine sees_skip h.r.tx ht fun k hk o u hu => ?_
  obtain ⟨s, _, rfl⟩ := List.mem_map.1 hu
  subst hk
  exact no_text_th hx o s
end

set_option maxRecDepth 100000 in
set_option maxHeartbeats 2000000 in
theorem find_none (a : Nat) (I J : Int) (M : Nat) (es : List (Txt × El)) (p : Txt) (w : World) (h : TrAt w a I J M es) (hp : p.length < 4294967281) (hs : splitV p = none) :
    Calls Tryz.prog 72 #[.pointer (some ⟨a, 0, none⟩), .string (bs p)] w (ToldFi (findV (ths es) p) w) := by
  have hv : findV (ths es) p = (18, zeroT) := by unfold findV; rw [hs]
  rw [hv]
  have hb0 : Below w.heap.size w (w.alloc (.cells #[.bool false, .slice none 0 0] 60)) := (Below.refl _ _).alloc (Nat.le_refl _) _
  obtain ⟨m, hm⟩ := (h.below hb0).gl
  have P1 := dsplit_any p m _ hp hm
  unfold ToldSp at P1
  rw [(spl_none hs).1, (spl_none hs).2] at P1
  have HP1 := Lib.hid P1
  have HB0 := Lib.hid hb0
  clear P1 hv hs h hp hm hb0
  go_enter Tryz.func72, Tryz.ntmps72
  go_wp2_with fail
  refine (HP1.out).mono ?_
  rintro e w1 ⟨A1, c1, rfl, _, _, _, hB1⟩
  have hx := heap_below (heap_alloc_new w (.cells #[.bool false, .slice none 0 0] 60)) hB1
  have f0 := cell_of_row w1 w.heap.size 0 _ _ _ hx
  have f1 := cell_of_row w1 w.heap.size 1 _ _ _ hx
  have z0 := frozen_of_row w1 w.heap.size 0 _ _ hx
  have z1 := frozen_of_row w1 w.heap.size 1 _ _ hx
  have HX := Lib.hid hx
  have HB1 := Lib.hid (HB0.out.trans (hB1.mono HB0.out.size))
  simp at f0 f1
  clear hx hB1
  go_wp2_with fail
  refine bodyPost_ret (ret_tht rfl (by rfl) (set2B _ _ HX.out)) rfl ?_
  exact ToldFi.no (HB1.out.trans ((tch2B _ _ _ _).below HB1.out.size fun k e => by omega))

set_option maxRecDepth 100000 in
set_option maxHeartbeats 4000000 in
theorem find_some (a : Nat) (I J : Int) (M : Nat) (es : List (Txt × El)) (p : Txt) (ls : List Txt) (w : World) (h : TrAt w a I J M es) (hp : p.length < 4294967281) (hs : splitV p = some ls) :
    Calls Tryz.prog 72 #[.pointer (some ⟨a, 0, none⟩), .string (bs p)] w (ToldFi (findV (ths es) p) w) := by
  obtain ⟨V, hV⟩ : ∃ V, V = findV (ths es) p := ⟨_, rfl⟩
  rw [← hV]
  have hv : walkV (ths es) (ls.take 0) (lookE [47] es).1 (ls.drop 0) = V := by rw [hV, th_look]; unfold findV; rw [hs]; rfl
  have hb0 : Below w.heap.size w (w.alloc (.cells #[.bool false, .slice none 0 0] 60)) := (Below.refl _ _).alloc (Nat.le_refl _) _
  obtain ⟨m, hm⟩ := (h.below hb0).gl
  have P1 := dsplit_any p m _ hp hm
  unfold ToldSp at P1
  rw [(spl_some hs).1, (spl_some hs).2] at P1
  obtain ⟨_, h8, hnm, _⟩ := split_some hs
  have hj : ∀ k, ((ls.take k).flatMap (fun l => 47 :: l)).length ≤ 1000000 := fun k => by
    have := names_len (ls := ls.take k) (fun l hl => hnm l (List.mem_of_mem_take hl))
    rw [List.length_take] at this
    omega
  have HQl : Hid (∀ k, (joinV (ls.take k)).length ≤ 96) := fun k => join_len ((nms_split hs).1.take k)
  have PJ0 := fun k A c W (h : Texts W A ls) => djoin_any A (ls.take k) c W (Texts.take_ h _) (hj k) (by rw [List.length_take]; omega)
  obtain ⟨n, hn⟩ : ∃ n, n = ls.length := ⟨_, rfl⟩
  rw [← hn] at P1
  have HP1 := Lib.hid P1
  have HPJ := Lib.hid PJ0
  have HB0 := Lib.hid hb0
  have HV := Lib.hid hv
  have HN := Lib.hid hn
  have HT := Lib.hid h
  have h8' : n ≤ 8 := by omega
  have hx0 := heap_alloc_new w (.cells #[.bool false, .slice none 0 0] 60)
  have HX0 := Lib.hid hx0
  clear P1 PJ0 hv hV hs h hp hm hb0 hj hnm h8 hn hx0
  go_enter Tryz.func72, Tryz.ntmps72
  go_wp2_with fail
  refine (HP1.out).mono ?_
  rintro e w1 ⟨A, c, rfl, ht1, hc1, hm1, hB1⟩
  have hF : FiR w a I J M es A ls w1 := ⟨heap_below HX0.out hB1, HT.out, (HT.out.below HB0.out).below hB1, ht1, HB0.out.trans (hB1.mono HB0.out.size)⟩
  have HF := Lib.hid hF
  have c2 := hF.tr.c2
  have look : (Instr.lookup 61 (.map (some M)) (.string ⟨#[47]⟩) false).run Tryz.prog w1 = .ok (.agg #[.bool (lookE [47] es).1.dir, .slice (lookE [47] es).2.1 (lookE [47] es).1.b.length (lookE [47] es).2.2]) w1 :=
    hF.tr.tm.look Tryz.underlying9 Tryz.underlying61 (zero_thing _) (p := [47]) (by decide)
  have hW := hF.box (hF.tr.tm.looked [47])
  obtain ⟨x0, hx0⟩ : ∃ x0, x0 = lookE [47] es := ⟨_, rfl⟩
  rw [← hx0] at hW look HV
  have HW := Lib.hid hW
  clear ht1 hB1 hF HP1 HX0 HB0 hW hx0
  go_wp2_with fail
  obtain ⟨H, hH⟩ : ∃ H, H = w1.heap.size := ⟨_, rfl⟩
  rw [← hH] at HW ⊢
  clear hH look c2 HF
  go_loopw [28] (fun iv wr => ∃ (k : Nat) (x : El), k ≤ n ∧ iv = .int .i64 k ∧ Hid (walkV (ths es) (ls.take k) x.1 (ls.drop k) = V) ∧ Hid (FiW w a I J M es A ls H x wr)) (fun iv _ => n - (intOf iv).toNat)
  case atStart => exact ⟨0, x0, Nat.zero_le _, rfl, HV, HW⟩
  case round =>
    clear HW HV
    obtain ⟨k, x, hk, rfl, HV, HW⟩ := hrel
    have c2 := HW.out.r.tr.c2
    have f0 : wr.cell? ⟨H, 0, none⟩ = some (.bool x.1.dir) := cell_of_row wr H 0 _ _ _ HW.out.hb
    have f1 : wr.cell? ⟨H, 1, none⟩ = some (.slice x.2.1 x.1.b.length x.2.2) := cell_of_row wr H 1 _ _ _ HW.out.hb
    have r0 : wr.cell? ⟨w.heap.size, 0, none⟩ = some (.bool false) := cell_of_row wr _ 0 _ _ _ HW.out.r.rb
    have r1 : wr.cell? ⟨w.heap.size, 1, none⟩ = some (.slice none 0 0) := cell_of_row wr _ 1 _ _ _ HW.out.r.rb
    have q0 := frozen_of_row wr _ 0 _ _ HW.out.r.rb
    have q1 := frozen_of_row wr _ 1 _ _ HW.out.r.rb
    by_cases hlt : k < n
    · cases hd : x.1.dir with
      | false =>
        rw [hd] at f0
        have HF : Hid (V = (14, zeroT)) := by
          show _ = _
          rw [← HV.out, List.drop_eq_getElem_cons (by rw [← HN.out]; exact hlt), walkV, if_neg (by rw [hd]; simp)]
        go_wp2_with fail
        refine bodyPost_ret (ret_tht rfl (by rfl) (set2B _ _ HW.out.r.rb)) rfl ?_
        rw [HF.out]
        exact ToldFi.no (HW.out.r.bel.trans ((tch2B _ _ _ _).below HW.out.r.bel.size fun k e => by omega))
      | true =>
        rw [hd] at f0
        have hlk : k < ls.length := by rw [← HN.out]; exact hlt
        obtain ⟨b, off, rfl, hbl, hcb⟩ := Texts.at_ HW.out.r.tx hlk
        obtain ⟨q, hq⟩ : ∃ q, q = joinV (ls.take (k + 1)) := ⟨_, rfl⟩
        have HQ := Lib.hid hq
        have hB0 : Below wr.heap.size wr (wr.alloc (.cells #[.bool false, .slice none 0 0] 60)) := (Below.refl _ _).alloc (Nat.le_refl _) _
        have PJ : Hid (∀ W, Below wr.heap.size wr W → Calls Tryz.prog 83 #[.slice (some ⟨b, off, none⟩) (k + 1) c] W fun e w' => e = .returned (.string (bs q)) ∧ Below W.heap.size W w') := fun W hW => by
          have := HPJ.out (k + 1) (some ⟨b, off, none⟩) c W (HW.out.r.tx.below hW)
          rw [List.length_take, Nat.min_eq_left (by omega), ← hq] at this
          exact this
        have hql : q.length ≤ maxLen := by rw [hq]; exact Nat.le_trans (HQl.out _) (by unfold maxLen; omega)
        have L0 : Hid (∀ W, FiW w a I J M es (some ⟨b, off, none⟩) ls H x W → (Instr.lookup 61 (.map (some M)) (.string (bs q)) true).run Tryz.prog W = .ok (.tuple #[.agg #[.bool (lookE q es).1.dir, .slice (lookE q es).2.1 (lookE q es).1.b.length (lookE q es).2.2], .bool (getT q es).isSome]) W) := fun W hW =>
          hW.r.tr.tm.look_ok Tryz.underlying9 Tryz.underlying61 (zero_thing _) hql
        obtain ⟨y, hy⟩ : ∃ y, y = lookE q es := ⟨_, rfl⟩
        have L1 : Hid (∀ W, FiW w a I J M es (some ⟨b, off, none⟩) ls H x W → ∀ o, (Instr.lookup 61 (.map (some M)) (.string (bs q)) true).run Tryz.prog (W.alloc o) = .ok (.tuple #[.agg #[.bool y.1.dir, .slice y.2.1 y.1.b.length y.2.2], .bool (getT q es).isSome]) (W.alloc o)) := fun W hW o => by
          rw [hy]; exact L0.out _ (hW.below ((Below.refl _ _).alloc (Nat.le_refl _) _))
        obtain ⟨mt, hmt⟩ : ∃ mt, mt = (getT q es).isSome := ⟨_, rfl⟩
        rw [← hy, ← hmt] at L0
        rw [← hmt] at L1
        have HY := Lib.hid hy
        have HMt := Lib.hid hmt
        have HB0 := Lib.hid hB0
        have HB1 := Lib.hid hB0.drew
        have HB2 : Hid (Below wr.heap.size wr wr.drew) := (Below.refl _ _).drew
        have hkc : k + 1 ≤ c := by omega
        have hkcI : (k : Int) + 1 ≤ (c : Int) := by omega
        have hk0 : (0 : Int) ≤ (k : Int) + 1 := by omega
        have hkw : IntKind.i64.wrap ((k : Int) + 1) = (k : Int) + 1 := IntWalk.i64_in _ (by omega)
        have k2 : ∀ o, (wr.alloc o).cell? ⟨a, 2, none⟩ = some (.map (some M)) := fun o => (World.cell?_alloc_lt wr o _ (World.block_lt_of_cell? _ _ c2)).trans c2
        have G0 : Hid (∀ W, FiW w a I J M es (some ⟨b, off, none⟩) ls H x W → W.cell? ⟨a, 2, none⟩ = some (.map (some M)) ∧ ∀ o, (W.alloc o).cell? ⟨a, 2, none⟩ = some (.map (some M))) := fun W hW =>
          ⟨hW.r.tr.c2, fun o => (World.cell?_alloc_lt W o _ (World.block_lt_of_cell? _ _ hW.r.tr.c2)).trans hW.r.tr.c2⟩
        have G1 : Hid (∀ W, Below (wr.alloc (.cells #[.bool false, .slice none 0 0] 60)).drew.heap.size (wr.alloc (.cells #[.bool false, .slice none 0 0] 60)).drew W → FiW w a I J M es (some ⟨b, off, none⟩) ls H x W ∧ W.heap[wr.heap.size]? = some (.cells (thC zeroE) 60 (0, 0))) := fun W hW =>
          ⟨(HW.out.below HB0.out).below (drew_below hW), heap_below (heap_alloc_new wr (.cells #[.bool false, .slice none 0 0] 60)) (drew_below hW)⟩
        have G2 : Hid (∀ W : World, W.heap[wr.heap.size]? = some (.cells (thC zeroE) 60 (0, 0)) → W.cell? ⟨wr.heap.size, 0, none⟩ = some (.bool false) ∧ W.cell? ⟨wr.heap.size, 1, none⟩ = some (.slice none 0 0) ∧ W.frozen? ⟨wr.heap.size, 0, none⟩ = false ∧ W.frozen? ⟨wr.heap.size, 1, none⟩ = false ∧ wr.heap.size < W.heap.size) := fun W hx =>
          ⟨cell_of_row _ _ 0 _ _ _ hx, cell_of_row _ _ 1 _ _ _ hx, frozen_of_row _ _ 0 _ _ hx, frozen_of_row _ _ 1 _ _ hx, heap_lt hx⟩
        clear hq hB0 hql hy hmt hcb hlk
        go_wp2_with fail
        go_region_law (first
          | (go_simp; go_at_call 83; with_reducible refine (PJ.out (wr.alloc (.cells #[.bool false, .slice none 0 0] 60)).drew HB1.out).mono ?_; rintro e w5 ⟨rfl, hB5⟩; obtain ⟨hW5, hx5⟩ := G1.out w5 hB5; obtain ⟨s0, s1, s2, s3, s4⟩ := G2.out w5 hx5; have g2 := (G0.out w5 hW5).1; have l5 := L0.out w5 hW5; have HX5 := Lib.hid hx5; have HW5 := Lib.hid hW5; clear hB5 hW5 hx5)
          | (go_simp; go_at_call 83; with_reducible refine (PJ.out wr.drew HB2.out).mono ?_; rintro e w5 ⟨rfl, hB5⟩; have hW5 := HW.out.below (drew_below hB5); obtain ⟨g2, g3⟩ := G0.out w5 hW5; have l5 := L0.out w5 hW5; have l6 := L1.out w5 hW5; have HW5 := Lib.hid hW5; clear hB5 hW5)
          | fail)
        all_goals
          first
            | (have hF6 := HW5.out.below ((Below.refl _ w5).alloc (Nat.le_refl _) (.cells #[.bool y.1.dir, .slice y.2.1 y.1.b.length y.2.2] 60))
               have hx6 := heap_alloc_new w5 (.cells #[.bool y.1.dir, .slice y.2.1 y.1.b.length y.2.2] 60)
               clear g2 g3 l5 l6
               generalize w5.alloc (.cells #[.bool y.1.dir, .slice y.2.1 y.1.b.length y.2.2] 60) = W6 at hF6 hx6 ⊢
               generalize w5.heap.size = N6 at hx6 ⊢)
            | (have hF6 := HW5.out.side HW.out HX5.out y
               have hx6 := set2B (.bool y.1.dir) (.slice y.2.1 y.1.b.length y.2.2) HX5.out
               clear g2 l5 s0 s1 s2 s3 s4
               generalize (w5.setCell ⟨wr.heap.size, 0, none⟩ (.bool y.1.dir)).setCell ⟨wr.heap.size, 1, none⟩ (.slice y.2.1 y.1.b.length y.2.2) = W6 at hF6 hx6 ⊢
               generalize wr.heap.size = N6 at hx6 ⊢)
            | fail
          clear c2 k2 f0 f1 r0 r1 q0 q1
          have n0 : W6.cell? ⟨N6, 0, none⟩ = some (.bool y.1.dir) := cell_of_row _ _ 0 _ _ _ hx6
          have n1 : W6.cell? ⟨N6, 1, none⟩ = some (.slice y.2.1 y.1.b.length y.2.2) := cell_of_row _ _ 1 _ _ _ hx6
          have f0 : W6.cell? ⟨H, 0, none⟩ = some (.bool x.1.dir) := cell_of_row _ _ 0 _ _ _ hF6.hb
          have f1 : W6.cell? ⟨H, 1, none⟩ = some (.slice x.2.1 x.1.b.length x.2.2) := cell_of_row _ _ 1 _ _ _ hF6.hb
          have z0 := frozen_of_row W6 H 0 _ _ hF6.hb
          have z1 := frozen_of_row W6 H 1 _ _ hF6.hb
          have r0 : W6.cell? ⟨w.heap.size, 0, none⟩ = some (.bool false) := cell_of_row _ _ 0 _ _ _ hF6.r.rb
          have r1 : W6.cell? ⟨w.heap.size, 1, none⟩ = some (.slice none 0 0) := cell_of_row _ _ 1 _ _ _ hF6.r.rb
          have q0 := frozen_of_row W6 _ 0 _ _ hF6.r.rb
          have q1 := frozen_of_row W6 _ 1 _ _ hF6.r.rb
          have HF6 := Lib.hid hF6
          clear hx6 hF6 HW5
          cases mt with
          | false =>
            have HF : Hid (V = (13, zeroT)) := by
              show _ = _
              rw [← HV.out, walk_step (by rw [← HN.out]; exact hlt) hd, ← HQ.out, ← HMt.out]
              rfl
            go_wp2_with fail
            refine bodyPost_ret (ret_tht rfl (by rfl) (set2B _ _ HF6.out.r.rb)) rfl ?_
            rw [HF.out]
            exact ToldFi.no (HF6.out.r.bel.trans ((tch2B _ _ _ _).below HF6.out.r.bel.size fun k e => by omega))
          | true =>
            have HV2 : Hid (walkV (ths es) (ls.take (k + 1)) y.1 (ls.drop (k + 1)) = V) := by
              show _ = _
              rw [← HV.out, walk_step (by rw [← HN.out]; exact hlt) hd, ← HQ.out, ← HMt.out, ← HY.out]
              rfl
            have HY6 : Hid (ElAt W6 y) := by show ElAt _ _; rw [HY.out]; exact HF6.out.r.tr.tm.looked q
            go_wp2_with fail
            exact ⟨⟨k + 1, y, by omega, by go_num, HV2, HF6.out.set HY6.out⟩, by simp [intOf]; omega⟩
    · obtain rfl : k = n := by omega
      have HF : Hid (V = (0, x.1)) := by
        show _ = _
        rw [← HV.out, HN.out, List.drop_length, walkV]
      go_wp2_with fail
      refine bodyPost_ret (ret_tht rfl (by rfl) (set2B _ _ HW.out.r.rb)) rfl ?_
      rw [HF.out]
      refine ⟨x, rfl, rfl, el_skip HW.out.el (tch2B _ _ _ _) (fun k hk o u => by subst hk; exact no_byte_th HW.out.r.rb o u), HW.out.r.bel.trans ((tch2B _ _ _ _).below HW.out.r.bel.size fun k e => by omega)⟩

theorem find_any (a : Nat) (I J : Int) (M : Nat) (es : List (Txt × El)) (p : Txt) (w : World) (h : TrAt w a I J M es) (hp : p.length < 4294967281) :
    Calls Tryz.prog 72 #[.pointer (some ⟨a, 0, none⟩), .string (bs p)] w (ToldFi (findV (ths es) p) w) := by
  cases hs : splitV p with
  | none => exact find_none a I J M es p w h hp hs
  | some ls => exact find_some a I J M es p ls w h hp hs
end Go.Proofs.YtabecceojbeomaaGreatDoor
end

section
/- The contracts of a Tree's size, full and Inodes. Condition: at most 100000 things; lengths of paths below 2^31. -/
namespace Go.Proofs.YtabecceojbeomaaGreatDoor
open Go.RowKit Go.Cat Go.Cat.Dir Go.Cat.Tree Go.Maps
/-- Bounds on a tree's things. -/
structure KeyB (es : List (Txt × El)) : Prop where
  n : es.length ≤ 100000
  k : ∀ y ∈ es, y.1.length < 4294967281
  f : ∀ y ∈ es, y.2.1.b.length ≤ 100000
theorem KeyB.size {es : List (Txt × El)} (h : KeyB es) (p : Txt) : sizeV (ths es) p ≤ 1600000 := by
  unfold sizeV
  split
  · have := namesV_le p (ths es)
    rw [ths_length] at this
    have := h.n
    omega
  · unfold thAt
    cases hg : getT p (ths es) with
    | none => exact Nat.zero_le _
    | some t =>
      have := get_mem hg
      unfold ths mapT at this
      obtain ⟨y, hy, e⟩ := List.mem_map.1 this
      injection e with _ e
      have := h.f y hy
      rw [e] at this
      exact Nat.le_trans this (by omega)
def ToldN (z : Int) (w : World) (e : Ending) (w' : World) : Prop := e = .returned (.int .i64 z) ∧ Below w.heap.size w w'
theorem look_run {w : World} {M : Nat} {es : List (Txt × El)} (h : TM w Tryz.prog 9 M es) {p : Txt} (hp : p.length < 4294967281) :
    (Instr.lookup 61 (.map (some M)) (.string (bs p)) false).run Tryz.prog w = .ok (.agg #[.bool (lookE p es).1.dir, .slice (lookE p es).2.1 (lookE p es).1.b.length (lookE p es).2.2]) w :=
  h.look Tryz.underlying9 Tryz.underlying61 (zero_thing _) (by unfold maxLen; omega)
theorem look_run_ok {w : World} {M : Nat} {es : List (Txt × El)} (h : TM w Tryz.prog 9 M es) {p : Txt} (hp : p.length < 4294967281) :
    (Instr.lookup 61 (.map (some M)) (.string (bs p)) true).run Tryz.prog w = .ok (.tuple #[.agg #[.bool (lookE p es).1.dir, .slice (lookE p es).2.1 (lookE p es).1.b.length (lookE p es).2.2], .bool (getT p es).isSome]) w :=
  h.look_ok Tryz.underlying9 Tryz.underlying61 (zero_thing _) (by unfold maxLen; omega)

set_option maxRecDepth 100000 in
set_option maxHeartbeats 2000000 in
theorem size_any (a : Nat) (I J : Int) (M : Nat) (es : List (Txt × El)) (path : Txt) (w : World) (h : TrAt w a I J M es) (hk : KeyB es) (hp : path.length < 4294967281) :
    Calls Tryz.prog 32 #[.pointer (some ⟨a, 0, none⟩), .string (bs path)] w (ToldN (sizeV (ths es) path) w) := by
  have c2 := h.c2
  have look := look_run h.tm hp
  have ht := th_look es path
  obtain ⟨x, hx⟩ : ∃ x, x = lookE path es := ⟨_, rfl⟩
  rw [← hx] at look ht
  have hb : Below w.heap.size w (w.alloc (.cells #[.bool x.1.dir, .slice x.2.1 x.1.b.length x.2.2] 60)) := (Below.refl _ _).alloc (Nat.le_refl _) _
  have p1 := names_any a I J M es path _ (h.below hb) hk.n hk.k
  have hnl : (namesV path (ths es)).length ≤ 100000 := by have := namesV_le path (ths es); rw [ths_length] at this; have := hk.n; omega
  obtain ⟨V, hV⟩ : ∃ V, V = (sizeV (ths es) path : Int) := ⟨_, rfl⟩
  rw [← hV]
  unfold ToldT at p1
  obtain ⟨n, hn⟩ : ∃ n, n = (namesV path (ths es)).length := ⟨_, rfl⟩
  rw [← hn] at p1 hnl
  have HV := Lib.hid hV
  have HN := Lib.hid hn
  have HT := Lib.hid ht
  have HB := Lib.hid hb
  have P1 := Lib.hid p1
  clear hx hb p1 hV hn ht h hk hp
  cases hd : x.1.dir with
  | false =>
    rw [hd] at look P1 HB
    have hz : V = x.1.b.length := by rw [HV.out]; unfold sizeV; rw [← HT.out, if_neg (by rw [hd]; simp)]
    subst hz
    clear P1
    go_enter Tryz.func32, Tryz.ntmps32
    go_wp2_with fail
    go_ret
    exact ⟨rfl, HB.out⟩
  | true =>
    rw [hd] at look P1 HB
    have hz : V = 16 * (n : Int) := by rw [HV.out]; unfold sizeV; rw [← HT.out, if_pos hd, HN.out]; omega
    subst hz
    go_enter Tryz.func32, Tryz.ntmps32
    go_wp2_with fail
    refine (P1.out).mono ?_
    rintro e w1 ⟨A, c, rfl, _, hB1⟩
    have HB1 := Lib.hid (HB.out.trans (hB1.mono HB.out.size))
    clear hB1
    go_wp2_with fail
    go_ret
    exact ⟨rfl, HB1.out⟩

set_option maxRecDepth 100000 in
set_option maxHeartbeats 2000000 in
theorem full_any (a : Nat) (I J : Int) (M : Nat) (es : List (Txt × El)) (path : Txt) (w : World) (h : TrAt w a I J M es) (hk : KeyB es) (hp : path.length < 4294967281) :
    Calls Tryz.prog 70 #[.pointer (some ⟨a, 0, none⟩), .string (bs path)] w fun e w' => e = .returned (.bool (fullV (ths es) path)) ∧ Below w.heap.size w w' := by
  have p1 := size_any a I J M es path w h hk hp
  have hs := hk.size path
  obtain ⟨V, hV⟩ : ∃ V, V = fullV (ths es) path := ⟨_, rfl⟩
  rw [← hV]
  obtain ⟨z, hz⟩ : ∃ z, z = sizeV (ths es) path := ⟨_, rfl⟩
  rw [← hz] at p1 hs
  have P1 := Lib.hid p1
  have t1 : decide ((512 : Int) < (z : Int) + 16) = V := by rw [hV, hz]; unfold fullV; simp only [decide_eq_decide]; omega
  clear p1 h hk hp hV hz
  cases V
  all_goals
    go_enter Tryz.func70, Tryz.ntmps70
    go_wp2_with fail
    refine (P1.out).mono ?_
    rintro e w1 ⟨rfl, hB1⟩
    have HB1 := Lib.hid hB1
    clear hB1
    go_wp2_with fail
    go_ret
    exact ⟨rfl, HB1.out⟩

set_option maxRecDepth 100000 in
theorem inodes_any (a : Nat) (I J : Int) (M : Nat) (es : List (Txt × El)) (w : World) (h : TrAt w a I J M es) :
    Calls Tryz.prog 16 #[.pointer (some ⟨a, 0, none⟩)] w fun e w' => e = .returned (.int .i64 (es.length : Int)) ∧ w = w' := by
  have c2 := h.c2
  have hlen := fun ty => h.tm.len (e := 60) Tryz.underlying61 ty
  obtain ⟨n, hn⟩ : ∃ n, n = es.length := ⟨_, rfl⟩
  rw [← hn] at hlen ⊢
  clear h hn
  go_enter Tryz.func16, Tryz.ntmps16
  go_wp2_with fail
  go_ret
  exact ⟨rfl, rfl⟩
theorem inodes_nil (w : World) : Calls Tryz.prog 16 #[.pointer none] w fun e w' => e = .returned (.int .i64 0) ∧ w = w' := by
  go_enter Tryz.func16, Tryz.ntmps16
  go_wp2_with fail
  go_ret
  exact ⟨rfl, rfl⟩
end Go.Proofs.YtabecceojbeomaaGreatDoor
end

section
/- The contracts of a Tree's File, above and file, of wrong, of and Turns. Condition: the path's length below 2^31. -/
namespace Go.Proofs.YtabecceojbeomaaGreatDoor
open Go.RowKit Go.Cat Go.Cat.Dir Go.Cat.Tree Go.Maps
/-- What File tells. -/
def ToldFl (r : List UInt8 × Bool) (w : World) (e : Ending) (w' : World) : Prop := ∃ A c, e = .returned (.tuple #[.slice A r.1.length c, .bool r.2]) ∧ Bytes w' A r.1 ∧ Below w.heap.size w w'
def fileB (l : TL) (p : Txt) : List UInt8 × Bool := match getT p l with | none => ([], false) | some x => if x.dir then ([], false) else (x.b, true)

set_option maxRecDepth 100000 in
set_option maxHeartbeats 2000000 in
theorem fil_any (a : Nat) (I J : Int) (M : Nat) (es : List (Txt × El)) (p : Txt) (w : World) (h : TrAt w a I J M es) (hp : p.length < 4294967281) (hf : ∀ y ∈ es, y.2.1.b.length ≤ 100000) :
    Calls Tryz.prog 13 #[.pointer (some ⟨a, 0, none⟩), .string (bs p)] w (ToldFl (fileB (ths es) p) w) := by
  have c2 := h.c2
  have look := look_run_ok h.tm hp
  have hel := h.tm.looked p
  obtain ⟨V, hV⟩ : ∃ V, V = fileB (ths es) p := ⟨_, rfl⟩
  rw [← hV]
  unfold fileB at hV
  rw [ths_get] at hV
  cases hg : getT p es with
  | none =>
    rw [hg] at hV look
    simp only [Option.map_none, Option.isSome_none] at hV look
    have hB : Below w.heap.size w (w.alloc (.cells #[.bool (lookE p es).1.dir, .slice (lookE p es).2.1 (lookE p es).1.b.length (lookE p es).2.2] 60)) := (Below.refl _ _).alloc (Nat.le_refl _) _
    have HB := Lib.hid hB
    have HV := Lib.hid hV
    clear h hp hf hel hV hB
    go_enter Tryz.func13, Tryz.ntmps13
    go_wp2_with fail
    go_ret2
    rw [HV.out]
    exact ⟨none, 0, rfl, .inl rfl, HB.out⟩
  | some x =>
    have hx : lookE p es = x := look_some hg
    have hfx := hf _ (get_mem hg)
    rw [hg] at hV look
    rw [hx] at look hel
    simp only [Option.map_some, Option.isSome_some] at hV look
    have hB : Below w.heap.size w (w.alloc (.cells #[.bool x.1.dir, .slice x.2.1 x.1.b.length x.2.2] 60)) := (Below.refl _ _).alloc (Nat.le_refl _) _
    cases hd : x.1.dir with
    | true =>
      rw [hd] at look hB
      have HV : Hid (V = ([], false)) := by show _ = _; rw [hV, if_pos hd]
      have HB := Lib.hid hB
      clear h hp hf hel hV hB hx
      go_enter Tryz.func13, Tryz.ntmps13
      go_wp2_with fail
      go_ret2
      rw [HV.out]
      exact ⟨none, 0, rfl, .inl rfl, HB.out⟩
    | false =>
      rw [hd] at look hB
      have HV : Hid (V = (x.1.b, true)) := by show _ = _; rw [hV, if_neg (by rw [hd]; simp)]
      obtain ⟨n, hn⟩ : ∃ n, n = x.1.b.length := ⟨_, rfl⟩
      have P1 := Lib.hid (clone_any x.2.1 n x.2.2 x.1.b _ (hel.1.below hB) hn (by simp only at hfx; omega))
      rw [← hn] at look hB P1
      have HN := Lib.hid hn
      have HB := Lib.hid hB
      clear h hp hf hel hV hB hx hn hfx
      go_enter Tryz.func13, Tryz.ntmps13
      go_wp2_with fail
      refine (P1.out).mono ?_
      rintro e w1 ⟨A, c, rfl, ho, hB1⟩
      have HO := Lib.hid (Sees.of_own ho)
      have HB1 := Lib.hid (HB.out.trans (hB1.mono HB.out.size))
      clear ho hB1
      go_wp2_with fail
      go_ret2
      rw [HV.out]
      exact ⟨A, c, by rw [HN.out]; rfl, HO.out, HB1.out⟩
theorem fil_nil (p : ByteArray) (w : World) : Calls Tryz.prog 13 #[.pointer none, .string p] w fun e w' => e = .returned (.tuple #[.slice none 0 0, .bool false]) ∧ w = w' := by
  go_enter Tryz.func13, Tryz.ntmps13
  go_wp2_with fail
  go_ret2
  exact ⟨rfl, rfl⟩

theorem wrong_any (x : Int) (w : World) : Calls Tryz.prog 25 #[.int .i64 x] w fun e w' => e = .returned (.agg #[.int .i64 x, .slice none 0 0, .slice none 0 0, .int .i64 0, .bool false]) ∧ Below w.heap.size w w' := by
  go_enter Tryz.func25, Tryz.ntmps25
  go_wp2_with fail
  refine bodyPost_ret (ret_ans rfl (by rfl) (heap_alloc_new _ _)) rfl ?_
  exact ⟨rfl, (Below.refl _ _).alloc (Nat.le_refl _) _⟩
theorem turns_any (k : Int) (w : World) : Calls Tryz.prog 19 #[.int .i64 k] w fun e w' => e = .returned (.bool (turnsV k)) ∧ w = w' := by
  rcases (by omega : k = 1 ∨ k = 2 ∨ k = 3 ∨ k = 4 ∨ k = 5 ∨ k = 6 ∨ k = 8 ∨ (k ≠ 1 ∧ k ≠ 2 ∧ k ≠ 3 ∧ k ≠ 4 ∧ k ≠ 5 ∧ k ≠ 6 ∧ k ≠ 8)) with h | h | h | h | h | h | h | ⟨h1, h2, h3, h4, h5, h6, h8⟩
  case inr.inr.inr.inr.inr.inr.inr =>
    have e : turnsV k = false := by unfold turnsV; rw [decide_eq_false_iff_not]; omega
    have d1 : (k == 1) = false := by rw [beq_eq_false_iff_ne]; exact h1
    have d2 : (k == 2) = false := by rw [beq_eq_false_iff_ne]; exact h2
    have d3 : (k == 3) = false := by rw [beq_eq_false_iff_ne]; exact h3
    have d4 : (k == 4) = false := by rw [beq_eq_false_iff_ne]; exact h4
    have d5 : (k == 5) = false := by rw [beq_eq_false_iff_ne]; exact h5
    have d6 : (k == 6) = false := by rw [beq_eq_false_iff_ne]; exact h6
    have d8 : (k == 8) = false := by rw [beq_eq_false_iff_ne]; exact h8
    rw [e]
    clear e h1 h2 h3 h4 h5 h6 h8
    go_enter Tryz.func19, Tryz.ntmps19
    go_wp2_with fail
    go_ret
    exact ⟨rfl, rfl⟩
  all_goals
    subst h
    go_enter Tryz.func19, Tryz.ntmps19
    go_wp2_with fail
    go_ret
    exact ⟨rfl, rfl⟩
theorem eq_nilF (w : World) : (binOp .eql 65 .nilFunc .nilFunc).run Tryz.prog w = .ok (.bool true) w := by kernel_rfl
theorem eq_nilG (f : FuncId) (w : World) : (binOp .eql 65 (.func (.func f) #[] #[]) .nilFunc).run Tryz.prog w = .ok (.bool false) w := by kernel_rfl
/-- Which function a kind of call is. -/
def kindF (k : Int) : FuncId :=
  if k = 1 ∨ k = 2 then 49
  else if k = 3 ∨ k = 4 then 50
  else if k = 5 then 51
  else if k = 6 then 52
  else if k = 7 then 53
  else if k = 8 then 54
  else if k = 9 then 55
  else if k = 10 then 56
  else 57

set_option maxRecDepth 100000 in
set_option maxHeartbeats 2000000 in
theorem of_any (k : Int) (w : World) : Calls Tryz.prog 26 #[.int .i64 k] w fun e w' => e = .returned (.func (.func (kindF k)) #[] #[]) ∧ Below w.heap.size w w' := by
  rcases (by omega : k < 0 ∨ 10 < k ∨ k = 0 ∨ k = 1 ∨ k = 2 ∨ k = 3 ∨ k = 4 ∨ k = 5 ∨ k = 6 ∨ k = 7 ∨ k = 8 ∨ k = 9 ∨ k = 10) with h | h | h | h | h | h | h | h | h | h | h | h | h
  case inl =>
    have e : kindF k = 57 := by unfold kindF; rw [if_neg (by omega), if_neg (by omega), if_neg (by omega), if_neg (by omega), if_neg (by omega), if_neg (by omega), if_neg (by omega), if_neg (by omega)]
    have d1 : decide (k < 0) = true := by simpa using h
    rw [e]
    clear e
    go_enter Tryz.func26, Tryz.ntmps26
    go_wp2_with fail
    go_ret
    exact ⟨rfl, (Below.refl _ _).alloc (Nat.le_refl _) _⟩
  case inr.inl =>
    have e : kindF k = 57 := by unfold kindF; rw [if_neg (by omega), if_neg (by omega), if_neg (by omega), if_neg (by omega), if_neg (by omega), if_neg (by omega), if_neg (by omega), if_neg (by omega)]
    have d1 : decide (k < 0) = false := by simp; omega
    have d2 : decide ((11 : Int) ≤ k) = true := by simp; omega
    rw [e]
    clear e
    go_enter Tryz.func26, Tryz.ntmps26
    go_wp2_with fail
    go_ret
    exact ⟨rfl, (Below.refl _ _).alloc (Nat.le_refl _) _⟩
  all_goals
    subst h
    have n1 := eq_nilF
    have n2 := eq_nilG
    go_enter Tryz.func26, Tryz.ntmps26
    go_wp2_with fail
    go_ret
    exact ⟨rfl, (Below.refl _ _).alloc (Nat.le_refl _) _⟩

theorem abv_len (p : Txt) : (abv p).1.length ≤ 96 := by
  cases hs : splitV p with
  | none => rw [(above_none hs).1]; exact Nat.zero_le _
  | some ls =>
    by_cases h0 : ls = []
    · subst h0; rw [(above_root hs).1]; exact Nat.zero_le _
    · obtain ⟨hN, hp⟩ := nms_split hs
      rw [hp, (above_join hN h0).1]
      exact join_len hN.dropLast
/-- What above tells. -/
def ToldUp (r : Int × Txt) (w : World) (e : Ending) (w' : World) : Prop := e = .returned (.tuple #[.string (bs r.2), .int .i64 r.1]) ∧ Below w.heap.size w w'

set_option maxRecDepth 100000 in
set_option maxHeartbeats 2000000 in
theorem above_any (a : Nat) (I J : Int) (M : Nat) (es : List (Txt × El)) (p : Txt) (w : World) (h : TrAt w a I J M es) (hp : p.length < 4294967281) :
    Calls Tryz.prog 69 #[.pointer (some ⟨a, 0, none⟩), .string (bs p)] w (ToldUp (upV (ths es) p) w) := by
  obtain ⟨m, hm⟩ := h.gl
  have P1 := Lib.hid (dabove_any p m w hp hm)
  have p2 := fun W (hW : Below w.heap.size w W) => find_any a I J M es (abv p).1 W (h.below hW) (by have := abv_len p; omega)
  obtain ⟨V, hV⟩ : ∃ V, V = upV (ths es) p := ⟨_, rfl⟩
  rw [← hV]
  unfold upV at hV
  obtain ⟨r, hr⟩ : ∃ r, r = findV (ths es) (abv p).1 := ⟨_, rfl⟩
  rw [← hr] at hV p2
  have P2 := Lib.hid p2
  clear h hp hm p2 hr
  by_cases h0 : abe p = 0
  · rw [if_pos h0] at hV
    have t0 : (abe p != 0) = false := by rw [h0]; rfl
    obtain ⟨rc, rx⟩ := r
    simp only at hV
    by_cases h1 : rc = 0
    · subst h1
      rw [if_pos rfl] at hV
      cases hd : rx.dir with
      | true =>
        have HV : Hid (V = (0, (abv p).1)) := by show _ = _; rw [hV, if_pos hd]
        have HD := Lib.hid hd
        clear hV h0 hd
        go_enter Tryz.func69, Tryz.ntmps69
        go_wp2_with fail
        refine (P1.out).mono ?_
        rintro e w1 ⟨rfl, hB1⟩
        have HB1 := Lib.hid hB1
        clear hB1
        go_wp2_with fail
        refine (P2.out _ HB1.out).mono ?_
        rintro e w2 ⟨x, rfl, hx, _, hB2⟩
        have hB3 := HB1.out.trans (hB2.mono HB1.out.size)
        have hdx : x.1.dir = true := by rw [hx]; exact HD.out
        have HB3 := Lib.hid (hB3.trans (((Below.refl _ w2).alloc (Nat.le_refl _) (.cells #[.bool true, .slice x.2.1 x.1.b.length x.2.2] 60)).mono hB3.size))
        unfold elV
        rw [hdx]
        clear hB2 hB3 hx hdx
        go_wp2_with fail
        go_ret2
        rw [HV.out]
        exact ⟨rfl, HB3.out⟩
      | false =>
        have HV : Hid (V = (14, [])) := by show _ = _; rw [hV, if_neg (by rw [hd]; simp)]
        have HD := Lib.hid hd
        clear hV h0 hd
        go_enter Tryz.func69, Tryz.ntmps69
        go_wp2_with fail
        refine (P1.out).mono ?_
        rintro e w1 ⟨rfl, hB1⟩
        have HB1 := Lib.hid hB1
        clear hB1
        go_wp2_with fail
        refine (P2.out _ HB1.out).mono ?_
        rintro e w2 ⟨x, rfl, hx, _, hB2⟩
        have hB3 := HB1.out.trans (hB2.mono HB1.out.size)
        have hdx : x.1.dir = false := by rw [hx]; exact HD.out
        have HB3 := Lib.hid (hB3.trans (((Below.refl _ w2).alloc (Nat.le_refl _) (.cells #[.bool false, .slice x.2.1 x.1.b.length x.2.2] 60)).mono hB3.size))
        unfold elV
        rw [hdx]
        clear hB2 hB3 hx hdx
        go_wp2_with fail
        go_ret2
        rw [HV.out]
        exact ⟨rfl, HB3.out⟩
    · have HV : Hid (V = (rc, [])) := by show _ = _; rw [hV, if_neg h1]
      have t1 : (rc != 0) = true := by simpa using h1
      clear hV h0 h1
      go_enter Tryz.func69, Tryz.ntmps69
      go_wp2_with fail
      refine (P1.out).mono ?_
      rintro e w1 ⟨rfl, hB1⟩
      have HB1 := Lib.hid hB1
      clear hB1
      go_wp2_with fail
      refine (P2.out _ HB1.out).mono ?_
      rintro e w2 ⟨x, rfl, hx, _, hB2⟩
      have hB3 := HB1.out.trans (hB2.mono HB1.out.size)
      have HB3 := Lib.hid (hB3.trans (((Below.refl _ w2).alloc (Nat.le_refl _) (.cells #[.bool x.1.dir, .slice x.2.1 x.1.b.length x.2.2] 60)).mono hB3.size))
      unfold elV
      clear hB2 hB3 hx
      go_wp2_with fail
      go_ret2
      rw [HV.out]
      exact ⟨rfl, HB3.out⟩
  · rw [if_neg h0] at hV
    have HV := Lib.hid hV
    have t0 : (abe p != 0) = true := by simpa using h0
    clear hV h0 P2
    go_enter Tryz.func69, Tryz.ntmps69
    go_wp2_with fail
    refine (P1.out).mono ?_
    rintro e w1 ⟨rfl, hB1⟩
    have HB1 := Lib.hid hB1
    clear hB1
    go_wp2_with fail
    go_ret2
    rw [HV.out]
    exact ⟨rfl, HB1.out⟩
end Go.Proofs.YtabecceojbeomaaGreatDoor
end

section
/- The contract of a Tree's file. Condition: the path's length below 2^31. -/
namespace Go.Proofs.YtabecceojbeomaaGreatDoor
open Go.RowKit Go.Cat Go.Cat.Dir Go.Cat.Tree Go.Maps
set_option maxRecDepth 100000 in
set_option maxHeartbeats 2000000 in
theorem file_any (a : Nat) (I J : Int) (M : Nat) (es : List (Txt × El)) (p : Txt) (w : World) (h : TrAt w a I J M es) (hp : p.length < 4294967281) :
    Calls Tryz.prog 76 #[.pointer (some ⟨a, 0, none⟩), .string (bs p)] w (ToldFi (fileV (ths es) p) w) := by
  have hb0 : Below w.heap.size w (w.alloc (.cells #[.bool false, .slice none 0 0] 60)) := (Below.refl _ _).alloc (Nat.le_refl _) _
  have p1 := find_any a I J M es p _ (h.below hb0) hp
  obtain ⟨V, hV⟩ : ∃ V, V = fileV (ths es) p := ⟨_, rfl⟩
  rw [← hV]
  unfold fileV at hV
  obtain ⟨r, hr⟩ : ∃ r, r = findV (ths es) p := ⟨_, rfl⟩
  rw [← hr] at hV p1
  have P1 := Lib.hid p1
  have HV := Lib.hid hV
  have HB0 := Lib.hid hb0
  have HX0 := Lib.hid (heap_alloc_new w (.cells #[.bool false, .slice none 0 0] 60))
  clear h hp p1 hr hV hb0
  go_enter Tryz.func76, Tryz.ntmps76
  go_wp2_with fail
  refine (P1.out).mono ?_
  rintro e w2 ⟨x, rfl, hx, hel, hB2⟩
  unfold elV
  have HX := Lib.hid hx
  clear hx
  have hB3 := HB0.out.trans (hB2.mono HB0.out.size)
  have hR := heap_alloc (heap_below HX0.out hB2) (.cells #[.bool x.1.dir, .slice x.2.1 x.1.b.length x.2.2] 60)
  have hN := heap_alloc_new w2 (.cells #[.bool x.1.dir, .slice x.2.1 x.1.b.length x.2.2] 60)
  have hB4 := hB3.trans (((Below.refl _ w2).alloc (Nat.le_refl _) (.cells #[.bool x.1.dir, .slice x.2.1 x.1.b.length x.2.2] 60)).mono hB3.size)
  have hel3 := el_below hel ((Below.refl _ w2).alloc (Nat.le_refl _) (.cells #[.bool x.1.dir, .slice x.2.1 x.1.b.length x.2.2] 60))
  go_upto_region 2 with (fail)
  clear hB2 hB3 hel P1 HB0 HX0
  generalize w2.alloc (.cells #[.bool x.1.dir, .slice x.2.1 x.1.b.length x.2.2] 60) = W at hR hN hB4 hel3 ⊢
  generalize w2.heap.size = N at hN ⊢
  have n0 : W.cell? ⟨N, 0, none⟩ = some (.bool x.1.dir) := cell_of_row _ _ 0 _ _ _ hN
  have n1 : W.cell? ⟨N, 1, none⟩ = some (.slice x.2.1 x.1.b.length x.2.2) := cell_of_row _ _ 1 _ _ _ hN
  have r0 : W.cell? ⟨w.heap.size, 0, none⟩ = some (.bool false) := cell_of_row _ _ 0 _ _ _ hR
  have r1 : W.cell? ⟨w.heap.size, 1, none⟩ = some (.slice none 0 0) := cell_of_row _ _ 1 _ _ _ hR
  have q0 := frozen_of_row W _ 0 _ _ hR
  have q1 := frozen_of_row W _ 1 _ _ hR
  have HR := Lib.hid hR
  have HB := Lib.hid hB4
  have HE := Lib.hid hel3
  clear hR hN hB4 hel3
  obtain ⟨rc, rx⟩ := r
  simp only at HV HX ⊢
  by_cases h0 : rc = 0
  · have t0 : (rc != 0) = false := by rw [h0]; rfl
    cases hd : x.1.dir with
    | true =>
      have HF : Hid (V = (15, zeroT)) := by show _ = _; rw [HV.out, if_pos h0, if_pos (by rw [← HX.out]; exact hd)]
      rw [hd] at n0
      clear HV hd h0
      go_wp2_with fail
      refine bodyPost_ret (ret_tht rfl (by rfl) (set2B _ _ HR.out)) rfl ?_
      rw [HF.out]
      exact ToldFi.no (HB.out.trans ((tch2B _ _ _ _).below HB.out.size fun k e => by omega))
    | false =>
      have HF : Hid (V = (0, rx)) := by show _ = _; rw [HV.out, if_pos h0, if_neg (by rw [← HX.out, hd]; simp)]
      have HD := Lib.hid hd
      rw [hd] at n0
      clear HV hd h0
      go_wp2_with fail
      refine bodyPost_ret (ret_tht rfl (by rfl) (set2B _ _ HR.out)) rfl ?_
      rw [HF.out]
      refine ⟨x, by unfold elV; rw [HD.out]; rfl, HX.out, el_skip HE.out (tch2B _ _ _ _) (fun k hk o u => by subst hk; exact no_byte_th (x := zeroE) HR.out o u), HB.out.trans ((tch2B _ _ _ _).below HB.out.size fun k e => by omega)⟩
  · have t0 : (rc != 0) = true := by simpa using h0
    have HF : Hid (V = (rc, zeroT)) := by show _ = _; rw [HV.out, if_neg h0]
    clear HV h0
    go_wp2_with fail
    refine bodyPost_ret (ret_tht rfl (by rfl) (set2B _ _ HR.out)) rfl ?_
    rw [HF.out]
    exact ToldFi.no (HB.out.trans ((tch2B _ _ _ _).below HB.out.size fun k e => by omega))
end Go.Proofs.YtabecceojbeomaaGreatDoor
end

section
/- What a Tree's methods keep: the call's box, the answer's box, the tree; what they tell. No condition. -/
namespace Go.Proofs.YtabecceojbeomaaGreatDoor
open Go.RowKit Go.Cat Go.Cat.Dir Go.Cat.Tree Go.Maps
abbrev callC (c : CallV) (A : Option Addr) (cA : Nat) : Array Value := #[.int .i64 c.kind, .string (bs c.path), .string (bs c.to), .int .i64 c.off, .int .i64 c.n, .slice A c.data.length cA]
abbrev ansC (x : Int) (B : Option Addr) (n cB : Nat) (C : Option Addr) (m cC : Nat) (z : Int) (d : Bool) : Array Value := #[.int .i64 x, .slice B n cB, .slice C m cC, .int .i64 z, .bool d]
abbrev set5 (w : World) (g : Nat) (v0 v1 v2 v3 v4 : Value) : World := ((((w.setCell ⟨g, 0, none⟩ v0).setCell ⟨g, 1, none⟩ v1).setCell ⟨g, 2, none⟩ v2).setCell ⟨g, 3, none⟩ v3).setCell ⟨g, 4, none⟩ v4
theorem set5B {w : World} {g : Nat} {u0 u1 u2 u3 u4 : Value} {t : TypeId} {fr : Nat × Nat} (v0 v1 v2 v3 v4 : Value) (h : w.heap[g]? = some (.cells #[u0, u1, u2, u3, u4] t fr)) : (set5 w g v0 v1 v2 v3 v4).heap[g]? = some (.cells #[v0, v1, v2, v3, v4] t fr) := by
  have h0 := Go.Cat.set_block v0 h (i := 0)
  have h1 := Go.Cat.set_block v1 h0 (i := 1)
  have h2 := Go.Cat.set_block v2 h1 (i := 2)
  have h3 := Go.Cat.set_block v3 h2 (i := 3)
  have h4 := Go.Cat.set_block v4 h3 (i := 4)
  simpa using h4
theorem tch5B (w : World) (g : Nat) (v0 v1 v2 v3 v4 : Value) : Tch (fun k => k = g) w (set5 w g v0 v1 v2 v3 v4) := ((((Tch.set _ _ _ _).trans (Tch.set _ _ _ _)).trans (Tch.set _ _ _ _)).trans (Tch.set _ _ _ _)).trans (Tch.set _ _ _ _)
/-- What a method tells: the answer, and the tree, whose map alone was turned. -/
def ToldA (r : TL × AnsV) (w : World) (a : Nat) (I J : Int) (M : Nat) (e : Ending) (w' : World) : Prop :=
  ∃ (es' : List (Txt × El)) (B : Option Addr) (cB : Nat) (C : Option Addr) (cC : Nat), e = .returned (.agg #[.int .i64 r.2.code, .slice B r.2.data.length cB, .slice C r.2.names.length cC, .int .i64 r.2.size, .bool r.2.dir]) ∧
    Bytes w' B r.2.data ∧ Texts w' C r.2.names ∧ TrAt w' a I J M es' ∧ ths es' = r.1 ∧ Tch (fun k => k = M) w w'
/-- What a method's walk keeps. -/
structure MF (w : World) (a : Nat) (I J : Int) (M : Nat) (es : List (Txt × El)) (c : CallV) (A : Option Addr) (cA : Nat) (wr : World) : Prop where
  cb : wr.heap[w.heap.size]? = some (.cells (callC c A cA) 33 (0, 0))
  rb : wr.heap[w.heap.size + 1]? = some (.cells (ansC 0 none 0 0 none 0 0 0 false) 36 (0, 0))
  tr : TrAt wr a I J M es
  dat : Bytes wr A c.data
  tch : Tch (fun k => k = M) w wr
  lo : a < w.heap.size ∧ M < w.heap.size ∧ 0 < w.heap.size
variable {w wr w' : World} {a M : Nat} {I J : Int} {es es' : List (Txt × El)} {c : CallV} {A : Option Addr} {cA : Nat}
theorem TrAt.lo (h : TrAt w a I J M es) : a < w.heap.size ∧ M < w.heap.size ∧ 0 < w.heap.size := by
  obtain ⟨m, hm⟩ := h.gl
  exact ⟨h.lt, h.tm.lt, World.block_lt_of_cell? w _ hm⟩
theorem MF.start (h : TrAt w a I J M es) (hA : Bytes w A c.data) (cA : Nat) : MF w a I J M es c A cA ((w.alloc (.cells (callC c A cA) 33)).alloc (.cells (ansC 0 none 0 0 none 0 0 0 false) 36)) := by
  have hb : Below w.heap.size w ((w.alloc (.cells (callC c A cA) 33)).alloc (.cells (ansC 0 none 0 0 none 0 0 0 false) 36)) := ((Below.refl _ _).alloc (Nat.le_refl _) _).alloc (by simp) _
  refine ⟨heap_alloc (heap_alloc_new w _) _, ?_, h.below hb, hA.below hb, Tch.of_below hb, h.lo⟩
  have := heap_alloc_new (w.alloc (.cells (callC c A cA) 33)) (.cells (ansC 0 none 0 0 none 0 0 0 false) 36)
  simpa using this
theorem MF.lt (h : MF w a I J M es c A cA wr) : w.heap.size + 1 < wr.heap.size := heap_lt h.rb
theorem MF.below (h : MF w a I J M es c A cA wr) (hb : Below wr.heap.size wr w') : MF w a I J M es c A cA w' :=
  ⟨heap_below h.cb hb, heap_below h.rb hb, h.tr.below hb, h.dat.below hb, h.tch.trans (Tch.of_below hb), h.lo⟩
theorem MF.facts (h : MF w a I J M es c A cA wr) : (wr.cell? ⟨w.heap.size, 0, none⟩ = some (.int .i64 c.kind) ∧ wr.cell? ⟨w.heap.size, 1, none⟩ = some (.string (bs c.path)) ∧ wr.cell? ⟨w.heap.size, 2, none⟩ = some (.string (bs c.to)) ∧ wr.cell? ⟨w.heap.size, 3, none⟩ = some (.int .i64 c.off) ∧ wr.cell? ⟨w.heap.size, 4, none⟩ = some (.int .i64 c.n) ∧ wr.cell? ⟨w.heap.size, 5, none⟩ = some (.slice A c.data.length cA)) ∧
    (wr.cell? ⟨w.heap.size + 1, 0, none⟩ = some (.int .i64 0) ∧ wr.cell? ⟨w.heap.size + 1, 1, none⟩ = some (.slice none 0 0) ∧ wr.cell? ⟨w.heap.size + 1, 2, none⟩ = some (.slice none 0 0) ∧ wr.cell? ⟨w.heap.size + 1, 3, none⟩ = some (.int .i64 0) ∧ wr.cell? ⟨w.heap.size + 1, 4, none⟩ = some (.bool false)) ∧
    (wr.frozen? ⟨w.heap.size + 1, 0, none⟩ = false ∧ wr.frozen? ⟨w.heap.size + 1, 1, none⟩ = false ∧ wr.frozen? ⟨w.heap.size + 1, 2, none⟩ = false ∧ wr.frozen? ⟨w.heap.size + 1, 3, none⟩ = false ∧ wr.frozen? ⟨w.heap.size + 1, 4, none⟩ = false) ∧ wr.cell? ⟨a, 2, none⟩ = some (.map (some M)) :=
  ⟨⟨cell_of_row _ _ 0 _ _ _ h.cb, cell_of_row _ _ 1 _ _ _ h.cb, cell_of_row _ _ 2 _ _ _ h.cb, cell_of_row _ _ 3 _ _ _ h.cb, cell_of_row _ _ 4 _ _ _ h.cb, cell_of_row _ _ 5 _ _ _ h.cb⟩,
    ⟨cell_of_row _ _ 0 _ _ _ h.rb, cell_of_row _ _ 1 _ _ _ h.rb, cell_of_row _ _ 2 _ _ _ h.rb, cell_of_row _ _ 3 _ _ _ h.rb, cell_of_row _ _ 4 _ _ _ h.rb⟩,
    ⟨frozen_of_row _ _ 0 _ _ h.rb, frozen_of_row _ _ 1 _ _ h.rb, frozen_of_row _ _ 2 _ _ h.rb, frozen_of_row _ _ 3 _ _ h.rb, frozen_of_row _ _ 4 _ _ h.rb⟩, h.tr.c2⟩
theorem no_byte_ans {g : Nat} {x : Int} {B C : Option Addr} {n cB m cC : Nat} {z : Int} {d : Bool} {t : TypeId} {fr : Nat × Nat} (h : w.heap[g]? = some (.cells (ansC x B n cB C m cC z d) t fr)) (o : Nat) (u : UInt8) : w.cell? ⟨g, o, none⟩ ≠ some (by8 u) := no_cell h (by simp [by8]) o
theorem no_text_ans {g : Nat} {x : Int} {B C : Option Addr} {n cB m cC : Nat} {z : Int} {d : Bool} {t : TypeId} {fr : Nat × Nat} (h : w.heap[g]? = some (.cells (ansC x B n cB C m cC z d) t fr)) (o : Nat) (s : Txt) : w.cell? ⟨g, o, none⟩ ≠ some (sv s) := no_cell h (by simp [sv]) o
theorem no_byte_call {g : Nat} {t : TypeId} {fr : Nat × Nat} (h : w.heap[g]? = some (.cells (callC c A cA) t fr)) (o : Nat) (u : UInt8) : w.cell? ⟨g, o, none⟩ ≠ some (by8 u) := no_cell h (by simp [by8]) o
/-- The end: the answer is stored. -/
theorem MF.fin (h : MF w a I J M es c A cA wr) (r : AnsV) {B C : Option Addr} {cB cC : Nat} (hB : Bytes wr B r.data) (hC : Texts wr C r.names) {l : TL} (hl : ths es = l) :
    ToldA (l, r) w a I J M (.returned (.agg #[.int .i64 r.code, .slice B r.data.length cB, .slice C r.names.length cC, .int .i64 r.size, .bool r.dir])) (set5 wr (w.heap.size + 1) (.int .i64 r.code) (.slice B r.data.length cB) (.slice C r.names.length cC) (.int .i64 r.size) (.bool r.dir)) := by
  have ht := tch5B wr (w.heap.size + 1) (.int .i64 r.code) (.slice B r.data.length cB) (.slice C r.names.length cC) (.int .i64 r.size) (.bool r.dir)
  have hnb := no_byte_ans h.rb
  have hl1 := h.lo
  refine ⟨es, B, cB, C, cC, rfl, bytes_skip hB ht (fun k hk o u => by subst hk; exact hnb o u), sees_skip hC ht (fun k hk o u hu => ?_), h.tr.touch ht (fun e => by omega) (fun e => by omega) (fun e => by omega) (fun k hk o u => by subst hk; exact hnb o u), hl, ⟨ht.os.trans h.tch.os, ht.tape.trans h.tch.tape, ht.output.trans h.tch.output, Nat.le_trans h.tch.size ht.size, fun k hk hn => (ht.block k (Nat.lt_of_lt_of_le hk h.tch.size) (fun e => by omega)).trans (h.tch.block k hk hn)⟩⟩
  obtain ⟨s, _, rfl⟩ := List.mem_map.1 hu
  subst hk
  exact no_text_ans h.rb o s
theorem MF.no (h : MF w a I J M es c A cA wr) (x : Int) : ToldA (ths es, wrongV x) w a I J M (.returned (.agg #[.int .i64 x, .slice none 0 0, .slice none 0 0, .int .i64 0, .bool false])) (set5 wr (w.heap.size + 1) (.int .i64 x) (.slice none 0 0) (.slice none 0 0) (.int .i64 0) (.bool false)) :=
  h.fin (wrongV x) (.inl rfl) (.inl rfl) rfl
/-- The map is turned. -/
theorem MF.turned (h : MF w a I J M es c A cA wr) (hT : TM w' Tryz.prog 9 M es') (ht : wr.mapTurned w' M) : MF w a I J M es' c A cA w' := by
  have hg := Tch.grown ht.grown
  have hl := h.lo
  obtain ⟨es0, clock, _, _, hm, _⟩ := ht
  have hg' : Tch (fun k => k = M) wr w' := hg.mono fun k _ e => by injection e with e; exact e.symm
  have hnb : ∀ k, k = M → ∀ o (u : UInt8), wr.cell? ⟨k, o, none⟩ ≠ some (by8 u) := fun k hk o u => by subst hk; exact no_byte_map hm o _
  refine ⟨heap_touch h.cb hg' (fun e => by omega), heap_touch h.rb hg' (fun e => by omega), ⟨heap_touch h.tr.blk hg' h.tr.ne_map, hT, h.tr.ne, h.tr.gl.touch hg' fun e => ?_⟩, bytes_skip h.dat hg' hnb, h.tch.trans hg', h.lo⟩
  obtain ⟨m, hm2⟩ := h.tr.gl
  have : 0 = M := e
  rw [this] at hm2
  simp [World.cell?, hm] at hm2
theorem turned_tch (h : w.mapTurned w' M) : Tch (fun k => k = M) w w' := (Tch.grown h.grown).mono fun k _ e => by injection e with e; exact e.symm
/-- A box is no map. -/
theorem box_ne {N : Nat} {cs : Array Value} {t : TypeId} {fr : Nat × Nat} {wd : World} (h : w.heap[N]? = some (.cells cs t fr)) (ht : w.drew.mapTurned wd M) : N ≠ M := fun e => by
  obtain ⟨es0, clock, _, _, hm, _⟩ := ht
  rw [← e] at hm
  have : w.heap[N]? = some (.map es0 clock) := hm
  rw [h] at this
  cases this
theorem bytes_take {b : List UInt8} (h : Bytes w A b) (n : Nat) : Bytes w A (b.take n) := by
  rcases h with h | ⟨k, o, hA, hc⟩
  · left
    have : b = [] := by simpa using h
    subst this
    simp
  · refine .inr ⟨k, o, hA, fun j u hu => hc j u ?_⟩
    rw [List.map_take] at hu
    rw [List.getElem?_take] at hu
    split at hu
    · exact hu
    · cases hu
theorem el_cut {x : El} (h : ElAt w x) {n : Nat} (hn : n ≤ x.1.b.length) : ElAt w (⟨false, x.1.b.take n⟩, x.2.1, n) :=
  ⟨bytes_take h.1 n, by show (x.1.b.take n).length ≤ n; rw [List.length_take]; omega, by show n ≤ maxLen; have := h.2; omega⟩
theorem el_cutV {x : El} {n : Nat} (hn : n ≤ x.1.b.length) : elV (⟨false, x.1.b.take n⟩, x.2.1, n) = .agg #[.bool false, .slice x.2.1 n n] := by unfold elV; simp only [List.length_take, Nat.min_eq_left hn]
theorem run_cut3 {a : Option Addr} {len cap n : Nat} (hn : n ≤ cap) (U : World) :
    (Instr.slice 23 (.slice a len cap) none (some (.int .i64 (n : Int))) (some (.int .i64 (n : Int)))).run Tryz.prog U = .ok (.slice a n n) U := by
  cases a <;> simp [Instr.slice, run_underlying Tryz.underlying23, Instr.sliceBounds, Instr.sliceBound, asIntOf, go_sem, hn, Addr.add]
theorem ths_put (p : Txt) (x : El) (es : List (Txt × El)) : ths (putT p x es) = putT p x.1 (ths es) := mapT_put _ _ _ _
theorem ths_del (p : Txt) (es : List (Txt × El)) : ths (delT p es) = delT p (ths es) := mapT_del _ _ _
theorem up_len (l : TL) (p : Txt) : (upV l p).2.length ≤ 96 := by
  unfold upV
  split
  · split
    · split
      · exact abv_len p
      · exact Nat.zero_le _
    · exact Nat.zero_le _
  · exact Nat.zero_le _
/-- delete, as one step of a region. -/
theorem step_delete {P : Program} {ops : Array Oper} {o : Oper} {ac : Act} {K : Act → World → Prop} {Q : Exit → Act → World → Prop} {E : Prop} (hg : o.guard = none) (x y : Operand) (ts : Array TypeId) (hop : o.op = Op.call { callee := Callee.builtin Builtin.delete, args := #[x, y], argTypes := ts })
    {w6 : World} {v : Value} {vs : Array Value} (hr : (Builtin.delete_ ts o.type vs).run P w = .ok v w6) (hx : #[ac.eval x, ac.eval y] = vs) (hK : K (ac.put o.dst v) w6) : if Region.wanted o (yielded ops ac.tmps) = true then Oper.wp P o ac w K Q else E := by
  have hw : Region.wanted o (yielded ops ac.tmps) = true := by simp [Region.wanted, hg]
  rw [if_pos hw]
  unfold Oper.wp
  simp [execOp, hop, resolve, invoke, builtin, hx, hr, Result.andThen]
  exact hK
/-- A part of a slice: where it lies, and what it shows. -/
def cutA (a : Option Addr) (cap lo : Nat) : Option Addr := if cap = lo then a else a.map (·.add lo)
theorem run_cut2 {a : Option Addr} {len cap lo hi : Nat} (h1 : lo ≤ hi) (h2 : hi ≤ cap) (U : World) :
    (Instr.slice 23 (.slice a len cap) (some (.int .i64 (lo : Int))) (some (.int .i64 (hi : Int))) none).run Tryz.prog U = .ok (.slice (cutA a cap lo) (hi - lo) (cap - lo)) U := by
  simp [Instr.slice, run_underlying Tryz.underlying23, Instr.sliceBounds, Instr.sliceBound, asIntOf, go_sem, h1, h2, cutA]
theorem run_cut1 {a : Option Addr} {len cap lo : Nat} (h1 : lo ≤ len) (U : World) :
    (Instr.slice 23 (.slice a len cap) (some (.int .i64 (lo : Int))) none none).run Tryz.prog U = .ok (.slice (cutA a cap lo) (len - lo) (cap - lo)) U := by
  simp [Instr.slice, run_underlying Tryz.underlying23, Instr.sliceBounds, Instr.sliceBound, asIntOf, go_sem, h1, cutA]
theorem run_cut0 {a : Option Addr} {len cap hi : Nat} (h1 : hi ≤ cap) (U : World) :
    (Instr.slice 23 (.slice a len cap) none (some (.int .i64 (hi : Int))) none).run Tryz.prog U = .ok (.slice a hi cap) U := by
  cases a <;> simp [Instr.slice, run_underlying Tryz.underlying23, Instr.sliceBounds, Instr.sliceBound, asIntOf, go_sem, h1, Addr.add]
theorem bytes_cut {b : List UInt8} (h : Bytes w A b) {cap lo : Nat} (hc : b.length ≤ cap) : Bytes w (cutA A cap lo) (b.drop lo) := by
  unfold cutA
  split
  · rename_i e
    left
    rw [List.drop_eq_nil_of_le (by omega)]
    rfl
  · rcases h with h | ⟨k, o, hA, hc⟩
    · left
      have : b = [] := by simpa using h
      subst this
      simp
    · by_cases h0 : lo = 0
      · subst h0
        refine .inr ⟨k, o, by rw [hA]; rfl, hc⟩
      · refine .inr ⟨k, o + lo, by rw [hA]; simp [Addr.add, h0], fun j u hu => ?_⟩
        have := hc (lo + j) u (by rw [List.map_drop, List.getElem?_drop] at hu; exact hu)
        rw [Nat.add_assoc]
        exact this
theorem box_ne' {N : Nat} {cs : Array Value} {t : TypeId} {fr : Nat × Nat} (h : w.heap[N]? = some (.cells cs t fr)) (ht : w.mapTurned w' M) : N ≠ M := fun e => by
  obtain ⟨es0, clock, _, _, hm, _⟩ := ht
  rw [← e, h] at hm
  cases hm
theorem _root_.Go.World.size_alloc_le (w : World) (o : Obj) : w.heap.size ≤ (w.alloc o).heap.size := ((Below.refl _ w).alloc (Nat.le_refl _) o).size
theorem texts_turned {B : Option Addr} {ls : List Txt} (h : Texts w B ls) (ht : w.mapTurned w' M) : Texts w' B ls := by
  have hg := turned_tch ht
  obtain ⟨es0, clock, _, _, hm, _⟩ := ht
  exact sees_skip h hg fun k hk o u _ => by subst hk; exact no_byte_map hm o u
theorem el_turned {x : El} (h : ElAt w x) (ht : w.mapTurned w' M) : ElAt w' x := by
  have hg := turned_tch ht
  obtain ⟨es0, clock, _, _, hm, _⟩ := ht
  exact el_skip h hg fun k hk o u => by subst hk; exact no_byte_map hm o _
end Go.Proofs.YtabecceojbeomaaGreatDoor
end

section
/- The contracts of a Tree's Paths and Blocks, of inode.Need, of a Tree's over. Condition: the bounds on a tree's things. -/
namespace Go.Proofs.YtabecceojbeomaaGreatDoor
open Go.RowKit Go.Cat Go.Cat.Dir Go.Cat.Tree Go.Maps
def keysE (es : List (Txt × El)) : List Txt := es.map (·.1)
theorem keys_ths (es : List (Txt × El)) : (ths es).map (·.1) = keysE es := by unfold ths mapT keysE; rw [List.map_map]; rfl
def ToldP (es : List (Txt × El)) (w : World) (e : Ending) (w' : World) : Prop := ∃ A c, e = .returned (.slice A es.length c) ∧ Texts w' A (keysE es) ∧ Below w.heap.size w w'
theorem keys_dat (es : List (Txt × El)) : strKeys (datT (mapT hk es)) = keysE es := by
  show ((mapT hk es).map fun x => ((.string x.1 : Lit), (.held x.2 : DataW Hk))).map (fun p => strOf p.1) = _
  unfold mapT keysE
  rw [List.map_map, List.map_map]
  rfl
theorem keys_sort {es : List (Txt × El)} {ss : List Txt} (hr : Rise es) (h : ss.Perm (keysE es)) : ss.mergeSort leT = keysE es :=
  sort_rise h (List.pairwise_map.2 hr)

set_option maxRecDepth 100000 in
set_option maxHeartbeats 1000000 in
theorem paths_any (a : Nat) (I J : Int) (M : Nat) (es : List (Txt × El)) (w : World) (h : TrAt w a I J M es) (hk : KeyB es) :
    Calls Tryz.prog 18 #[.pointer (some ⟨a, 0, none⟩)] w (ToldP es w) := by
  have c2 := h.c2
  have hsz : Maps.size (datT (mapT Tree.hk es)) = es.length := by rw [dat_size, mapT_length]
  have P1 := Lib.hid (callsIn_wide.1 (Tryz.maps_Keys (some M) w))
  have hs := callsIn_wide.1 (Tryz.slices_Sorted_keys M es.length (datT (mapT Tree.hk es)) thR w h.tm.own (by rw [hsz]; have := hk.n; unfold maxLen; omega) (by rw [hsz]; have := hk.n; omega))
  have hb : Below w.heap.size w (w.alloc (.cells #[.map (some M)] 61)) := (Below.refl _ _).alloc (Nat.le_refl _) _
  have p2 := hs.mono (R' := ToldP es w) fun e w' ⟨v, ss, h1, h2, h3, _, h4⟩ => by
    rw [keys_dat] at h2
    rw [show ss.mergeSort (fun x y => decide (x ≤ y)) = keysE es from keys_sort h.tm.rise h2] at h3
    obtain ⟨A, c, rfl, _, _⟩ := own_full h3
    have hl : ss.length = es.length := by rw [h2.length_eq]; exact List.length_map _
    rw [hl] at h1 h3
    exact ⟨A, c, h1, Sees.of_own h3, hb.trans (h4.mono hb.size)⟩
  have P2 := Lib.hid p2
  clear hs hsz hb p2 h hk
  go_enter Tryz.func18, Tryz.ntmps18
  go_wp2_with fail
  refine (P1.out).mono ?_
  rintro e w1 ⟨rfl, rfl⟩
  go_wp2_with fail
  refine (P2.out).mono ?_
  rintro e w2 ⟨A, c, rfl, hA, hB⟩
  have HA := Lib.hid hA
  have HB := Lib.hid hB
  clear hA hB
  go_wp2_with fail
  go_ret
  exact ⟨A, c, rfl, HA.out, HB.out⟩
theorem paths_nil (w : World) : Calls Tryz.prog 18 #[.pointer none] w fun e w' => e = .returned (.slice none 0 0) ∧ w = w' := by
  go_enter Tryz.func18, Tryz.ntmps18
  go_wp2_with fail
  go_ret
  exact ⟨rfl, rfl⟩
end Go.Proofs.YtabecceojbeomaaGreatDoor
end
