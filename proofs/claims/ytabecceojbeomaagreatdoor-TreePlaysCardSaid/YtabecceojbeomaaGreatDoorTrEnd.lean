/- The contracts of the parts TrAct, TrCopy, TrBlocks, TrDoU, TrDo, in one text. Conditions: those told at each part. -/
import Derived.Test.YtabecceojbeomaaGreatDoorTrMeth
import Derived.Test.YtabecceojbeomaaGreatDoorTrRen
import Derived.Test.YtabecceojbeomaaGreatDoorTrRenN
import Derived.Test.YtabecceojbeomaaGreatDoorTrRenS
import Derived.Test.YtabecceojbeomaaGreatDoorTrPutC
import Derived.Test.YtabecceojbeomaaGreatDoorTrRenF
import Derived.Test.YtabecceojbeomaaGreatDoorTrRenT
import Derived.Test.YtabecceojbeomaaGreatDoorTrCalls
import Derived.Test.YtabecceojbeomaaGreatDoorTrBase
import Derived.Test.YtabecceojbeomaaGreatDoorTrLaid
import Derived.Deep.RegionHeld3
import Derived.Test.YtabecceojbeomaaGreatDoorTrPlain
section
/- The contract of what a kind of call does to a Tree. Condition: a tree's things stand in directories; at most 100000 of them; the paths' lengths below 2^31. -/
namespace Go.Proofs.YtabecceojbeomaaGreatDoor
open Go.RowKit Go.Cat Go.Cat.Dir Go.Cat.Tree Go.Maps
theorem keyB_inv {es : List (Txt × El)} (h : Inv (ths es)) (hn : es.length ≤ 100000) : KeyB es := by
  have hm : ∀ y ∈ es, (y.1, y.2.1) ∈ ths es := fun y hy => List.mem_map_of_mem (f := fun y : Txt × El => (y.1, y.2.1)) hy
  exact ⟨hn, fun y hy => by have := h.key (hm y hy); simp only at this; omega, fun y hy => by have := h.fit _ (hm y hy); simp only at this; omega⟩
theorem rename_any (a : Nat) (I J : Int) (M : Nat) (es : List (Txt × El)) (c : CallV) (A : Option Addr) (cA : Nat) (w : World) (h : TrAt w a I J M es) (hA : Bytes w A c.data) (hk : KeyB es) (hp : c.path.length < 4294967281) (hto : c.to.length < 4294967281) :
    Calls Tryz.prog 51 #[.pointer (some ⟨a, 0, none⟩), .agg (callC c A cA)] w (ToldA (renameV (ths es) c) w a I J M) := by
  by_cases h0 : abe c.path = 0 ∧ abe c.to = 0 ∧ (findV (ths es) c.path).1 = 0
  · obtain ⟨h1, h2, h3⟩ := h0
    cases hd : (findV (ths es) c.path).2.dir with
    | false => exact rename_file a I J M es c A cA w h hA hk hp hto h1 h2 h3 hd
    | true =>
      by_cases hq : c.to = c.path
      · exact rename_self a I J M es c A cA w h hA hk hp hto h1 h2 h3 hd hq
      · exact rename_dir a I J M es c A cA w h hA hk hp hto h1 h2 h3 hd hq
  · exact rename_not a I J M es c A cA w h hA hk hp hto h0

set_option maxRecDepth 100000 in
theorem other_any (a : Nat) (I J : Int) (M : Nat) (es : List (Txt × El)) (c : CallV) (A : Option Addr) (cA : Nat) (w : World) (h : TrAt w a I J M es) (hA : Bytes w A c.data) :
    Calls Tryz.prog 57 #[.pointer (some ⟨a, 0, none⟩), .agg (callC c A cA)] w (ToldA (ths es, wrongV 1) w a I J M) := by
  have HF := Lib.hid (MF.start h hA cA)
  have P9 := Lib.hid (wrong_any 1 ((w.alloc (.cells (callC c A cA) 33)).alloc (.cells (ansC 0 none 0 0 none 0 0 0 false) 36)))
  clear h hA
  go_enter Tryz.func57, Tryz.ntmps57
  go_wp2_with fail
  refine (P9.out).mono ?_
  rintro e w9 ⟨rfl, hB9⟩
  have hF9 := HF.out.below hB9
  clear hB9
  obtain ⟨⟨k0, k1, k2, k3, k4, k5⟩, ⟨r0, r1, r2, r3, r4⟩, ⟨q0, q1, q2, q3, q4⟩, c2⟩ := hF9.facts
  have HF9 := Lib.hid hF9
  clear hF9
  go_wp2_with fail
  refine bodyPost_ret (ret_ans rfl (by rfl) (set5B _ _ _ _ _ HF9.out.rb)) rfl ?_
  exact HF9.out.no 1

theorem act_any (a : Nat) (I J : Int) (M : Nat) (es : List (Txt × El)) (c : CallV) (A : Option Addr) (cA : Nat) (w : World) (h : TrAt w a I J M es) (hA : Bytes w A c.data) (hi : Inv (ths es)) (hn : es.length ≤ 100000) (hp : c.path.length < 4294967281) (hto : c.to.length < 4294967281) :
    Calls Tryz.prog (kindF c.kind) #[.pointer (some ⟨a, 0, none⟩), .agg (callC c A cA)] w (ToldA (actV (ths es) c) w a I J M) := by
  have hk := keyB_inv hi hn
  unfold kindF actV
  split; exact make_any a I J M es c A cA w h hA hk hp
  split; (rename_i hh; exact remove_any a I J M es c A cA w h hA hk hh hp)
  split; exact rename_any a I J M es c A cA w h hA hk hp hto
  split; exact put_any a I J M es c A cA w h hA hi hn hp
  split; exact get_any a I J M es c A cA w h hA hi hn hp
  split; exact trunc_any a I J M es c A cA w h hA hi hn hp
  split; exact list_any a I J M es c A cA w h hA hk hp
  split; exact stat_any a I J M es c A cA w h hA hk hp
  exact other_any a I J M es c A cA w h hA
end Go.Proofs.YtabecceojbeomaaGreatDoor
end

section
/- The contract of a Tree's Copy. Condition: the bounds on a tree's things. -/
namespace Go.Proofs.YtabecceojbeomaaGreatDoor
open Go.RowKit Go.Cat Go.Cat.Dir Go.Cat.Tree Go.Maps
/-- What Copy tells: another tree, of the same things. -/
def ToldCp (l : TL) (I J : Int) (w : World) (e : Ending) (w' : World) : Prop :=
  ∃ (a2 M2 : Nat) (es2 : List (Txt × El)), e = .returned (.pointer (some ⟨a2, 0, none⟩)) ∧ TrAt w' a2 I J M2 es2 ∧ ths es2 = l ∧ w.heap.size ≤ a2 ∧ w.heap.size ≤ M2 ∧ Below w.heap.size w w'
theorem copy_nil (w : World) : Calls Tryz.prog 11 #[.pointer none] w fun e w' => e = .returned (.pointer none) ∧ w = w' := by
  go_enter Tryz.func11, Tryz.ntmps11
  go_wp2_with fail
  go_ret
  exact ⟨rfl, rfl⟩
theorem ths_same {es : List (Txt × El)} (hr : Rise es) {p : Txt} {x y : El} (h : getT p es = some x) (he : y.1 = x.1) : ths (putT p y es) = ths es := by
  rw [ths_put]
  exact put_same (mapT_rise.2 hr) (by rw [mapT_get, h, he]; rfl)

set_option maxRecDepth 100000 in
set_option maxHeartbeats 4000000 in
theorem copy_any (a : Nat) (I J : Int) (M : Nat) (es : List (Txt × El)) (w : World) (h : TrAt w a I J M es) (hk : KeyB es) :
    Calls Tryz.prog 11 #[.pointer (some ⟨a, 0, none⟩)] w (ToldCp (ths es) I J w) := by
  have c2 := h.c2
  have p1 := AnyW.maps_Clone_owns Tryz.trClone 9 thR M es.length (datT (mapT Tree.hk es)) w h.tm.own
  have P1 : Hid (Calls Tryz.prog 28 #[.map (some M)] w fun e w' => e = .returned (.map (some w.heap.size)) ∧ TM w' Tryz.prog 9 w.heap.size es ∧ Below w.heap.size w w') :=
    p1.mono fun e w' ⟨h1, h2, _, h4⟩ => ⟨h1, ⟨h2, h.tm.rise, fun x hx => (h.tm.each x hx).below h4⟩, h4⟩
  have hfb : ∀ {esk : List (Txt × El)} {p : Txt} {x : El}, ths esk = ths es → (p, x) ∈ esk → x.1.b.length ≤ 100000 := fun {esk p x} he hx => by
    have h1 : (p, x.1) ∈ ths esk := List.mem_map_of_mem (f := fun y : Txt × El => (y.1, y.2.1)) hx
    rw [he] at h1
    obtain ⟨z, hz, e⟩ := List.mem_map.1 h1
    injection e with _ e
    have := hk.f z hz
    rw [e] at this
    exact this
  have HT := Lib.hid h
  have HK := Lib.hid hk
  have HFb : Hid (∀ (esk : List (Txt × El)) (p : Txt) (x : El), ths esk = ths es → (p, x) ∈ esk → x.1.b.length ≤ 100000) := fun esk p x => hfb
  clear h hk p1 hfb
  go_enter Tryz.func11, Tryz.ntmps11
  go_wp2_with fail
  refine (P1.out).mono ?_
  rintro e w1 ⟨rfl, hT1, hB1⟩
  obtain ⟨M2, hM2⟩ : ∃ M2, M2 = w.heap.size := ⟨_, rfl⟩
  rw [← hM2] at hT1 ⊢
  have HB1 := Lib.hid hB1
  have HM2 := Lib.hid hM2
  clear hB1 P1 c2 hM2
  go_wp2_with (first
    | (at_range; refine wpList_range_tr _ rfl _ 61 rfl 9 60 Tryz.underlying9 Tryz.underlying61 M2 es rfl hT1 ?_; intro w0 hR0 hB0 hs0)
    | go_in)
  go_frame
  obtain ⟨r, hr⟩ : ∃ r, r = w1.heap.size := ⟨_, rfl⟩
  rw [← hr] at hR0 ⊢
  have HR0 := Lib.hid hr
  have HB0 : Hid (Below w.heap.size w w0) := HB1.out.trans (hB0.mono HB1.out.size)
  have HLr : Hid (w.heap.size ≤ r) := by show _ ≤ _; rw [hr]; exact HB1.out.size
  clear hr hB0 hs0 hT1 HB1
  go_loopw [15] (fun _ wr => ∃ (done : List (Txt × Th)) (rest : List (Txt × El)) (esk : List (Txt × El)), TR wr Tryz.prog 9 M2 r esk done rest ∧ Hid (ths esk = ths es) ∧ Hid (Below w.heap.size w wr))
    (fun _ wr => wr.rangeLeft M2 r)
  case atStart => exact ⟨[], es, es, hR0, Lib.hid rfl, HB0⟩
  case round =>
    clear hR0 HB0
    obtain ⟨done, rest, esk, hR, HE, HB⟩ := hrel
    go_wp2_with (first
      | (at_next; refine wpList_next_tr _ rfl _ rfl 9 Tryz.underlying9 M2 r esk done rest rfl hR ?_ ?_)
      | go_in)
    · intro h0
      have hTr := hR.tm
      have hA := HT.out.below HB.out
      have c0 := hA.c0
      have c1 := hA.c1
      have HTr := Lib.hid hTr
      have HA := Lib.hid hA
      clear hR h0 hTr hA
      go_wp2_with fail
      go_ret
      have hb := (Below.refl _ wr).alloc (Nat.le_refl _) (.cells #[.int .i64 I, .int .i64 J, .map (some M2)] 63)
      refine ⟨wr.heap.size, M2, esk, rfl, ⟨heap_alloc_new _ _, HTr.out.below hb, ?_, (HA.out.below hb).gl⟩, HE.out, HB.out.size, by rw [HM2.out]; exact Nat.le_refl _, HB.out.trans (hb.mono HB.out.size)⟩
      obtain ⟨m, hm⟩ := HA.out.gl
      have := World.block_lt_of_cell? wr _ hm
      intro e
      have e : wr.heap.size = 0 := e
      omega
    · intro p th A0 c0 w1 hm hR1 hg1 hs1 hen
      have hme := hR.sub _ hm
      have hB1 : Below w.heap.size w w1 := HB.out.grown hg1 HB.out.size (fun j hj => by cases hj; exact HLr.out)
      have hel := hR1.tm.each _ hme
      have hbl := HFb.out esk p (th, A0, c0) HE.out hme
      have hlt : (delT p rest).length < rest.length := by
        have := (perm_step hR.rise hm).length_eq
        simp at this
        omega
      have hnr : ∀ y ∈ delT p rest, y.1 ≠ p := fun y hy => (del_mem.1 hy).2
      have hgp : getT p esk = some (th, A0, c0) := get_of_mem hR.tm.rise hme
      have hl0 := hR.left_eq
      have hW2 := (Below.refl _ w1).alloc (Nat.le_refl _) (.cells #[.bool th.dir, .slice A0 th.b.length c0] 60)
      have hN2 := heap_alloc_new w1 (.cells #[.bool th.dir, .slice A0 th.b.length c0] 60)
      have hR2 := hR1.kept (hR1.tm.below hW2) (hW2.block _ hR1.tm.lt) (hW2.block _ hR1.lt)
      have hB2 := hB1.trans (hW2.mono hB1.size)
      have hE2 := el_below hel hW2
      have HGp := Lib.hid hgp
      have HLt := Lib.hid hlt
      have HNr := Lib.hid hnr
      have HL0 := Lib.hid hl0
      have HBl := Lib.hid hbl
      unfold elV at hen ⊢
      clear hme hB1 hel hbl hlt hnr hgp hl0 hW2 hg1 hs1 hR hR1 hm HB
      go_upto_region 7 with (fail)
      generalize w1.alloc (.cells #[.bool th.dir, .slice A0 th.b.length c0] 60) = W2 at hN2 hR2 hB2 hE2 ⊢
      generalize w1.heap.size = N at hN2 ⊢
      have HN2 := Lib.hid hN2
      have HR2 := Lib.hid hR2
      have HB2 := Lib.hid hB2
      have hn0 : W2.cell? ⟨N, 0, none⟩ = some (.bool th.dir) ∧ W2.cell? ⟨N, 1, none⟩ = some (.slice A0 th.b.length c0) := ⟨cell_of_row _ _ 0 _ _ _ hN2, cell_of_row _ _ 1 _ _ _ hN2⟩
      have HN0 := Lib.hid hn0
      have P4 := Lib.hid (clone_any A0 th.b.length c0 th.b W2.drew hE2.1 rfl (by have h2 : th.b.length ≤ 100000 := HBl.out; omega))
      have HRun : Hid (∀ U B cB, U.ownsRow W2.drew.heap.size 5 1 (.slice B th.b.length cB) th.b.length (th.b.map by8) → Below W2.drew.heap.size W2.drew U →
          ∃ w6, (Instr.mapUpdate 61 (.map (some M2)) (sv p) (.agg #[.bool th.dir, .slice B th.b.length cB])).run Tryz.prog U = .ok () w6 ∧ (U.cell? ⟨N, 0, none⟩ = some (.bool th.dir) ∧ U.cell? ⟨N, 1, none⟩ = some (.slice A0 th.b.length c0)) ∧
            (w6.cell? ⟨N, 0, none⟩ = some (.bool th.dir) ∧ w6.cell? ⟨N, 1, none⟩ = some (.slice A0 th.b.length c0)) ∧ Hid (TR w6 Tryz.prog 9 M2 r (putT p (th, B, cB) esk) (done ++ [(p, th)]) (delT p rest)) ∧ Hid (Below w.heap.size w w6)) := fun U B cB ho hB => by
        have hb := drew_below hB
        have hRU := HR2.out.kept (HR2.out.tm.below hb) (hb.block _ HR2.out.tm.lt) (hb.block _ HR2.out.lt)
        have hNU := heap_below HN2.out hb
        obtain ⟨B', cB', e1, e2, e3⟩ := own_full ho
        injection e1 with e11 e12 e13
        subst e11 e13
        have hkl : esk.length = es.length := by have := congrArg List.length HE.out; rwa [ths_length, ths_length] at this
        have hpl : p.length < 4294967281 := by
          have h1 : (p, th) ∈ ths esk := List.mem_map_of_mem (f := fun y : Txt × El => (y.1, y.2.1)) (get_mem HGp.out)
          rw [HE.out] at h1
          obtain ⟨z, hz, e⟩ := List.mem_map.1 h1
          injection e with e _
          rw [← e]
          exact HK.out.k z hz
        obtain ⟨w6, hr, hT, ht⟩ := hRU.store Tryz.underlying9 Tryz.underlying61 (by rw [hkl]; have := HK.out.n; unfold maxLen; omega) (p := p) (by unfold maxLen; omega) (x := (th, A0, c0)) (x' := (th, B, cB)) HGp.out rfl ⟨Sees.of_own ho, e2, e3⟩ HNr.out
        have hN6 := heap_touch hNU (turned_tch ht) (box_ne' hNU ht)
        have hBU := HB2.out.trans (hb.mono HB2.out.size)
        refine ⟨w6, hr, ⟨cell_of_row _ _ 0 _ _ _ hNU, cell_of_row _ _ 1 _ _ _ hNU⟩, ⟨cell_of_row _ _ 0 _ _ _ hN6, cell_of_row _ _ 1 _ _ _ hN6⟩, hT, hBU.trans ((turned_tch ht).below hBU.size fun k e => by rw [e, HM2.out]; exact Nat.le_refl _)⟩
      have HE3 : Hid (∀ B cB, ths (putT p (th, B, cB) esk) = ths es) := fun B cB => (ths_same (x := (th, A0, c0)) (y := (th, B, cB)) HR2.out.tm.rise HGp.out rfl).trans HE.out
      clear hN2 hR2 hB2 hE2 hn0 hen HN2 HR2 HE
      go_region_held3 (fun U => U.cell? ⟨N, 0, none⟩ = some (.bool th.dir) ∧ U.cell? ⟨N, 1, none⟩ = some (.slice A0 th.b.length c0))
        (first | exact hS6 | exact hS5 | exact HN0.out)
        (first | (go_at_call 29; refine (P4.out).mono ?_; rintro e w5 ⟨B, cB, rfl, ho5, hB5⟩; obtain ⟨w6, hrun, hS5, hS6, HT6, HB6⟩ := HRun.out w5 B cB ho5 hB5; clear ho5 hB5))
      all_goals
        rename_i FS
        clear FS hS5 hS6 hrun
        go_wp2_with fail
        exact ⟨⟨_, _, _, HT6.out, HE3.out B cB, HB6⟩, by rw [HT6.out.left_eq, HL0.out]; exact HLt.out⟩
end Go.Proofs.YtabecceojbeomaaGreatDoor
end

section
/- The contracts of inode.Need, of a Tree's Blocks and over. Condition: the bounds on a tree's things. -/
namespace Go.Proofs.YtabecceojbeomaaGreatDoor
open Go.RowKit Go.Cat Go.Cat.Dir Go.Cat.Tree Go.Maps
theorem tneed_any (size : Int) (w : World) (h0 : -9223372036854775808 ≤ size) (h1 : size ≤ 9223372036854775807) :
    Calls Tryz.prog 31 #[.int .i64 size] w fun e w' => e = .returned (.int .i64 (need size)) ∧ w = w' := by
  by_cases h : size ≤ 0
  · have hn : need size = 0 := by unfold need; rw [if_pos h]
    have d : decide (size ≤ 0) = true := by simpa using h
    rw [hn]
    clear hn
    go_enter Tryz.func31, Tryz.ntmps31
    go_wp2
    go_ret
    exact ⟨rfl, rfl⟩
  · have hn : need size = (size - 1) / 64 + 1 := by unfold need; rw [if_neg h]
    have d : decide (size ≤ 0) = false := by simpa using h
    have hp : 1 ≤ size := by omega
    have hq : 0 ≤ (size - 1) / 64 := by omega
    have hq2 : (size - 1) / 64 ≤ 9223372036854775806 := by omega
    rw [hn]
    clear hn
    go_enter Tryz.func31, Tryz.ntmps31
    go_wp2
    go_ret
    exact ⟨rfl, rfl⟩
/-- What the first k keys need. -/
def sumK (l : TL) (ks : List Txt) (k : Nat) : Int := ((ks.take k).map fun q => need (sizeV l q)).sum
theorem sumK_succ (l : TL) {ks : List Txt} {k : Nat} (h : k < ks.length) : sumK l ks (k + 1) = sumK l ks k + need (sizeV l ks[k]) := by
  unfold sumK
  rw [List.take_succ_eq_append_getElem h, List.map_append, List.sum_append]
  simp
theorem need_le {z : Int} (h : z ≤ 1600000) : need z ≤ 25000 := by unfold need; split <;> omega
theorem sumK_le {l : TL} (hs : ∀ q, sizeV l q ≤ 1600000) (ks : List Txt) (k : Nat) : 0 ≤ sumK l ks k ∧ sumK l ks k ≤ 25000 * k := by
  induction k with
  | zero => unfold sumK; simp
  | succ k ih =>
    by_cases h : k < ks.length
    · rw [sumK_succ l h]
      have h1 := hs ks[k]
      have h2 := need_le (z := (sizeV l ks[k] : Nat)) (by omega)
      have h3 := need_nonneg (sizeV l ks[k] : Nat)
      omega
    · unfold sumK at ih ⊢
      rw [List.take_of_length_le (by omega)] at ih ⊢
      omega
theorem sumK_all (es : List (Txt × El)) : sumK (ths es) (keysE es) es.length = blocksV (ths es) := by
  rw [blocks_keys, keys_ths]
  unfold sumK
  rw [List.take_of_length_le (by unfold keysE; rw [List.length_map]; exact Nat.le_refl _)]

set_option maxRecDepth 100000 in
set_option maxHeartbeats 2000000 in
theorem blocks_any (a : Nat) (I J : Int) (M : Nat) (es : List (Txt × El)) (w : World) (h : TrAt w a I J M es) (hk : KeyB es) :
    Calls Tryz.prog 17 #[.pointer (some ⟨a, 0, none⟩)] w (ToldN (blocksV (ths es)) w) := by
  have p1 := paths_any a I J M es w h hk
  have hS := hk.size
  have hln : (keysE es).length = es.length := List.length_map _
  obtain ⟨ks, hks⟩ : ∃ ks, ks = keysE es := ⟨_, rfl⟩
  obtain ⟨n, hn⟩ : ∃ n, n = es.length := ⟨_, rfl⟩
  have hV := sumK_all es
  obtain ⟨V, hVV⟩ : ∃ V, V = blocksV (ths es) := ⟨_, rfl⟩
  unfold ToldP at p1
  rw [← hVV] at hV ⊢
  rw [← hks] at p1 hV hln
  rw [← hn] at p1 hV hln
  have hn5 : n ≤ 100000 := by rw [hn]; exact hk.n
  have P1 := Lib.hid p1
  have HT := Lib.hid h
  have HK := Lib.hid hk
  have HKs := Lib.hid hks
  have HV := Lib.hid hV
  have HL := Lib.hid hln
  have HS := Lib.hid (sumK_le hS ks)
  clear p1 h hk hks hn hV hVV hln hS
  go_enter Tryz.func17, Tryz.ntmps17
  go_wp2_with fail
  refine (P1.out).mono ?_
  rintro e w1 ⟨A, c, rfl, hA, hB⟩
  have HA := Lib.hid hA
  have HB := Lib.hid hB
  clear hA hB P1
  go_wp2_with fail
  go_loopw [3, 9] (fun sv iv wr => ∃ k : Nat, k ≤ n ∧ iv = .int .i64 k ∧ sv = .int .i64 (sumK (ths es) ks k) ∧ Hid (Texts wr A ks) ∧ Hid (Below w.heap.size w wr)) (fun _ iv _ => n - (intOf iv).toNat)
  case atStart => exact ⟨0, Nat.zero_le _, rfl, rfl, HA, HB⟩
  case round =>
    clear HA HB
    obtain ⟨k, hk, rfl, rfl, HA, HB⟩ := hrel
    by_cases hlt : k < n
    · have hlk : k < ks.length := by rw [HL.out]; exact hlt
      obtain ⟨b, off, rfl, hbl, hcb⟩ := Texts.at_ HA.out hlk
      obtain ⟨q, hq⟩ : ∃ q, q = ks[k] := ⟨_, rfl⟩
      rw [← hq] at hcb
      have hqm : q ∈ keysE es := by rw [hq, ← HKs.out]; exact List.getElem_mem _
      obtain ⟨y, hy, hyq⟩ := List.mem_map.1 hqm
      have P2 := Lib.hid (size_any a _ _ M es q wr (HT.out.below HB.out) HK.out (by rw [← hyq]; exact HK.out.k y hy))
      obtain ⟨z, hz⟩ : ∃ z, z = (sizeV (ths es) q : Int) := ⟨_, rfl⟩
      have hzb := HK.out.size q
      have hz0 : 0 ≤ z ∧ z ≤ 1600000 := by omega
      have hsum : sumK (ths es) ks (k + 1) = sumK (ths es) ks k + need z := by rw [sumK_succ _ hlk, hz, hq]
      rw [← hz] at P2
      have P3 := Lib.hid (fun W => tneed_any z W (by omega) (by omega))
      have b1 := (HS.out k)
      have b2 := need_le hz0.2
      have b3 := need_nonneg z
      obtain ⟨v, hv⟩ : ∃ v, v = need z := ⟨_, rfl⟩
      obtain ⟨s, hs⟩ : ∃ s, s = sumK (ths es) ks k := ⟨_, rfl⟩
      rw [← hv] at P3 hsum b2 b3
      rw [← hs] at hsum b1 ⊢
      have HSm := Lib.hid hsum
      have b4 : 0 ≤ s + v := by omega
      have b5 : s + v ≤ 9000000000 := by omega
      clear hqm hy hyq hz hzb hsum hv hs b1 hq y
      go_wp2_with fail
      refine (P2.out).mono ?_
      rintro e w2 ⟨rfl, hB2⟩
      have HA2 := Lib.hid (HA.out.below hB2)
      have HB2 := Lib.hid (HB.out.trans (hB2.mono HB.out.size))
      clear hB2 HA HB hcb
      go_wp2_with fail
      refine (P3.out _).mono ?_
      rintro e w3 ⟨rfl, rfl⟩
      go_wp2_with fail
      exact ⟨⟨k + 1, by omega, by go_num, by rw [HSm.out], HA2, HB2⟩, by simp [intOf]; omega⟩
    · obtain rfl : k = n := by omega
      go_wp2_with fail
      go_ret
      exact ⟨by rw [HV.out]; rfl, HB.out⟩
theorem blocks_nil (w : World) : Calls Tryz.prog 17 #[.pointer none] w fun e w' => e = .returned (.int .i64 0) ∧ w = w' := by
  have P1 := Lib.hid (paths_nil w)
  go_enter Tryz.func17, Tryz.ntmps17
  go_wp2_with fail
  refine (P1.out).mono ?_
  rintro e w1 ⟨rfl, rfl⟩
  go_wp2_with fail
  go_loopw [3, 9] (fun sv iv wr => sv = .int .i64 0 ∧ iv = .int .i64 0 ∧ wr = w) (fun _ _ _ => 0)
  case atStart => exact ⟨rfl, rfl, rfl⟩
  case round =>
    obtain ⟨rfl, rfl, rfl⟩ := hrel
    go_wp2_with fail
    go_ret
    exact ⟨rfl, rfl⟩

/-- What the region of over keeps. -/
def OvS (w : World) (a : Nat) (I J : Int) (w' : World) : Prop := w'.cell? ⟨a, 0, none⟩ = some (.int .i64 I) ∧ w'.cell? ⟨a, 1, none⟩ = some (.int .i64 J) ∧ Below w.heap.size w w'
theorem OvS.start {w : World} {a : Nat} {I J : Int} (h0 : w.cell? ⟨a, 0, none⟩ = some (.int .i64 I)) (h1 : w.cell? ⟨a, 1, none⟩ = some (.int .i64 J)) : OvS w a I J w.drew := ⟨h0, h1, (Below.refl _ _).drew⟩
theorem OvS.next {w w1 w2 : World} {a : Nat} {I J : Int} (h : OvS w a I J w1) (hb : Below w1.heap.size w1 w2) : OvS w a I J w2 :=
  ⟨(hb.cell (World.block_lt_of_cell? _ _ h.1)).trans h.1, (hb.cell (World.block_lt_of_cell? _ _ h.2.1)).trans h.2.1, h.2.2.trans (hb.mono h.2.2.size)⟩
theorem OvS.bel {w w1 : World} {a : Nat} {I J : Int} (h : OvS w a I J w1) : Below w.heap.size w w1 := h.2.2

set_option maxRecDepth 100000 in
set_option maxHeartbeats 4000000 in
theorem over_any (a : Nat) (I J : Int) (M : Nat) (es : List (Txt × El)) (w : World) (h : TrAt w a I J M es) (hk : KeyB es) :
    Calls Tryz.prog 27 #[.pointer (some ⟨a, 0, none⟩)] w fun e w' => e = .returned (.bool (overV I J (ths es))) ∧ Below w.heap.size w w' := by
  have hl : (ths es).length = es.length := ths_length es
  have P1 : Hid (∀ W, OvS w a I J W → Calls Tryz.prog 16 #[.pointer (some ⟨a, 0, none⟩)] W fun e w' => e = .returned (.int .i64 (es.length : Int)) ∧ Below W.heap.size W w') := fun W hW =>
    (inodes_any a I J M es W (h.below hW.bel)).mono fun e w' ⟨h1, h2⟩ => ⟨h1, by rw [h2]; exact Below.refl _ _⟩
  have P2 : Hid (∀ W, OvS w a I J W → Calls Tryz.prog 17 #[.pointer (some ⟨a, 0, none⟩)] W fun e w' => e = .returned (.int .i64 (blocksV (ths es))) ∧ Below W.heap.size W w') := fun W hW => blocks_any a I J M es W (h.below hW.bel) hk
  have P3 := Lib.hid (inodes_any a I J M es w.drew (h.below (Below.refl _ _).drew))
  have c0 := h.c0
  have c1 := h.c1
  obtain ⟨V, hV⟩ : ∃ V, V = overV I J (ths es) := ⟨_, rfl⟩
  obtain ⟨z, hz⟩ : ∃ z, z = blocksV (ths es) := ⟨_, rfl⟩
  obtain ⟨n, hn⟩ : ∃ n, n = es.length := ⟨_, rfl⟩
  have hV2 : V = (decide (I < n) || decide (J < z)) := by rw [hV, hz, hn]; unfold overV; rw [hl]
  rw [← hV]
  rw [← hz] at P2
  rw [← hn] at P1 P3
  have HS := Lib.hid (OvS.start h.c0 h.c1)
  have HV2 := Lib.hid hV2
  clear hl hV hz hn h hk hV2
  cases h1 : decide (I < (n : Int)) with
  | true =>
    have hv : V = true := by rw [HV2.out, h1]; rfl
    subst hv
    clear P1 P2 HV2
    go_enter Tryz.func27, Tryz.ntmps27
    go_wp2_with fail
    first | go_region_with (go_at_call 16; refine (P3.out).mono ?_; rintro e wO ⟨rfl, rfl⟩) | fail
    all_goals
      go_wp2_with fail
      go_ret
      exact ⟨rfl, HS.out.bel⟩
  | false =>
    have hv : V = decide (J < z) := by rw [HV2.out, h1]; rfl
    subst hv
    clear HV2 P3 c0 c1
    go_enter Tryz.func27, Tryz.ntmps27
    go_wp2_with fail
    go_region_held3 (fun w' => w'.cell? ⟨a, 0, none⟩ = some (.int .i64 I) ∧ w'.cell? ⟨a, 1, none⟩ = some (.int .i64 J) ∧ Below w.heap.size w w')
      (first | exact HS.out | exact OvS.next (by assumption) hL2 | exact OvS.next (by assumption) hL1)
      (first
        | (go_at_call 17; refine (P2.out _ (by assumption)).mono ?_; rintro e wS ⟨rfl, hL2⟩)
        | (go_at_call 16; refine (P1.out _ (by assumption)).mono ?_; rintro e wO ⟨rfl, hL1⟩))
    all_goals
      rename_i FS
      have hfin := OvS.bel FS
      clear FS
      go_wp2_with fail
      go_ret
      exact ⟨rfl, hfin⟩
end Go.Proofs.YtabecceojbeomaaGreatDoor
end

section
/- What the walk of a Tree's Do keeps. No condition. -/
namespace Go.Cat.Tree
open Go.RowKit Go.Cat Go.Cat.Dir
theorem putT_len1 {α : Type} (p : Txt) (x : α) (l : List (Txt × α)) : (putT p x l).length ≤ l.length + 1 := by
  unfold putT
  rw [ins_length]
  exact Nat.succ_le_succ (List.length_filter_le _ _)
theorem delT_len {α : Type} (p : Txt) (l : List (Txt × α)) : (delT p l).length ≤ l.length := List.length_filter_le _ _
theorem move_len (path dst : Txt) : ∀ (ps : List Txt) (l : TL), (ps.foldl (moveOne path dst) l).length ≤ l.length + ps.length
  | [], l => Nat.le_refl _
  | p :: ps, l => by
    refine Nat.le_trans (move_len path dst ps _) ?_
    have h : (moveOne path dst l p).length ≤ l.length + 1 := by
      unfold moveOne
      split
      · exact Nat.le_trans (putT_len1 _ _ _) (Nat.succ_le_succ (delT_len _ _))
      · exact Nat.le_succ _
    rw [List.length_cons]
    omega
theorem act_len (l : TL) (c : CallV) : (actV l c).1.length ≤ 2 * l.length + 1 := by
  have hp := fun p x => putT_len1 p x l
  have hd := fun p => delT_len p l
  have hm : (moveV c.path c.to l).length ≤ 2 * l.length := by
    have := move_len c.path c.to (l.map (·.1)) l
    rw [List.length_map] at this
    unfold moveV
    omega
  unfold actV
  split
  · unfold makeV
    split; split; (show l.length ≤ _; omega); split; (show l.length ≤ _; omega); exact Nat.le_trans (hp _ _) (by omega); (show l.length ≤ _; omega)
  split
  · unfold removeV
    split; split; split; (show l.length ≤ _; omega); split; (show l.length ≤ _; omega); split; (show l.length ≤ _; omega); exact Nat.le_trans (hd _) (by omega); (show l.length ≤ _; omega); (show l.length ≤ _; omega)
  split
  · unfold renameV
    split; split; split; (show l.length ≤ _; omega); split; (show l.length ≤ _; omega); split; split; (show l.length ≤ _; omega); split; (show l.length ≤ _; omega); exact Nat.le_trans hm (by omega); (show l.length ≤ _; omega); (show l.length ≤ _; omega); (show l.length ≤ _; omega)
  split
  · unfold putV
    split; (show l.length ≤ _; omega); split; split; (show l.length ≤ _; omega); split; (show l.length ≤ _; omega); exact Nat.le_trans (hp _ _) (by omega); (show l.length ≤ _; omega)
  split; rw [get_same]; omega
  split
  · unfold truncV
    split; (show l.length ≤ _; omega); split; split; (show l.length ≤ _; omega); exact Nat.le_trans (hp _ _) (by omega); (show l.length ≤ _; omega)
  split; rw [list_same]; omega
  split; rw [stat_same]; omega
  show l.length ≤ _
  omega
end Go.Cat.Tree
namespace Go.Proofs.YtabecceojbeomaaGreatDoor
open Go.RowKit Go.Cat Go.Cat.Dir Go.Cat.Tree Go.Maps
/-- What Do tells: the answer, and the tree, whose map is another one. -/
def ToldDo (r : TL × AnsV) (w : World) (a : Nat) (I J : Int) (e : Ending) (w' : World) : Prop :=
  ∃ (M' : Nat) (es' : List (Txt × El)) (B : Option Addr) (cB : Nat) (C : Option Addr) (cC : Nat), e = .returned (.agg #[.int .i64 r.2.code, .slice B r.2.data.length cB, .slice C r.2.names.length cC, .int .i64 r.2.size, .bool r.2.dir]) ∧
    Bytes w' B r.2.data ∧ Texts w' C r.2.names ∧ TrAt w' a I J M' es' ∧ ths es' = r.1 ∧ Tch (fun k => k = a) w w'
variable {w W W' : World} {a M a2 M2 N : Nat} {I J : Int} {es es2 : List (Txt × El)} {c : CallV} {A : Option Addr} {cA : Nat}
/-- Another map, of the call's own, is turned. -/
theorem MF.side (h : MF w a I J M es c A cA W) (h2 : TM W Tryz.prog 9 M2 es2) (hlo : w.heap.size + 2 ≤ M2) (ht : Tch (fun k => k = M2) W W') : MF w a I J M es c A cA W' := by
  have hl := h.lo
  obtain ⟨ms, clock, hm, _⟩ := h2.own
  have hnb : ∀ k, k = M2 → ∀ o (u : UInt8), W.cell? ⟨k, o, none⟩ ≠ some (by8 u) := fun k hk o u => by subst hk; exact no_byte_map hm o _
  exact ⟨heap_touch h.cb ht (fun e => by omega), heap_touch h.rb ht (fun e => by omega), h.tr.touch ht (fun e => by omega) (fun e => by omega) (fun e => by omega) hnb, bytes_skip h.dat ht hnb,
    ⟨ht.os.trans h.tch.os, ht.tape.trans h.tch.tape, ht.output.trans h.tch.output, Nat.le_trans h.tch.size ht.size, fun k hk hn => (ht.block k (Nat.lt_of_lt_of_le hk h.tch.size) (fun e => by omega)).trans (h.tch.block k hk hn)⟩, h.lo⟩
/-- What stands behind the call: the answer's box, the copy that was turned, the tree as it was. -/
structure DoE (w : World) (a : Nat) (I J : Int) (M : Nat) (es : List (Txt × El)) (c : CallV) (A : Option Addr) (cA : Nat) (a2 M2 : Nat) (es2 : List (Txt × El)) (B C : Option Addr) (r : AnsV) (W : World) : Prop where
  f : MF w a I J M es c A cA W
  t : TrAt W a2 I J M2 es2
  b : Bytes W B r.data
  n : Texts W C r.names
  lo : w.heap.size + 2 ≤ a2 ∧ w.heap.size + 2 ≤ M2
  bel : Below w.heap.size w W
variable {B C : Option Addr} {r : AnsV}
theorem DoE.below (h : DoE w a I J M es c A cA a2 M2 es2 B C r W) (hb : Below W.heap.size W W') : DoE w a I J M es c A cA a2 M2 es2 B C r W' :=
  ⟨h.f.below hb, h.t.below hb, h.b.below hb, h.n.below hb, h.lo, h.bel.trans (hb.mono h.bel.size)⟩
/-- A store into the answer's box. -/
theorem DoE.side (h : DoE w a I J M es c A cA a2 M2 es2 B C r W) {x0 : Int} {B0 C0 : Option Addr} {n0 cB0 m0 cC0 : Nat} {z0 : Int} {d0 : Bool} (hx : W.heap[N]? = some (.cells (ansC x0 B0 n0 cB0 C0 m0 cC0 z0 d0) 36 (0, 0))) (hlo : w.heap.size + 2 ≤ N) (hNa : N ≠ a2) (v0 v1 v2 v3 v4 : Value) :
    DoE w a I J M es c A cA a2 M2 es2 B C r (set5 W N v0 v1 v2 v3 v4) := by
  have ht := tch5B W N v0 v1 v2 v3 v4
  have hnb := no_byte_ans hx
  have hl := h.f.lo
  have hNM : N ≠ M2 := fun e => by
    obtain ⟨ms, clock, hm, _⟩ := h.t.tm.own
    rw [← e, hx] at hm
    cases hm
  have hnb' : ∀ k, k = N → ∀ o (u : UInt8), W.cell? ⟨k, o, none⟩ ≠ some (by8 u) := fun k hk o u => by subst hk; exact hnb o u
  refine ⟨⟨heap_touch h.f.cb ht (fun e => by omega), heap_touch h.f.rb ht (fun e => by omega), h.f.tr.touch ht (fun e => by omega) (fun e => by omega) (fun e => by omega) hnb', bytes_skip h.f.dat ht hnb',
    ⟨ht.os.trans h.f.tch.os, ht.tape.trans h.f.tch.tape, ht.output.trans h.f.tch.output, Nat.le_trans h.f.tch.size ht.size, fun k hk hn => (ht.block k (Nat.lt_of_lt_of_le hk h.f.tch.size) (fun e => by omega)).trans (h.f.tch.block k hk hn)⟩, h.f.lo⟩,
    h.t.touch ht (fun e => hNa e.symm) (fun e => hNM e.symm) (fun e => by omega) hnb', bytes_skip h.b ht hnb', sees_skip h.n ht (fun k hk o u hu => ?_), h.lo, h.bel.trans (ht.below h.bel.size fun k e => by omega)⟩
  obtain ⟨s, _, rfl⟩ := List.mem_map.1 hu
  subst hk
  exact no_text_ans hx o s
theorem below_doEnd (hb : Below w.heap.size w W) (v0 v1 v2 v3 v4 : Value) : Below w.heap.size w (set5 W (w.heap.size + 1) v0 v1 v2 v3 v4) := hb.trans ((tch5B W (w.heap.size + 1) v0 v1 v2 v3 v4).below hb.size fun k e => by omega)
/-- The ends: the tree as it was; the copy's map taken. -/
theorem MF.doNo (h : MF w a I J M es c A cA W) (hb : Below w.heap.size w W) (x : Int) : ToldDo (ths es, wrongV x) w a I J (.returned (.agg #[.int .i64 x, .slice none 0 0, .slice none 0 0, .int .i64 0, .bool false])) (set5 W (w.heap.size + 1) (.int .i64 x) (.slice none 0 0) (.slice none 0 0) (.int .i64 0) (.bool false)) := by
  obtain ⟨es', B, cB, C, cC, h1, h2, h3, h4, h5, _⟩ := h.no x
  exact ⟨M, es', B, cB, C, cC, h1, h2, h3, h4, h5, Tch.of_below (below_doEnd hb _ _ _ _ _)⟩
theorem no_byte_trB {g : Nat} {t : TypeId} {fr : Nat × Nat} (h : W.heap[g]? = some (.cells #[.int .i64 I, .int .i64 J, .map (some M)] t fr)) (o : Nat) (u : UInt8) : W.cell? ⟨g, o, none⟩ ≠ some (by8 u) := no_cell h (by simp [by8]) o
theorem no_text_trB {g : Nat} {t : TypeId} {fr : Nat × Nat} (h : W.heap[g]? = some (.cells #[.int .i64 I, .int .i64 J, .map (some M)] t fr)) (o : Nat) (s : Txt) : W.cell? ⟨g, o, none⟩ ≠ some (sv s) := no_cell h (by simp [sv]) o
theorem DoE.yes (h : DoE w a I J M es c A cA a2 M2 es2 B C r W) (cB cC : Nat) : ToldDo (ths es2, r) w a I J (.returned (.agg #[.int .i64 r.code, .slice B r.data.length cB, .slice C r.names.length cC, .int .i64 r.size, .bool r.dir]))
    (set5 (W.setCell ⟨a, 2, none⟩ (.map (some M2))) (w.heap.size + 1) (.int .i64 r.code) (.slice B r.data.length cB) (.slice C r.names.length cC) (.int .i64 r.size) (.bool r.dir)) := by
  obtain ⟨X, hX⟩ : ∃ X, X = W.setCell ⟨a, 2, none⟩ (.map (some M2)) := ⟨_, rfl⟩
  have ht1 : Tch (fun k => k = a) W X := by rw [hX]; exact Tch.set _ _ _ _
  have hx : X.heap[a]? = some (.cells #[.int .i64 I, .int .i64 J, .map (some M2)] 63 (0, 0)) := by rw [hX]; simpa using Go.Cat.set_block (.map (some M2)) h.f.tr.blk (i := 2)
  have hl := h.f.lo
  have hl2 := h.lo
  have hnb := no_byte_trB h.f.tr.blk
  have hnb' : ∀ k, k = a → ∀ o (u : UInt8), W.cell? ⟨k, o, none⟩ ≠ some (by8 u) := fun k hk o u => by subst hk; exact hnb o u
  have hrb := heap_touch h.f.rb ht1 (fun e => by omega)
  have ht2 := tch5B X (w.heap.size + 1) (.int .i64 r.code) (.slice B r.data.length cB) (.slice C r.names.length cC) (.int .i64 r.size) (.bool r.dir)
  have hnr := no_byte_ans hrb
  have hnr' : ∀ k, k = w.heap.size + 1 → ∀ o (u : UInt8), X.cell? ⟨k, o, none⟩ ≠ some (by8 u) := fun k hk o u => by subst hk; exact hnr o u
  rw [← hX]
  refine ⟨M2, es2, B, cB, C, cC, rfl, bytes_skip (bytes_skip h.b ht1 hnb') ht2 hnr', sees_skip (sees_skip h.n ht1 fun k hk o u hu => ?_) ht2 fun k hk o u hu => ?_, ⟨heap_touch hx ht2 (fun e => by omega), (h.t.tm.skip ht1 (fun e => by omega) hnb').skip ht2 (fun e => by omega) hnr', h.f.tr.ne, (h.f.tr.gl.touch ht1 h.f.tr.ne.symm).touch ht2 (fun e => by omega)⟩, rfl, ?_⟩
  · obtain ⟨s, _, rfl⟩ := List.mem_map.1 hu
    subst hk
    exact no_text_trB h.f.tr.blk o s
  · obtain ⟨s, _, rfl⟩ := List.mem_map.1 hu
    subst hk
    exact no_text_ans hrb o s
  · have h1 : Tch (fun k => k = a) w W := Tch.of_below h.bel
    have h2 := h1.trans ht1
    exact ⟨ht2.os.trans h2.os, ht2.tape.trans h2.tape, ht2.output.trans h2.output, Nat.le_trans h2.size ht2.size, fun k hk hn => (ht2.block k (Nat.lt_of_lt_of_le hk h2.size) (fun e => by omega)).trans (h2.block k hk hn)⟩
/-- What stands ahead of the call: the tree, and its copy. -/
structure DoD (w : World) (a : Nat) (I J : Int) (M : Nat) (es : List (Txt × El)) (c : CallV) (A : Option Addr) (cA : Nat) (a2 M2 : Nat) (es2 : List (Txt × El)) (W : World) : Prop where
  f : MF w a I J M es c A cA W
  t : TrAt W a2 I J M2 es2
  bel : Below w.heap.size w W
  lo : w.heap.size + 2 ≤ a2 ∧ w.heap.size + 2 ≤ M2
theorem DoD.below (h : DoD w a I J M es c A cA a2 M2 es2 W) (hb : Below W.heap.size W W') : DoD w a I J M es c A cA a2 M2 es2 W' := ⟨h.f.below hb, h.t.below hb, h.bel.trans (hb.mono h.bel.size), h.lo⟩
theorem DoD.alloc (h : DoD w a I J M es c A cA a2 M2 es2 W) (o : Obj) : DoD w a I J M es c A cA a2 M2 es2 (W.alloc o) := h.below ((Below.refl _ _).alloc (Nat.le_refl _) _)
/-- The cells of the call's box. -/
abbrev CallS (w : World) (c : CallV) (A : Option Addr) (cA : Nat) (W : World) : Prop :=
  W.cell? ⟨w.heap.size, 0, none⟩ = some (.int .i64 c.kind) ∧ W.cell? ⟨w.heap.size, 1, none⟩ = some (.string (bs c.path)) ∧ W.cell? ⟨w.heap.size, 2, none⟩ = some (.string (bs c.to)) ∧ W.cell? ⟨w.heap.size, 3, none⟩ = some (.int .i64 c.off) ∧ W.cell? ⟨w.heap.size, 4, none⟩ = some (.int .i64 c.n) ∧ W.cell? ⟨w.heap.size, 5, none⟩ = some (.slice A c.data.length cA)
theorem MF.callS (h : MF w a I J M es c A cA W) : CallS w c A cA W := h.facts.1
theorem ans_facts (h : W.heap[N]? = some (.cells (ansC 0 none 0 0 none 0 0 0 false) 36 (0, 0))) : (W.cell? ⟨N, 0, none⟩ = some (.int .i64 0) ∧ W.cell? ⟨N, 1, none⟩ = some (.slice none 0 0) ∧ W.cell? ⟨N, 2, none⟩ = some (.slice none 0 0) ∧ W.cell? ⟨N, 3, none⟩ = some (.int .i64 0) ∧ W.cell? ⟨N, 4, none⟩ = some (.bool false)) ∧
    (W.frozen? ⟨N, 0, none⟩ = false ∧ W.frozen? ⟨N, 1, none⟩ = false ∧ W.frozen? ⟨N, 2, none⟩ = false ∧ W.frozen? ⟨N, 3, none⟩ = false ∧ W.frozen? ⟨N, 4, none⟩ = false) ∧ N < W.heap.size :=
  ⟨⟨cell_of_row _ _ 0 _ _ _ h, cell_of_row _ _ 1 _ _ _ h, cell_of_row _ _ 2 _ _ _ h, cell_of_row _ _ 3 _ _ _ h, cell_of_row _ _ 4 _ _ _ h⟩, ⟨frozen_of_row _ _ 0 _ _ h, frozen_of_row _ _ 1 _ _ h, frozen_of_row _ _ 2 _ _ h, frozen_of_row _ _ 3 _ _ h, frozen_of_row _ _ 4 _ _ h⟩, heap_lt h⟩
/-- What the call tells, in the words of Do. -/
def ToldE (w : World) (a : Nat) (I J : Int) (M : Nat) (es : List (Txt × El)) (c : CallV) (A : Option Addr) (cA : Nat) (a2 M2 : Nat) (r : TL × AnsV) (W : World) (e : Ending) (w' : World) : Prop :=
  ∃ (es5 : List (Txt × El)) (B : Option Addr) (cB : Nat) (C : Option Addr) (cC : Nat), e = .returned (.agg #[.int .i64 r.2.code, .slice B r.2.data.length cB, .slice C r.2.names.length cC, .int .i64 r.2.size, .bool r.2.dir]) ∧ ths es5 = r.1 ∧ DoE w a I J M es c A cA a2 M2 es5 B C r.2 w' ∧
    ∀ N : Nat, W.heap[N]? = some (.cells (ansC 0 none 0 0 none 0 0 0 false) 36 (0, 0)) → w'.heap[N]? = some (.cells (ansC 0 none 0 0 none 0 0 0 false) 36 (0, 0))
theorem DoD.act {f : FuncId} {r : TL × AnsV} (h : DoD w a I J M es c A cA a2 M2 es2 W) (hc : Calls Tryz.prog f #[.pointer (some ⟨a2, 0, none⟩), .agg (callC c A cA)] W (ToldA r W a2 I J M2)) : Calls Tryz.prog f #[.pointer (some ⟨a2, 0, none⟩), .agg (callC c A cA)] W (ToldE w a I J M es c A cA a2 M2 r W) :=
  hc.mono fun e w' ⟨es5, B, cB, C, cC, h1, h2, h3, h4, h5, h6⟩ => by
    have hl := h.lo
    refine ⟨es5, B, cB, C, cC, h1, h5, ⟨h.f.side h.t.tm h.lo.2 h6, h4, h2, h3, h.lo, h.bel.trans (h6.below h.bel.size fun k e => by omega)⟩, fun N hN => heap_touch hN h6 fun e => ?_⟩
    obtain ⟨ms, clock, hm, _⟩ := h.t.tm.own
    rw [← e, hN] at hm
    cases hm
/-- Each kind's function is entered. -/
theorem enter_kind (k : Int) : ∀ args w, (callFunc (kindF k) args).run Tryz.prog w = .ok (.enter (kindF k) args) w := by
  unfold kindF
  split; exact enters_of Tryz.func49 (by kernel_rfl) rfl
  split; exact enters_of Tryz.func50 (by kernel_rfl) rfl
  split; exact enters_of Tryz.func51 (by kernel_rfl) rfl
  split; exact enters_of Tryz.func52 (by kernel_rfl) rfl
  split; exact enters_of Tryz.func53 (by kernel_rfl) rfl
  split; exact enters_of Tryz.func54 (by kernel_rfl) rfl
  split; exact enters_of Tryz.func55 (by kernel_rfl) rfl
  split; exact enters_of Tryz.func56 (by kernel_rfl) rfl
  exact enters_of Tryz.func57 (by kernel_rfl) rfl
end Go.Proofs.YtabecceojbeomaaGreatDoor
end

section
/- The contract of a Tree's Do. Condition: a tree's things stand in directories; at most 1000 of them; the paths' lengths below 2^31. -/
namespace Go.Proofs.YtabecceojbeomaaGreatDoor
open Go.RowKit Go.Cat Go.Cat.Dir Go.Cat.Tree Go.Maps
set_option maxRecDepth 100000 in
theorem do_nil (v : Value) (c : CallV) (A : Option Addr) (cA : Nat) (w : World) (hv : v = .agg (callC c A cA)) :
    Calls Tryz.prog 10 #[.pointer none, v] w fun e w' => e = .returned (.agg #[.int .i64 2, .slice none 0 0, .slice none 0 0, .int .i64 0, .bool false]) ∧ Below w.heap.size w w' := by
  subst hv
  have P9 := Lib.hid (wrong_any 2 ((w.alloc (.cells (callC c A cA) 33)).alloc (.cells (ansC 0 none 0 0 none 0 0 0 false) 36)))
  have hb : Below w.heap.size w ((w.alloc (.cells (callC c A cA) 33)).alloc (.cells (ansC 0 none 0 0 none 0 0 0 false) 36)) := ((Below.refl _ _).alloc (Nat.le_refl _) _).alloc (by simp) _
  have hx := heap_alloc_new (w.alloc (.cells (callC c A cA) 33)) (.cells (ansC 0 none 0 0 none 0 0 0 false) 36)
  have HB := Lib.hid hb
  have hx2 : ((w.alloc (.cells (callC c A cA) 33)).alloc (.cells (ansC 0 none 0 0 none 0 0 0 false) 36)).heap[w.heap.size + 1]? = some (.cells (ansC 0 none 0 0 none 0 0 0 false) 36 (0, 0)) := by simpa using hx
  have HX := Lib.hid hx2
  clear hb hx hx2
  go_enter Tryz.func10, Tryz.ntmps10
  go_wp2_with fail
  refine (P9.out).mono ?_
  rintro e w9 ⟨rfl, hB9⟩
  have hr := heap_below HX.out hB9
  have r0 : w9.cell? ⟨w.heap.size + 1, 0, none⟩ = some (.int .i64 0) := cell_of_row _ _ 0 _ _ _ hr
  have r1 : w9.cell? ⟨w.heap.size + 1, 1, none⟩ = some (.slice none 0 0) := cell_of_row _ _ 1 _ _ _ hr
  have r2 : w9.cell? ⟨w.heap.size + 1, 2, none⟩ = some (.slice none 0 0) := cell_of_row _ _ 2 _ _ _ hr
  have r3 : w9.cell? ⟨w.heap.size + 1, 3, none⟩ = some (.int .i64 0) := cell_of_row _ _ 3 _ _ _ hr
  have r4 : w9.cell? ⟨w.heap.size + 1, 4, none⟩ = some (.bool false) := cell_of_row _ _ 4 _ _ _ hr
  have q0 := frozen_of_row w9 _ 0 _ _ hr
  have q1 := frozen_of_row w9 _ 1 _ _ hr
  have q2 := frozen_of_row w9 _ 2 _ _ hr
  have q3 := frozen_of_row w9 _ 3 _ _ hr
  have q4 := frozen_of_row w9 _ 4 _ _ hr
  have HR := Lib.hid hr
  have HB9 := Lib.hid (HB.out.trans (hB9.mono HB.out.size))
  clear hr hB9
  go_wp2_with fail
  refine bodyPost_ret (ret_ans rfl (by rfl) (set5B _ _ _ _ _ HR.out)) rfl ?_
  exact ⟨rfl, below_doEnd HB9.out _ _ _ _ _⟩

set_option maxRecDepth 100000 in
set_option maxHeartbeats 8000000 in
theorem do_any (a : Nat) (I J : Int) (M : Nat) (es : List (Txt × El)) (c : CallV) (A : Option Addr) (cA : Nat) (w : World) (h : TrAt w a I J M es) (hA : Bytes w A c.data) (hi : Inv (ths es)) (hn : es.length ≤ 1000) (hp : c.path.length < 4294967281) (hto : c.to.length < 4294967281) :
    Calls Tryz.prog 10 #[.pointer (some ⟨a, 0, none⟩), .agg (callC c A cA)] w (ToldDo (doV I J (ths es) c) w a I J) := by
  have hF := MF.start h hA cA
  have hF0 : Below w.heap.size w ((w.alloc (.cells (callC c A cA) 33)).alloc (.cells (ansC 0 none 0 0 none 0 0 0 false) 36)) := ((Below.refl _ _).alloc (Nat.le_refl _) _).alloc (by simp) _
  have hsz : ((w.alloc (.cells (callC c A cA) 33)).alloc (.cells (ansC 0 none 0 0 none 0 0 0 false) 36)).heap.size = w.heap.size + 2 := by simp
  have p1 := copy_any a I J M es _ hF.tr (keyB_inv hi (by omega))
  have p2 := fun W => of_any c.kind W
  have p3 := fun a2 M2 es2 W (ht : TrAt W a2 I J M2 es2) (hd : Bytes W A c.data) (he : ths es2 = ths es) => act_any a2 I J M2 es2 c A cA W ht hd (by rw [he]; exact hi) (by have := congrArg List.length he; rw [ths_length, ths_length] at this; omega) hp hto
  obtain ⟨V, hV⟩ : ∃ V, V = doV I J (ths es) c := ⟨_, rfl⟩
  rw [← hV]
  have hal := act_len (ths es) c
  have hai := act_inv hi c
  obtain ⟨r, hr⟩ : ∃ r, r = actV (ths es) c := ⟨_, rfl⟩
  unfold doV at hV
  have p3' := fun a2 M2 es2 W ht hd (he : ths es2 = ths es) => by have := p3 a2 M2 es2 W ht hd he; rw [he] at this; exact this
  rw [← hr] at hV hal hai
  rw [← hr] at p3'
  have P1 := Lib.hid p1
  have P2 := Lib.hid p2
  have P3 := Lib.hid p3'
  have HV := Lib.hid hV
  have HF := Lib.hid hF
  have HF0 := Lib.hid hF0
  have HSz := Lib.hid hsz
  have HAl : Hid (r.1.length ≤ 2001) := by show _ ≤ _; rw [ths_length] at hal; omega
  have HAi := Lib.hid hai
  clear h hA hi hn hp hto p1 p2 p3 p3' hV hF hF0 hsz hal hai hr
  go_enter Tryz.func10, Tryz.ntmps10
  go_wp2_with fail
  refine (P1.out).mono ?_
  rintro e w3 ⟨a2, M2, es2, rfl, hT3, he2, ha2, hM2, hB3⟩
  have HF3 := Lib.hid (HF.out.below hB3)
  have HB3 := Lib.hid (HF0.out.trans (hB3.mono HF0.out.size))
  have HT3 := Lib.hid hT3
  have HE2 := Lib.hid he2
  rw [HSz.out] at ha2 hM2
  have HLo := Lib.hid (And.intro ha2 hM2)
  clear hT3 he2 ha2 hM2 hB3 P1 HF HF0 HSz
  obtain ⟨⟨k0, k1, k2, k3, k4, k5⟩, ⟨r0, r1, r2, r3, r4⟩, ⟨q0, q1, q2, q3, q4⟩, c2⟩ := HF3.out.facts
  have hD3 : DoD w a I J M es c A cA a2 M2 es2 w3 := ⟨HF3.out, HT3.out, HB3.out, HLo.out⟩
  have HD3 := Lib.hid hD3
  have HS3 : Hid (CallS w c A cA w3.drew) := hD3.f.callS
  have HSa3 : Hid (∀ o, CallS w c A cA (w3.alloc o).drew) := fun o => (hD3.alloc o).f.callS
  have G1 : Hid (∀ W, Below (w3.alloc (.cells (ansC 0 none 0 0 none 0 0 0 false) 36)).drew.heap.size (w3.alloc (.cells (ansC 0 none 0 0 none 0 0 0 false) 36)).drew W → DoD w a I J M es c A cA a2 M2 es2 W ∧ W.heap[w3.heap.size]? = some (.cells (ansC 0 none 0 0 none 0 0 0 false) 36 (0, 0))) := fun W hW =>
    ⟨(hD3.alloc _).below (drew_below hW), heap_below (heap_alloc_new w3 _) (drew_below hW)⟩
  have G2 : Hid (∀ W, Below w3.drew.heap.size w3.drew W → DoD w a I J M es c A cA a2 M2 es2 W) := fun W hW => hD3.below (drew_below hW)
  have HAct : Hid (∀ W, DoD w a I J M es c A cA a2 M2 es2 W → Calls Tryz.prog (kindF c.kind) #[.pointer (some ⟨a2, 0, none⟩), .agg (callC c A cA)] W (ToldE w a I J M es c A cA a2 M2 r W)) := fun W hW => hW.act (P3.out a2 M2 es2 W hW.t hW.f.dat HE2.out)
  clear hD3 r0 r1 r2 r3 r4 q0 q1 q2 q3 q4 c2 HF3 HB3 HT3 P3
  have hent := enter_kind c.kind
  go_wp2_with fail
  go_region_held3 (fun U => U.cell? ⟨w.heap.size, 0, none⟩ = some (.int .i64 c.kind) ∧ U.cell? ⟨w.heap.size, 1, none⟩ = some (.string (bs c.path)) ∧ U.cell? ⟨w.heap.size, 2, none⟩ = some (.string (bs c.to)) ∧ U.cell? ⟨w.heap.size, 3, none⟩ = some (.int .i64 c.off) ∧ U.cell? ⟨w.heap.size, 4, none⟩ = some (.int .i64 c.n) ∧ U.cell? ⟨w.heap.size, 5, none⟩ = some (.slice A c.data.length cA))
    (first | with_reducible exact HSs5.out _ _ _ _ _ | with_reducible exact HSa5.out _ | with_reducible exact HS5.out | with_reducible exact HSa4.out _ | with_reducible exact HS4.out | with_reducible exact HSa3.out _ | with_reducible exact HS3.out)
    (first
      | (go_at_call 26; first
          | ((with_reducible refine (P2.out (w3.alloc (.cells (ansC 0 none 0 0 none 0 0 0 false) 36)).drew).mono ?_); rintro e w4 ⟨rfl, hB4⟩; obtain ⟨hD4, hx4⟩ := G1.out w4 hB4; have HS4 := Lib.hid hD4.f.callS; have HD4 := Lib.hid hD4; have HX4 := Lib.hid hx4; clear hB4 hD4 hx4)
          | ((with_reducible refine (P2.out w3.drew).mono ?_); rintro e w4 ⟨rfl, hB4⟩; have hD4 := G2.out w4 hB4; have HS4 := Lib.hid hD4.f.callS; have HSa4 := Lib.hid (fun o => (hD4.alloc o).f.callS); have HD4 := Lib.hid hD4; clear hB4 hD4))
      | ((with_reducible refine (HAct.out (w4.alloc (.cells (ansC 0 none 0 0 none 0 0 0 false) 36)) (HD4.out.alloc _)).mono ?_); rintro e w5 ⟨es5, B, cB, C, cC, rfl, he5, hE5, hk5⟩; have hx5 := hk5 _ (heap_alloc_new w4 (.cells (ansC 0 none 0 0 none 0 0 0 false) 36)); obtain ⟨⟨s0, s1, s2, s3, s4⟩, ⟨y0, y1, y2, y3, y4⟩, y5⟩ := ans_facts hx5; have HSs5 := Lib.hid (fun v0 v1 v2 v3 v4 => (hE5.side hx5 (by have := HD4.out.f.lt; omega) (fun e => by have := HD4.out.t.lt; omega) v0 v1 v2 v3 v4).f.callS); have HX5 := Lib.hid hx5; have HS5 := Lib.hid hE5.f.callS; have HSa5 := Lib.hid (fun o => (hE5.below ((Below.refl _ w5).alloc (Nat.le_refl _) o)).f.callS); have HE5 := Lib.hid hE5; have He5 := Lib.hid he5; clear hE5 hk5 he5; clear hx5)
      | ((with_reducible refine (HAct.out w4 HD4.out).mono ?_); rintro e w5 ⟨es5, B, cB, C, cC, rfl, he5, hE5, hk5⟩; have hx5 := hk5 _ HX4.out; obtain ⟨⟨s0, s1, s2, s3, s4⟩, ⟨y0, y1, y2, y3, y4⟩, y5⟩ := ans_facts hx5; have HSs5 := Lib.hid (fun v0 v1 v2 v3 v4 => (hE5.side hx5 (by have := HD3.out.f.lt; omega) (fun e => by have := HD3.out.t.lt; omega) v0 v1 v2 v3 v4).f.callS); have HX5 := Lib.hid hx5; have HS5 := Lib.hid hE5.f.callS; have HSa5 := Lib.hid (fun o => (hE5.below ((Below.refl _ w5).alloc (Nat.le_refl _) o)).f.callS); have HE5 := Lib.hid hE5; have He5 := Lib.hid he5; clear hE5 hk5 he5; clear hx5)
      | ((with_reducible refine (HAct.out w4 HD4.out).mono ?_); rintro e w5 ⟨es5, B, cB, C, cC, rfl, he5, hE5, hk5⟩; have HS5 := Lib.hid hE5.f.callS; have HSa5 := Lib.hid (fun o => (hE5.below ((Below.refl _ w5).alloc (Nat.le_refl _) o)).f.callS); have HE5 := Lib.hid hE5; have He5 := Lib.hid he5; clear hE5 hk5 he5))
  all_goals
    rename_i FS
    clear FS
    first
      | (have hxq : w5.heap[w4.heap.size]? = some (.cells (ansC 0 none 0 0 none 0 0 0 false) 36 (0, 0)) := HX5.out
         have hlo6 : w.heap.size + 2 ≤ w4.heap.size := by have := HD4.out.f.lt; omega
         have hE6 := HE5.out.side hxq hlo6 (fun e => by have := HD4.out.t.lt; omega) (.int .i64 r.2.code) (.slice B r.2.data.length cB) (.slice C r.2.names.length cC) (.int .i64 r.2.size) (.bool r.2.dir)
         have hx6 := set5B (.int .i64 r.2.code) (.slice B r.2.data.length cB) (.slice C r.2.names.length cC) (.int .i64 r.2.size) (.bool r.2.dir) hxq
         clear hxq
         unfold set5 at hE6 hx6
         generalize ((((w5.setCell ⟨w4.heap.size, 0, none⟩ (.int .i64 r.2.code)).setCell ⟨w4.heap.size, 1, none⟩ (.slice B r.2.data.length cB)).setCell ⟨w4.heap.size, 2, none⟩ (.slice C r.2.names.length cC)).setCell ⟨w4.heap.size, 3, none⟩ (.int .i64 r.2.size)).setCell ⟨w4.heap.size, 4, none⟩ (.bool r.2.dir) = W6 at hE6 hx6 ⊢
         generalize w4.heap.size = N6 at hx6 hlo6 ⊢)
      | (have hxq : w5.heap[w3.heap.size]? = some (.cells (ansC 0 none 0 0 none 0 0 0 false) 36 (0, 0)) := HX5.out
         have hlo6 : w.heap.size + 2 ≤ w3.heap.size := by have := HD3.out.f.lt; omega
         have hE6 := HE5.out.side hxq hlo6 (fun e => by have := HD3.out.t.lt; omega) (.int .i64 r.2.code) (.slice B r.2.data.length cB) (.slice C r.2.names.length cC) (.int .i64 r.2.size) (.bool r.2.dir)
         have hx6 := set5B (.int .i64 r.2.code) (.slice B r.2.data.length cB) (.slice C r.2.names.length cC) (.int .i64 r.2.size) (.bool r.2.dir) hxq
         clear hxq
         unfold set5 at hE6 hx6
         generalize ((((w5.setCell ⟨w3.heap.size, 0, none⟩ (.int .i64 r.2.code)).setCell ⟨w3.heap.size, 1, none⟩ (.slice B r.2.data.length cB)).setCell ⟨w3.heap.size, 2, none⟩ (.slice C r.2.names.length cC)).setCell ⟨w3.heap.size, 3, none⟩ (.int .i64 r.2.size)).setCell ⟨w3.heap.size, 4, none⟩ (.bool r.2.dir) = W6 at hE6 hx6 ⊢
         generalize w3.heap.size = N6 at hx6 hlo6 ⊢)
      | (have hlo6 : w.heap.size + 2 ≤ w5.heap.size := by have := HE5.out.f.lt; omega
         have hE6 := HE5.out.below ((Below.refl _ w5).alloc (Nat.le_refl _) (.cells #[.int .i64 r.2.code, .slice B r.2.data.length cB, .slice C r.2.names.length cC, .int .i64 r.2.size, .bool r.2.dir] 36))
         have hx6 := heap_alloc_new w5 (.cells #[.int .i64 r.2.code, .slice B r.2.data.length cB, .slice C r.2.names.length cC, .int .i64 r.2.size, .bool r.2.dir] 36)
         generalize w5.alloc (.cells #[.int .i64 r.2.code, .slice B r.2.data.length cB, .slice C r.2.names.length cC, .int .i64 r.2.size, .bool r.2.dir] 36) = W6 at hE6 hx6 ⊢
         generalize w5.heap.size = N6 at hx6 hlo6 ⊢)
      | fail
    have HE6 := Lib.hid hE6
    have HX6 := Lib.hid hx6
    have HLo6 := Lib.hid hlo6
    obtain ⟨⟨k0, k1, k2, k3, k4, k5⟩, ⟨r0, r1, r2, r3, r4⟩, ⟨q0, q1, q2, q3, q4⟩, c2⟩ := hE6.f.facts
    have x0 : W6.cell? ⟨N6, 0, none⟩ = some (.int .i64 r.2.code) := cell_of_row _ _ 0 _ _ _ hx6
    have x1 : W6.cell? ⟨N6, 1, none⟩ = some (.slice B r.2.data.length cB) := cell_of_row _ _ 1 _ _ _ hx6
    have x2 : W6.cell? ⟨N6, 2, none⟩ = some (.slice C r.2.names.length cC) := cell_of_row _ _ 2 _ _ _ hx6
    have x3 : W6.cell? ⟨N6, 3, none⟩ = some (.int .i64 r.2.size) := cell_of_row _ _ 3 _ _ _ hx6
    have x4 : W6.cell? ⟨N6, 4, none⟩ = some (.bool r.2.dir) := cell_of_row _ _ 4 _ _ _ hx6
    have d2 := hE6.t.c2
    have z2 := hE6.f.tr.f2

    clear hE6 hx6 hent hlo6
    by_cases hc : r.2.code = 0
    · have t0 : (r.2.code != 0) = false := by rw [hc]; rfl
      rw [if_pos hc] at HV
      have PT := Lib.hid (turns_any c.kind W6)
      obtain ⟨tv, htv⟩ : ∃ tv, tv = turnsV c.kind := ⟨_, rfl⟩
      rw [← htv] at PT HV
      clear hc htv
      go_wp2_with fail
      refine (PT.out).mono ?_
      rintro e w7 ⟨rfl, rfl⟩
      cases tv with
      | true =>
        rw [Bool.true_and] at HV
        have p4 := over_any a2 I J M2 es5 W6 HE6.out.t (keyB_inv (by rw [He5.out]; exact HAi.out) (by have h1 : r.1.length ≤ 2001 := HAl.out; have h2 := congrArg List.length He5.out; rw [ths_length] at h2; omega))
        rw [He5.out] at p4
        obtain ⟨ov, hov⟩ : ∃ ov, ov = overV I J r.1 := ⟨_, rfl⟩
        rw [← hov] at p4 HV
        have P4 := Lib.hid p4
        clear p4 hov
        go_wp2_with fail
        refine (P4.out).mono ?_
        rintro e w8 ⟨rfl, hB8⟩
        have hE8 := HE6.out.below hB8
        have hx8 := heap_below HX6.out hB8
        clear k0 k1 k2 k3 k4 k5 r0 r1 r2 r3 r4 q0 q1 q2 q3 q4 c2 x0 x1 x2 x3 x4 d2 z2 hB8
        have HE8 := Lib.hid hE8
        have HX8 := Lib.hid hx8
        obtain ⟨⟨k0, k1, k2, k3, k4, k5⟩, ⟨r0, r1, r2, r3, r4⟩, ⟨q0, q1, q2, q3, q4⟩, c2⟩ := hE8.f.facts
        have x0 : w8.cell? ⟨N6, 0, none⟩ = some (.int .i64 r.2.code) := cell_of_row _ _ 0 _ _ _ hx8
        have x1 : w8.cell? ⟨N6, 1, none⟩ = some (.slice B r.2.data.length cB) := cell_of_row _ _ 1 _ _ _ hx8
        have x2 : w8.cell? ⟨N6, 2, none⟩ = some (.slice C r.2.names.length cC) := cell_of_row _ _ 2 _ _ _ hx8
        have x3 : w8.cell? ⟨N6, 3, none⟩ = some (.int .i64 r.2.size) := cell_of_row _ _ 3 _ _ _ hx8
        have x4 : w8.cell? ⟨N6, 4, none⟩ = some (.bool r.2.dir) := cell_of_row _ _ 4 _ _ _ hx8
        have d2 := hE8.t.c2
        have z2 := hE8.f.tr.f2

        clear hE8 hx8
        cases ov with
        | true =>
          have hl : V = (ths es, wrongV 16) := HV.out
          have HL := Lib.hid hl
          clear hl
          have P9 := Lib.hid (wrong_any 16 w8)
          go_wp2_with fail
          refine (P9.out).mono ?_
          rintro e w9 ⟨rfl, hB9⟩
          have hF9 := HE8.out.f.below hB9
          have HB9 := Lib.hid (HE8.out.bel.trans (hB9.mono HE8.out.bel.size))
          clear k0 k1 k2 k3 k4 k5 r0 r1 r2 r3 r4 q0 q1 q2 q3 q4 c2 x0 x1 x2 x3 x4 d2 z2 hB9
          obtain ⟨⟨k0, k1, k2, k3, k4, k5⟩, ⟨r0, r1, r2, r3, r4⟩, ⟨q0, q1, q2, q3, q4⟩, c2⟩ := hF9.facts
          have HF9 := Lib.hid hF9
          clear hF9
          go_wp2_with fail
          refine bodyPost_ret (ret_ans rfl (by rfl) (set5B _ _ _ _ _ HF9.out.rb)) rfl ?_
          rw [HL.out]
          exact HF9.out.doNo HB9.out 16

        | false =>
          have hl : V = (ths es5, r.2) := by rw [HV.out, He5.out]; rfl
          have HL := Lib.hid hl
          clear hl
          have hT := Tch.set w8 a 2 (.map (some M2))
          have hxX := heap_touch HX8.out hT (fun e => by have := HE8.out.f.lo; have := HLo6.out; omega)
          have hrX := heap_touch HE8.out.f.rb hT (fun e => by have := HE8.out.f.lo; omega)
          have hyes := HE8.out.yes cB cC
          go_upto_region 10 with (fail)
          clear hT k0 k1 k2 k3 k4 k5 r0 r1 r2 r3 r4 q0 q1 q2 q3 q4 c2 x0 x1 x2 x3 x4 d2 z2
          generalize w8.setCell ⟨a, 2, none⟩ (.map (some M2)) = X at hxX hrX hyes ⊢
          have x0 : X.cell? ⟨N6, 0, none⟩ = some (.int .i64 r.2.code) := cell_of_row _ _ 0 _ _ _ hxX
          have x1 : X.cell? ⟨N6, 1, none⟩ = some (.slice B r.2.data.length cB) := cell_of_row _ _ 1 _ _ _ hxX
          have x2 : X.cell? ⟨N6, 2, none⟩ = some (.slice C r.2.names.length cC) := cell_of_row _ _ 2 _ _ _ hxX
          have x3 : X.cell? ⟨N6, 3, none⟩ = some (.int .i64 r.2.size) := cell_of_row _ _ 3 _ _ _ hxX
          have x4 : X.cell? ⟨N6, 4, none⟩ = some (.bool r.2.dir) := cell_of_row _ _ 4 _ _ _ hxX
          have r0 : X.cell? ⟨w.heap.size + 1, 0, none⟩ = some (.int .i64 0) := cell_of_row _ _ 0 _ _ _ hrX
          have r1 : X.cell? ⟨w.heap.size + 1, 1, none⟩ = some (.slice none 0 0) := cell_of_row _ _ 1 _ _ _ hrX
          have r2 : X.cell? ⟨w.heap.size + 1, 2, none⟩ = some (.slice none 0 0) := cell_of_row _ _ 2 _ _ _ hrX
          have r3 : X.cell? ⟨w.heap.size + 1, 3, none⟩ = some (.int .i64 0) := cell_of_row _ _ 3 _ _ _ hrX
          have r4 : X.cell? ⟨w.heap.size + 1, 4, none⟩ = some (.bool false) := cell_of_row _ _ 4 _ _ _ hrX
          have q0 := frozen_of_row X _ 0 _ _ hrX
          have q1 := frozen_of_row X _ 1 _ _ hrX
          have q2 := frozen_of_row X _ 2 _ _ hrX
          have q3 := frozen_of_row X _ 3 _ _ hrX
          have q4 := frozen_of_row X _ 4 _ _ hrX
          have HRX := Lib.hid hrX
          have HYes := Lib.hid hyes
          clear hxX hrX hyes
          go_wp2_with fail
          refine bodyPost_ret (ret_ans rfl (by rfl) (set5B _ _ _ _ _ HRX.out)) rfl ?_
          rw [HL.out]
          exact HYes.out

      | false =>
        have hl : V = (ths es5, r.2) := by rw [HV.out, He5.out]; rfl
        have HL := Lib.hid hl
        clear hl
        have hT := Tch.set W6 a 2 (.map (some M2))
        have hxX := heap_touch HX6.out hT (fun e => by have := HE6.out.f.lo; have := HLo6.out; omega)
        have hrX := heap_touch HE6.out.f.rb hT (fun e => by have := HE6.out.f.lo; omega)
        have hyes := HE6.out.yes cB cC
        go_upto_region 10 with (fail)
        clear hT k0 k1 k2 k3 k4 k5 r0 r1 r2 r3 r4 q0 q1 q2 q3 q4 c2 x0 x1 x2 x3 x4 d2 z2
        generalize W6.setCell ⟨a, 2, none⟩ (.map (some M2)) = X at hxX hrX hyes ⊢
        have x0 : X.cell? ⟨N6, 0, none⟩ = some (.int .i64 r.2.code) := cell_of_row _ _ 0 _ _ _ hxX
        have x1 : X.cell? ⟨N6, 1, none⟩ = some (.slice B r.2.data.length cB) := cell_of_row _ _ 1 _ _ _ hxX
        have x2 : X.cell? ⟨N6, 2, none⟩ = some (.slice C r.2.names.length cC) := cell_of_row _ _ 2 _ _ _ hxX
        have x3 : X.cell? ⟨N6, 3, none⟩ = some (.int .i64 r.2.size) := cell_of_row _ _ 3 _ _ _ hxX
        have x4 : X.cell? ⟨N6, 4, none⟩ = some (.bool r.2.dir) := cell_of_row _ _ 4 _ _ _ hxX
        have r0 : X.cell? ⟨w.heap.size + 1, 0, none⟩ = some (.int .i64 0) := cell_of_row _ _ 0 _ _ _ hrX
        have r1 : X.cell? ⟨w.heap.size + 1, 1, none⟩ = some (.slice none 0 0) := cell_of_row _ _ 1 _ _ _ hrX
        have r2 : X.cell? ⟨w.heap.size + 1, 2, none⟩ = some (.slice none 0 0) := cell_of_row _ _ 2 _ _ _ hrX
        have r3 : X.cell? ⟨w.heap.size + 1, 3, none⟩ = some (.int .i64 0) := cell_of_row _ _ 3 _ _ _ hrX
        have r4 : X.cell? ⟨w.heap.size + 1, 4, none⟩ = some (.bool false) := cell_of_row _ _ 4 _ _ _ hrX
        have q0 := frozen_of_row X _ 0 _ _ hrX
        have q1 := frozen_of_row X _ 1 _ _ hrX
        have q2 := frozen_of_row X _ 2 _ _ hrX
        have q3 := frozen_of_row X _ 3 _ _ hrX
        have q4 := frozen_of_row X _ 4 _ _ hrX
        have HRX := Lib.hid hrX
        have HYes := Lib.hid hyes
        clear hxX hrX hyes
        go_wp2_with fail
        refine bodyPost_ret (ret_ans rfl (by rfl) (set5B _ _ _ _ _ HRX.out)) rfl ?_
        rw [HL.out]
        exact HYes.out

    · have t0 : (r.2.code != 0) = true := by simpa using hc
      have hl : V = (ths es, wrongV r.2.code) := by rw [HV.out, if_neg hc]
      have HL := Lib.hid hl
      clear hl hc
      have P9 := Lib.hid (wrong_any r.2.code W6)
      go_wp2_with fail
      refine (P9.out).mono ?_
      rintro e w9 ⟨rfl, hB9⟩
      have hF9 := HE6.out.f.below hB9
      have HB9 := Lib.hid (HE6.out.bel.trans (hB9.mono HE6.out.bel.size))
      clear k0 k1 k2 k3 k4 k5 r0 r1 r2 r3 r4 q0 q1 q2 q3 q4 c2 x0 x1 x2 x3 x4 d2 z2 hB9
      obtain ⟨⟨k0, k1, k2, k3, k4, k5⟩, ⟨r0, r1, r2, r3, r4⟩, ⟨q0, q1, q2, q3, q4⟩, c2⟩ := hF9.facts
      have HF9 := Lib.hid hF9
      clear hF9
      go_wp2_with fail
      refine bodyPost_ret (ret_ans rfl (by rfl) (set5B _ _ _ _ _ HF9.out.rb)) rfl ?_
      rw [HL.out]
      exact HF9.out.doNo HB9.out r.2.code
end Go.Proofs.YtabecceojbeomaaGreatDoor
end
