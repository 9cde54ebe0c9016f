/- The contracts of the parts TrRRow, TrRWo, TrRPut, TrRNames, TrRFull, TrRBlocks, TrRAt, TrRFind, in one text. Conditions: those told at each part. -/
import Derived.Test.YtabecceojbeomaaGreatDoorTrCalls
import Derived.Test.YtabecceojbeomaaGreatDoorFlat
import Derived.Test.YtabecceojbeomaaGreatDoorApp
import Derived.Test.YtabecceojbeomaaGreatDoorHeap
import Derived.Test.YtabecceojbeomaaGreatDoorTch
import Derived.BigQuiet
import Derived.Test.YtabecceojbeomaaGreatDoorDirUnder
section
/- Rows of the reference's things in memory; the reference's at: what stands at a path. Conditions: at most 1000000 things. -/
namespace Go.Cat.Tree
open Go.RowKit Go.Cat Go.Cat.Dir
/-- A reference's thing, as it lies in a row. -/
def rthC (y : Txt × El) : List Value := [.string (bs y.1), .bool y.2.1.dir, .slice y.2.2.1 y.2.1.b.length y.2.2.2]
theorem rthC_len (y : Txt × El) : (rthC y).length = 3 := rfl
/-- A row of things that a slice shows. -/
structure RT (w : World) (A : Option Addr) (c : Nat) (es : List (Txt × El)) : Prop where
  see : Sees w A (es.flatMap rthC)
  all : ∀ y ∈ es, ElAt w y.2
  len : es.length ≤ c
  cap : c ≤ maxLen
variable {w w' : World} {A : Option Addr} {c : Nat} {es : List (Txt × El)}
theorem RT.below (h : RT w A c es) (hb : Below w.heap.size w w') : RT w' A c es := ⟨Sees.below h.see hb, fun y hy => (h.all y hy).below hb, h.len, h.cap⟩
theorem blk_in {B : Nat} {W0 wr : World} {g : Nat} {x : Obj} (hb : Below B W0 wr) (h : W0.heap[g]? = some x) (hg : g < B) : wr.heap[g]? = some x := (hb.block g hg).trans h
theorem rth_no_byte {K : Nat → Prop} (hK : ∀ k, K k → ∀ o v, w.cell? ⟨k, o, none⟩ = some v → ∀ y : Txt × El, v ∉ rthC y) (ht : Tch K w w') (h : Sees w A (es.flatMap rthC)) : Sees w' A (es.flatMap rthC) := by
  rcases h with h | ⟨b, off, hA, hc⟩
  · exact .inl h
  · refine .inr ⟨b, off, hA, fun j u hu => ?_⟩
    have h1 := hc j u hu
    have hg : ¬ K b := fun hg => by
      obtain ⟨y, _, hy⟩ := List.mem_flatMap.1 (List.mem_of_getElem? hu)
      exact hK b hg _ u h1 y hy
    exact (World.cell?_of_block (ht.block b (World.block_lt_of_cell? w _ h1) hg)).trans h1
/-- The cells of the thing at a place. -/
theorem RT.at_ (h : RT w A c es) {k : Nat} (hk : k < es.length) {y : Txt × El} (hy : y = es[k]) : ∃ b off, A = some ⟨b, off, none⟩ ∧ b < w.heap.size ∧
    ∀ W, Below w.heap.size w W → W.cell? ⟨b, off + k * 3, none⟩ = some (.string (bs y.1)) ∧ W.cell? ⟨b, off + k * 3 + 1, none⟩ = some (.bool y.2.1.dir) ∧ W.cell? ⟨b, off + k * 3 + 2, none⟩ = some (.slice y.2.2.1 y.2.1.b.length y.2.2.2) := by
  obtain ⟨b, off, hA, hb, hc⟩ := h.see.elem (f := rthC) (k := 3) (fun _ => rfl) (by omega) (by omega)
  refine ⟨b, off, hA, hb, fun W hW => ?_⟩
  have e := fun j (hj : j < 3) => (hW.cell (p := ⟨b, off + (k * 3 + j), none⟩) hb).trans (hc k hk j hj)
  rw [← hy] at e
  simp only [← Nat.add_assoc] at e
  exact ⟨e 0 (by omega), e 1 (by omega), e 2 (by omega)⟩
/-- The row behind some things. -/
theorem RT.drop_at {b off k : Nat} (h : RT w (some ⟨b, off, none⟩) c es) (hk : k ≤ es.length) (hb : Below w.heap.size w w') : Sees w' (some ⟨b, off + k * 3, none⟩) ((es.drop k).flatMap rthC) := by
  refine Sees.below ?_ hb
  by_cases h0 : 0 < es.length
  · obtain ⟨b', off', hA, _, hc⟩ := h.see.elem (f := rthC) (k := 3) (fun _ => rfl) (by omega) h0
    injection hA with hA
    injection hA with h1 h2
    subst h1 h2
    refine Sees.flat_mk (k := 3) (fun _ => rfl) (by omega) fun i hi j hj => ?_
    rw [List.length_drop] at hi
    have := hc (k + i) (by omega) j hj
    rw [List.getElem_drop, show off + k * 3 + (i * 3 + j) = off + ((k + i) * 3 + j) by rw [Nat.add_mul]; omega]
    exact this
  · exact .inl (by rw [List.eq_nil_of_length_eq_zero (by omega : es.length = 0)]; simp)
/-- The root, as the reference makes it. -/
def rootE : El := (⟨true, []⟩, none, 0)
/-- What the reference's at finds. -/
def getR (p : Txt) (es : List (Txt × El)) : Option El := if p = [47] then some rootE else getT p es
theorem ElAt.root (w : World) : ElAt w rootE := ⟨.inl rfl, Nat.le_refl _, Nat.zero_le _⟩
theorem getT_at {α : Type} {l : List (Txt × α)} {p : Txt} {k : Nat} (hk : k < l.length) (hn : ∀ j (hj : j < l.length), j < k → l[j].1 ≠ p) (he : l[k].1 = p) : getT p l = some l[k].2 := by
  unfold getT
  have : l.find? (fun y => y.1 == p) = some l[k] := by
    rw [List.find?_eq_some_iff_getElem]
    exact ⟨by simpa using he, k, hk, rfl, fun j hj => by simpa using hn j (by omega) hj⟩
  rw [this]
  rfl
theorem getT_not {α : Type} {l : List (Txt × α)} {p : Txt} (hn : ∀ j (hj : j < l.length), j < l.length → l[j].1 ≠ p) : getT p l = none := get_none.2 fun y hy => by
  obtain ⟨j, hj, e⟩ := List.mem_iff_getElem.1 hy
  rw [← e]; exact hn j hj hj
end Go.Cat.Tree
namespace Go.Proofs.YtabecceojbeomaaGreatDoor
open Go.RowKit Go.Cat Go.Cat.Dir Go.Cat.Tree
/-- A thing with its path, as a value, and as boxed cells. -/
abbrev rtC (p : Txt) (x : El) : Array Value := #[.string (bs p), .bool x.1.dir, .slice x.2.1 x.1.b.length x.2.2]
theorem info_rth : (Tryz.prog.info? 80).map (fun i => (i.zero, i.size, i.bytes)) = some (some (.agg #[.string ByteArray.empty, .bool false, .slice none 0 0]), 3, 48) := by kernel_rfl
theorem elem_rth : Elem Tryz.prog 51 80 (.agg #[.string ByteArray.empty, .bool false, .slice none 0 0]) 3 48 := ⟨Tryz.underlying51, info_rth, rfl, by decide, by decide⟩
/-- Results that are structs: they are read out of their boxes. -/
theorem ret_rth {w : World} {fn : Func} {p u : Tmp} (h : fn.results = #[.cell p 80, .tmp u]) {tmps : Array Value} {g : Nat} {x y z : Value} {fr : Nat × Nat} (hp : tmps.getD p undef = .pointer (some ⟨g, 0, none⟩)) (hg : w.heap[g]? = some (.cells #[x, y, z] 80 fr)) :
    (results fn tmps).run Tryz.prog w = .ok (.tuple #[.agg #[x, y, z], tmps.getD u undef]) w := by
  have hp' : tmps[p]?.getD undef = .pointer (some ⟨g, 0, none⟩) := by simpa using hp
  simp [results, h, hp', asAddr, run_loadVar_row w g _ _ _ _ _ hg Tryz.underlying80 rfl (by kernel_rfl)]
theorem ret_rtr {w : World} {fn : Func} {p : Tmp} (h : fn.results = #[.cell p 53]) {tmps : Array Value} {g : Nat} {x y z : Value} {fr : Nat × Nat} (hp : tmps.getD p undef = .pointer (some ⟨g, 0, none⟩)) (hg : w.heap[g]? = some (.cells #[x, y, z] 53 fr)) :
    (results fn tmps).run Tryz.prog w = .ok (.agg #[x, y, z]) w := by
  have hp' : tmps[p]?.getD undef = .pointer (some ⟨g, 0, none⟩) := by simpa using hp
  simp [results, h, hp', asAddr, run_loadVar_row w g _ _ _ _ _ hg Tryz.underlying53 rfl (by kernel_rfl)]
theorem ret_rta {w : World} {fn : Func} {p q : Tmp} (h : fn.results = #[.cell p 53, .cell q 36]) {tmps : Array Value} {g k : Nat} {x y z a0 a1 a2 a3 a4 : Value} {fr fr2 : Nat × Nat} (hp : tmps.getD p undef = .pointer (some ⟨g, 0, none⟩)) (hg : w.heap[g]? = some (.cells #[x, y, z] 53 fr))
    (hq : tmps.getD q undef = .pointer (some ⟨k, 0, none⟩)) (hk : w.heap[k]? = some (.cells #[a0, a1, a2, a3, a4] 36 fr2)) :
    (results fn tmps).run Tryz.prog w = .ok (.tuple #[.agg #[x, y, z], .agg #[a0, a1, a2, a3, a4]]) w := by
  have hp' : tmps[p]?.getD undef = .pointer (some ⟨g, 0, none⟩) := by simpa using hp
  have hq' : tmps[q]?.getD undef = .pointer (some ⟨k, 0, none⟩) := by simpa using hq
  simp [results, h, hp', hq', asAddr, run_loadVar_row w g _ _ _ _ _ hg Tryz.underlying53 rfl (by kernel_rfl), run_loadVar_row w k _ _ _ _ _ hk Tryz.underlying36 rfl (by kernel_rfl)]
/-- What tells a tree of the reference's. -/
def ToldRT (I J : Int) (es : List (Txt × El)) (w : World) (e : Ending) (w' : World) : Prop := ∃ A c, e = .returned (.agg #[.int .i64 I, .int .i64 J, .slice A es.length c]) ∧ RT w' A c es ∧ Below w.heap.size w w'
theorem tch3B (w : World) (g : Nat) (x y z : Value) : Tch (fun k => k = g) w (((w.setCell ⟨g, 0, none⟩ x).setCell ⟨g, 1, none⟩ y).setCell ⟨g, 2, none⟩ z) := ((Tch.set _ _ _ _).trans (Tch.set _ _ _ _)).trans (Tch.set _ _ _ _)
theorem RT.own {W W' : World} {es : List (Txt × El)} {B r c2 e : Nat} {A2 : Option Addr} {K : Nat → Prop} (ho : W.ownsRow B e 3 (.slice A2 r c2) r (es.flatMap rthC)) (hr : r = es.length) (ht : Tch K W W') (hK : ∀ k, K k → k < B) (hall : ∀ y ∈ es, ElAt W' y.2) : RT W' A2 c2 es := by
  have h2 := own_touch ho ht fun k hk hk2 => by have := (ho.lt k hk).1; have := hK k hk2; omega
  obtain ⟨_, _, e1, h3, h4⟩ := own_full ho
  injection e1 with _ _ e1
  exact ⟨ownN_sees h2, hall, by omega, by omega⟩
theorem one_rth (y : Txt × El) : ∀ u ∈ rthC y, u.oneCell' = true := fun u hu => by
  unfold rthC at hu
  simp only [List.mem_cons, List.not_mem_nil, or_false] at hu
  rcases hu with rfl | rfl | rfl <;> rfl
theorem one_rths (es : List (Txt × El)) : ∀ u ∈ es.flatMap rthC, u.oneCell' = true := fun u hu => by
  obtain ⟨y, _, h⟩ := List.mem_flatMap.1 hu
  exact one_rth y u h
theorem rths_snoc (es : List (Txt × El)) (y : Txt × El) : (es ++ [y]).flatMap rthC = es.flatMap rthC ++ rthC y := by rw [List.flatMap_append]; simp
/-- What at tells. -/
def ToldAt (r : Option El) (p : Txt) (w : World) (e : Ending) (w' : World) : Prop := e = .returned (.tuple #[.agg (rtC (if r.isSome then p else []) (r.getD zeroE)), .bool r.isSome]) ∧ ElAt w' (r.getD zeroE) ∧ Below w.heap.size w w'
end Go.Proofs.YtabecceojbeomaaGreatDoor
end

section
/- The contract of the reference's without. Conditions: at most 1000000 things. -/
namespace Go.Cat.Tree
open Go.RowKit Go.Cat Go.Cat.Dir
theorem del_snoc {α : Type} {es : List (Txt × α)} {k : Nat} (hk : k < es.length) (p : Txt) : delT p (es.take (k + 1)) = if es[k].1 = p then delT p (es.take k) else delT p (es.take k) ++ [es[k]] := by
  rw [List.take_succ_eq_append_getElem hk]
  unfold delT
  rw [List.filter_append]
  by_cases h : es[k].1 = p
  · rw [if_pos h, List.filter_cons_of_neg (by simpa using h), List.filter_nil, List.append_nil]
  · rw [if_neg h, List.filter_cons_of_pos (by simpa using h), List.filter_nil]
theorem del_le {α : Type} (p : Txt) (l : List (Txt × α)) : (delT p l).length ≤ l.length := List.length_filter_le _ _
end Go.Cat.Tree
namespace Go.Proofs.YtabecceojbeomaaGreatDoor
open Go.RowKit Go.Cat Go.Cat.Dir Go.Cat.Tree

set_option maxRecDepth 100000 in
set_option maxHeartbeats 4000000 in
theorem rwo_any (I J : Int) (A : Option Addr) (es : List (Txt × El)) (c : Nat) (p : Txt) (w : World) (h : RT w A c es) (hn : es.length ≤ 1000000) :
    Calls Tryz.prog 64 #[.agg #[.int .i64 I, .int .i64 J, .slice A es.length c], .string (bs p)] w (ToldRT I J (delT p es) w) := by
  have HRT := Lib.hid h
  obtain ⟨n, hnn⟩ : ∃ n, n = es.length := ⟨_, rfl⟩
  have HN := Lib.hid hnn
  rw [← hnn] at hn ⊢
  have h1 : Below w.heap.size w (w.alloc (.cells #[.int .i64 I, .int .i64 J, .slice A n c] 53)) := (Below.refl _ _).alloc (Nat.le_refl _) _
  obtain ⟨W0, hW0⟩ : ∃ W0, W0 = (w.alloc (.cells #[.int .i64 I, .int .i64 J, .slice A n c] 53)).alloc (.cells #[.int .i64 0, .int .i64 0, .slice none 0 0] 53) := ⟨_, rfl⟩
  have h2 : Below (w.heap.size + 1) (w.alloc (.cells #[.int .i64 I, .int .i64 J, .slice A n c] 53)) W0 := by rw [hW0]; exact (Below.refl _ _).alloc (by simp) _
  have HT0 := Lib.hid (blk_in h2 (heap_alloc_new w (.cells #[.int .i64 I, .int .i64 J, .slice A n c] 53)) (Nat.lt_succ_self _))
  have hr0 : W0.heap[w.heap.size + 1]? = some (.cells #[.int .i64 0, .int .i64 0, .slice none 0 0] 53 (0, 0)) := by
    have := heap_alloc_new (w.alloc (.cells #[.int .i64 I, .int .i64 J, .slice A n c] 53)) (.cells #[.int .i64 0, .int .i64 0, .slice none 0 0] 53)
    rw [← hW0] at this
    simpa using this
  have HR0 := Lib.hid hr0
  have HB0 := Lib.hid (h1.trans (h2.mono (Nat.le_succ _)))
  have HS0 : Hid (W0.heap.size = w.heap.size + 2) := by show _ = _; rw [hW0]; simp
  have HW0 := Lib.hid hW0
  clear hnn h h1 h2 hr0 hW0
  go_enter Tryz.func64, Tryz.ntmps64
  go_upto_region 1 with (fail)
  rw [← HW0.out]
  clear HW0
  go_wp2_with fail
  go_loopw [5, 6] (fun ov iv wr => ∃ (k r : Nat) (A2 : Option Addr) (c2 : Nat), k ≤ n ∧ r ≤ k ∧ iv = .int .i64 k ∧ ov = .slice A2 r c2 ∧ Hid (r = (delT p (es.take k)).length) ∧ Hid (wr.ownsRow (w.heap.size + 2) 80 3 (.slice A2 r c2) r ((delT p (es.take k)).flatMap rthC)) ∧ Hid (Below (w.heap.size + 2) W0 wr)) (fun _ iv _ => n - (intOf iv).toNat)
  case atStart => exact ⟨0, 0, none, 0, Nat.zero_le _, Nat.le_refl _, rfl, rfl, rfl, World.ownsRow_nil _ _ _ _, Below.refl _ _⟩
  case round =>
    obtain ⟨k, r, A2, c2, hk, hrk, rfl, rfl, HRk, HO, HB⟩ := hrel
    have t0 : wr.cell? ⟨w.heap.size, 0, none⟩ = some (.int .i64 I) := cell_of_row _ _ 0 _ _ _ (blk_in HB.out HT0.out (by omega))
    have t1 : wr.cell? ⟨w.heap.size, 1, none⟩ = some (.int .i64 J) := cell_of_row _ _ 1 _ _ _ (blk_in HB.out HT0.out (by omega))
    have t2 : wr.cell? ⟨w.heap.size, 2, none⟩ = some (.slice A n c) := cell_of_row _ _ 2 _ _ _ (blk_in HB.out HT0.out (by omega))
    have HBw := Lib.hid (HB0.out.trans (HB.out.mono (show w.heap.size ≤ w.heap.size + 2 by omega)))
    have HSz : Hid (w.heap.size + 2 ≤ wr.heap.size) := by show _ ≤ _; have := HB.out.size; rw [HS0.out] at this; exact this
    by_cases hlt : k < n
    · have hkl : k < es.length := by have := HN.out; omega
      obtain ⟨y, hy⟩ : ∃ y, y = es[k] := ⟨_, rfl⟩
      obtain ⟨b, off, rfl, hb, hc⟩ := HRT.out.at_ hkl hy
      obtain ⟨e0, e1, e2⟩ := hc wr HBw.out
      have hd := del_snoc hkl p
      rw [← hy] at hd
      have hkI : (k : Int) < (n : Int) := by omega
      have hk0 : (0 : Int) ≤ (k : Int) := by omega
      clear hy hc hb hkl
      by_cases he : y.1 = p
      · have d2 : ((bs y.1).toList == (bs p).toList) = true := by rw [he]; simp
        rw [if_pos he] at hd
        rw [← hd] at HRk HO
        clear he hd
        go_wp2_with fail
        go_roundw
        case rel => exact ⟨k + 1, r, A2, c2, by omega, by omega, by go_num, rfl, HRk, HO, HB⟩
        case measure => simp [intOf]; omega
      · have d2 : ((bs y.1).toList == (bs p).toList) = false := by rw [bs_toList, bs_toList]; simpa using he
        rw [if_neg he] at hd
        have HD := Lib.hid hd
        have HOa := Lib.hid (World.ownsRow.alloc HO.out (.cells #[.string (bs y.1), .bool y.2.1.dir, .slice y.2.2.1 y.2.1.b.length y.2.2.2] 80))
        have HBa := Lib.hid (HB.out.alloc HSz.out (.cells #[.string (bs y.1), .bool y.2.1.dir, .slice y.2.2.1 y.2.1.b.length y.2.2.2] 80))
        have HSza : Hid (w.heap.size + 2 ≤ (wr.alloc (.cells #[.string (bs y.1), .bool y.2.1.dir, .slice y.2.2.1 y.2.1.b.length y.2.2.2] 80)).heap.size) := by show _ ≤ _; have := HSz.out; simp; omega
        clear he hd
        go_wp2_with (at_builtin; refine wpList_app elem_rth rfl _ _ rfl (w.heap.size + 2) (.slice A2 r c2) r ((delT p (es.take k)).flatMap rthC) rfl HOa.out (some ⟨_, 0, none⟩) 1 1 (rthC y) rfl (sees_new _ _ _) rfl (one_rth _) (by omega) HSza.out ?_)
        intro v3 w3 hown hgr _
        obtain ⟨A3, c3, rfl, _, _⟩ := own_full hown
        have HB3 := Lib.hid (HBa.out.own HOa.out hgr HSza.out (Nat.le_refl _))
        have ho3 : w3.ownsRow (w.heap.size + 2) 80 3 (.slice A3 (r + 1) c3) (r + 1) ((delT p (es.take (k + 1))).flatMap rthC) := by rw [HD.out, rths_snoc]; exact hown
        have HO3 := Lib.hid ho3
        have HR3 : Hid (r + 1 = (delT p (es.take (k + 1))).length) := by show _ = _; rw [HD.out, List.length_append, ← HRk.out]; rfl
        clear hown hgr ho3 t0 t1 t2 e0 e1 e2
        go_wp2_with fail
        go_roundw
        case rel => exact ⟨k + 1, r + 1, A3, c3, by omega, by omega, by go_num, rfl, HR3, HO3, HB3⟩
        case measure => simp [intOf]; omega
    · obtain rfl : k = n := by omega
      have u2 := frozen_of_row wr w.heap.size 2 _ _ (blk_in HB.out HT0.out (by omega))
      have v0 := frozen_of_row wr (w.heap.size + 1) 0 _ _ (blk_in HB.out HR0.out (by omega))
      have v1 := frozen_of_row wr (w.heap.size + 1) 1 _ _ (blk_in HB.out HR0.out (by omega))
      have v2 := frozen_of_row wr (w.heap.size + 1) 2 _ _ (blk_in HB.out HR0.out (by omega))
      have s0 : wr.cell? ⟨w.heap.size + 1, 0, none⟩ = some (.int .i64 0) := cell_of_row _ _ 0 _ _ _ (blk_in HB.out HR0.out (by omega))
      have s1 : wr.cell? ⟨w.heap.size + 1, 1, none⟩ = some (.int .i64 0) := cell_of_row _ _ 1 _ _ _ (blk_in HB.out HR0.out (by omega))
      have s2 : wr.cell? ⟨w.heap.size + 1, 2, none⟩ = some (.slice none 0 0) := cell_of_row _ _ 2 _ _ _ (blk_in HB.out HR0.out (by omega))
      go_wp2_with fail
      refine bodyPost_ret (ret_rtr rfl (by rfl) (set3_block _ _ _ ((set_other _ (by omega)).trans (blk_in HB.out HR0.out (by omega))))) rfl ?_
      have ht : Tch (fun k => k = w.heap.size ∨ k = w.heap.size + 1) wr ((((wr.setCell ⟨w.heap.size, 2, none⟩ (.slice A2 r c2)).setCell ⟨w.heap.size + 1, 0, none⟩ (.int .i64 I)).setCell ⟨w.heap.size + 1, 1, none⟩ (.int .i64 J)).setCell ⟨w.heap.size + 1, 2, none⟩ (.slice A2 r c2)) :=
        ((Tch.set _ _ _ _).mono fun _ _ h => .inl h).trans ((tch3B _ _ _ _ _).mono fun _ _ h => .inr h)
      have hbw := HBw.out.trans (ht.below HBw.out.size fun k e => by omega)
      have hO := HO.out
      have hR := HRk.out
      rw [HN.out, List.take_length] at hO hR
      subst hR
      exact ⟨A2, c2, rfl, RT.own hO rfl ht (fun k e => by omega) (fun y hy => (HRT.out.all y (del_mem.1 hy).1).below hbw), hbw⟩
end Go.Proofs.YtabecceojbeomaaGreatDoor
end

section
/- The contract of the reference's put. Conditions: rising things, at most 1000000. -/
namespace Go.Cat.Tree
open Go.RowKit Go.Cat Go.Cat.Dir
theorem less_bef : ∀ a b : Txt, Op.bytesLess a b = bytesBefore a b
  | [], [] => by unfold Op.bytesLess bytesBefore; rfl
  | _ :: _, [] => by unfold Op.bytesLess bytesBefore; rfl
  | [], _ :: _ => by unfold Op.bytesLess bytesBefore; rfl
  | a :: x, b :: y => by unfold Op.bytesLess bytesBefore; rw [less_bef x y]
variable {α : Type} {es : List (Txt × α)} {p : Txt} {x : α} {k j : Nat}
theorem put_form (hr : Rise es) (_ : k ≤ j) (ha : ∀ i (hi : i < es.length), i < k → Lt es[i].1 p) (hm : ∀ i (hi : i < es.length), k ≤ i → i < j → es[i].1 = p) (hb : ∀ i (hi : i < es.length), j ≤ i → Lt p es[i].1) : putT p x es = es.take k ++ [(p, x)] ++ es.drop j := by
  have h1 : ∀ z ∈ es.take k, Lt z.1 p := fun z hz => by
    obtain ⟨i, hi, rfl⟩ := List.mem_iff_getElem.1 hz
    rw [List.getElem_take]
    rw [List.length_take] at hi
    exact ha i (by omega) (by omega)
  have h2 : ∀ z ∈ es.drop j, Lt p z.1 := fun z hz => by
    obtain ⟨i, hi, rfl⟩ := List.mem_iff_getElem.1 hz
    rw [List.getElem_drop]
    rw [List.length_drop] at hi
    exact hb (j + i) (by omega) (by omega)
  refine rise_ext (hr.put p x) ?_ fun z => ?_
  · rw [List.append_assoc]
    refine List.pairwise_append.2 ⟨hr.sublist (List.take_sublist _ _), rise_cons.2 ⟨h2, hr.sublist (List.drop_sublist _ _)⟩, fun u hu v hv => ?_⟩
    rcases List.mem_cons.1 hv with rfl | hv
    · exact h1 u hu
    · exact lt_trans (h1 u hu) (h2 v hv)
  · rw [put_mem]
    simp only [List.mem_append, List.mem_cons, List.not_mem_nil, or_false]
    constructor
    · rintro (h | ⟨h, hn⟩)
      · exact .inl (.inr h)
      · obtain ⟨i, hi, rfl⟩ := List.mem_iff_getElem.1 h
        by_cases h3 : i < k
        · exact .inl (.inl (List.mem_take_iff_getElem.2 ⟨i, by omega, rfl⟩))
        · by_cases h4 : i < j
          · exact absurd (hm i hi (by omega) h4) hn
          · exact .inr (List.mem_drop_iff_getElem.2 ⟨i - j, by omega, by congr 1; omega⟩)
    · rintro ((h | h) | h)
      · exact .inr ⟨List.mem_of_mem_take h, lt_ne (h1 z h)⟩
      · exact .inl h
      · exact .inr ⟨List.mem_of_mem_drop h, fun e => lt_ne (h2 z h) e.symm⟩
theorem put_le (p : Txt) (x : α) (es : List (Txt × α)) : (putT p x es).length ≤ es.length + 1 := by
  unfold putT
  rw [ins_length]
  have := del_le p es
  omega
theorem rise_at (hr : Rise es) {i j : Nat} (hij : i < j) (hj : j < es.length) : Lt es[i].1 es[j].1 := List.pairwise_iff_getElem.1 hr i j (by omega) hj hij
end Go.Cat.Tree
namespace Go.Proofs.YtabecceojbeomaaGreatDoor
open Go.RowKit Go.Cat Go.Cat.Dir Go.Cat.Tree

theorem rput_end {w W0 w5 : World} {I J : Int} {A A5 : Option Addr} {c c5 k n m r : Nat} {es tl : List (Txt × El)} {p : Txt} {x : El} (hB0 : Below w.heap.size w W0) (hB : Below (w.heap.size + 3) W0 w5) (hRT : RT w A c es) (hX : ElAt w x)
    (hF : putT p x es = es.take k ++ [(p, x)] ++ tl) (hl : (tl.flatMap rthC).length = m * 3) (hN : n = es.length) {hk : k ≤ n} (ho : w5.ownsRow (w.heap.size + 3) 80 3 (.slice A5 r c5) r ((es.take k).flatMap rthC ++ (rthC (p, x) ++ tl.flatMap rthC))) (hr : r = k + 1 + m) :
    ToldRT I J (putT p x es) w (.returned (.agg #[.int .i64 I, .int .i64 J, .slice A5 r c5])) ((((w5.setCell ⟨w.heap.size, 2, none⟩ (.slice A5 r c5)).setCell ⟨w.heap.size + 2, 0, none⟩ (.int .i64 I)).setCell ⟨w.heap.size + 2, 1, none⟩ (.int .i64 J)).setCell ⟨w.heap.size + 2, 2, none⟩ (.slice A5 r c5)) := by
  have ht : Tch (fun k => k = w.heap.size ∨ k = w.heap.size + 2) w5 ((((w5.setCell ⟨w.heap.size, 2, none⟩ (.slice A5 r c5)).setCell ⟨w.heap.size + 2, 0, none⟩ (.int .i64 I)).setCell ⟨w.heap.size + 2, 1, none⟩ (.int .i64 J)).setCell ⟨w.heap.size + 2, 2, none⟩ (.slice A5 r c5)) :=
    ((Tch.set _ _ _ _).mono fun _ _ h => .inl h).trans ((tch3B _ _ _ _ _).mono fun _ _ h => .inr h)
  have hb5 := hB0.trans (hB.mono (show w.heap.size ≤ w.heap.size + 3 by omega))
  have hbw := hb5.trans (ht.below hb5.size fun k e => by omega)
  have hlen : (putT p x es).length = k + 1 + m := by
    rw [flat_length rthC_len] at hl
    rw [hF, List.length_append, List.length_append, List.length_take, List.length_singleton]
    omega
  subst hr
  have ho2 : w5.ownsRow (w.heap.size + 3) 80 3 (.slice A5 (k + 1 + m) c5) (k + 1 + m) ((putT p x es).flatMap rthC) := by
    rw [hF, List.flatMap_append (ys := tl), rths_snoc, List.append_assoc]
    exact ho
  exact ⟨A5, c5, by rw [hlen], RT.own ho2 hlen.symm ht (fun k e => by omega) (fun y hy => by
    rcases put_mem.1 hy with rfl | ⟨h, _⟩
    · exact hX.below hbw
    · exact (hRT.all y h).below hbw), hbw⟩

set_option maxRecDepth 100000 in
set_option maxHeartbeats 8000000 in
theorem rput_any (I J : Int) (A : Option Addr) (es : List (Txt × El)) (c : Nat) (p : Txt) (x : El) (w : World) (h : RT w A c es) (hx : ElAt w x) (hr : Rise es) (hn : es.length ≤ 1000000) :
    Calls Tryz.prog 40 #[.agg #[.int .i64 I, .int .i64 J, .slice A es.length c], .agg (rtC p x)] w (ToldRT I J (putT p x es) w) := by
  have HRT := Lib.hid h
  have HX := Lib.hid hx
  have HRise := Lib.hid hr
  have hlc := h.len
  have hcm := h.cap
  unfold maxLen at hcm
  obtain ⟨n, hnn⟩ : ∃ n, n = es.length := ⟨_, rfl⟩
  have HN := Lib.hid hnn
  rw [← hnn] at hn hlc ⊢
  have h1 : Below w.heap.size w (w.alloc (.cells #[.int .i64 I, .int .i64 J, .slice A n c] 53)) := (Below.refl _ _).alloc (Nat.le_refl _) _
  obtain ⟨W1, hW1⟩ : ∃ W1, W1 = (w.alloc (.cells #[.int .i64 I, .int .i64 J, .slice A n c] 53)).alloc (.cells (rtC p x) 80) := ⟨_, rfl⟩
  obtain ⟨W0, hW0⟩ : ∃ W0, W0 = W1.alloc (.cells #[.int .i64 0, .int .i64 0, .slice none 0 0] 53) := ⟨_, rfl⟩
  have hs1 : W1.heap.size = w.heap.size + 2 := by rw [hW1]; simp
  have h2 : Below (w.heap.size + 1) (w.alloc (.cells #[.int .i64 I, .int .i64 J, .slice A n c] 53)) W1 := by rw [hW1]; exact (Below.refl _ _).alloc (by simp) _
  have h3 : Below (w.heap.size + 2) W1 W0 := by rw [hW0]; exact (Below.refl _ _).alloc (by omega) _
  have HT0 := Lib.hid (blk_in h3 (blk_in h2 (heap_alloc_new w (.cells #[.int .i64 I, .int .i64 J, .slice A n c] 53)) (Nat.lt_succ_self _)) (by omega))
  have hx0 : W1.heap[w.heap.size + 1]? = some (.cells (rtC p x) 80 (0, 0)) := by
    have := heap_alloc_new (w.alloc (.cells #[.int .i64 I, .int .i64 J, .slice A n c] 53)) (.cells (rtC p x) 80)
    rw [← hW1] at this
    simpa using this
  have HX0 := Lib.hid (blk_in h3 hx0 (by omega))
  have hr0 : W0.heap[w.heap.size + 2]? = some (.cells #[.int .i64 0, .int .i64 0, .slice none 0 0] 53 (0, 0)) := by
    have := heap_alloc_new W1 (.cells #[.int .i64 0, .int .i64 0, .slice none 0 0] 53)
    rw [← hW0, hs1] at this
    exact this
  have HR0 := Lib.hid hr0
  have HB0 := Lib.hid ((h1.trans (h2.mono (Nat.le_succ _))).trans (h3.mono (by omega)))
  have HS0 : Hid (W0.heap.size = w.heap.size + 3) := by show _ = _; rw [hW0]; simp [hs1]
  have HW0 : Hid (W0 = ((w.alloc (.cells #[.int .i64 I, .int .i64 J, .slice A n c] 53)).alloc (.cells (rtC p x) 80)).alloc (.cells #[.int .i64 0, .int .i64 0, .slice none 0 0] 53)) := by show _ = _; rw [hW0, hW1]
  clear hnn h h1 h2 h3 hx0 hr0 hW0 hW1 hs1 hx hr
  go_enter Tryz.func40, Tryz.ntmps40
  go_upto_region 1 with (fail)
  rw [← HW0.out, show w.heap.size + 1 + 1 = w.heap.size + 2 from rfl]
  clear HW0
  go_wp2_with fail
  go_loopw [5, 6] (fun ov iv wr => ∃ (k : Nat) (A2 : Option Addr) (c2 : Nat), k ≤ n ∧ iv = .int .i64 k ∧ ov = .slice A2 k c2 ∧ Hid (∀ j (hj : j < es.length), j < k → Lt es[j].1 p) ∧ Hid (wr.ownsRow (w.heap.size + 3) 80 3 (.slice A2 k c2) k ((es.take k).flatMap rthC)) ∧ Hid (Below (w.heap.size + 3) W0 wr)) (fun _ iv _ => n - (intOf iv).toNat)
  case atStart => exact ⟨0, none, 0, Nat.zero_le _, rfl, rfl, fun j _ h => absurd h (Nat.not_lt_zero j), World.ownsRow_nil _ _ _ _, Below.refl _ _⟩
  case round =>
    obtain ⟨k, A2, c2, hk, rfl, rfl, HA, HO, HB⟩ := hrel
    have t0 : wr.cell? ⟨w.heap.size, 0, none⟩ = some (.int .i64 I) := cell_of_row _ _ 0 _ _ _ (blk_in HB.out HT0.out (by omega))
    have t1 : wr.cell? ⟨w.heap.size, 1, none⟩ = some (.int .i64 J) := cell_of_row _ _ 1 _ _ _ (blk_in HB.out HT0.out (by omega))
    have t2 : wr.cell? ⟨w.heap.size, 2, none⟩ = some (.slice A n c) := cell_of_row _ _ 2 _ _ _ (blk_in HB.out HT0.out (by omega))
    have x0 : wr.cell? ⟨w.heap.size + 1, 0, none⟩ = some (.string (bs p)) := cell_of_row _ _ 0 _ _ _ (blk_in HB.out HX0.out (by omega))
    have HBw := Lib.hid (HB0.out.trans (HB.out.mono (show w.heap.size ≤ w.heap.size + 3 by omega)))
    have HSz : Hid (w.heap.size + 3 ≤ wr.heap.size) := by show _ ≤ _; have := HB.out.size; rw [HS0.out] at this; exact this
    by_cases hlt : k < n
    · have hkl : k < es.length := by have := HN.out; omega
      obtain ⟨y, hy⟩ : ∃ y, y = es[k] := ⟨_, rfl⟩
      obtain ⟨b, off, rfl, hb, hc⟩ := HRT.out.at_ hkl hy
      have HRow := Lib.hid hc
      obtain ⟨e0, e1, e2⟩ := hc wr HBw.out
      have hkI : (k : Int) < (n : Int) := by omega
      have hk0 : (0 : Int) ≤ (k : Int) := by omega
      have HY := Lib.hid hy
      clear hy hc hb
      cases hls : bytesBefore y.1 p with
      | true =>
        have dl : Op.bytesLess (bs y.1).toList (bs p).toList = true := by rw [bs_toList, bs_toList, less_bef]; exact hls
        have HA2 : Hid (∀ j (hj : j < es.length), j < k + 1 → Lt es[j].1 p) := fun j hj hjk => by
          by_cases h : j < k
          · exact HA.out j hj h
          · obtain rfl : j = k := by omega
            rw [← HY.out]; exact hls
        have HTk : Hid (es.take (k + 1) = es.take k ++ [y]) := by show _ = _; rw [HY.out]; exact List.take_succ_eq_append_getElem hkl
        clear hls HY hkl
        go_wp2_with fail
        go_quiet (fail)
        have HBq := Lib.hid (below_drewN HB.out nq)
        have HOq := Lib.hid (own_dN HO.out nq)
        obtain ⟨wq, hwq⟩ : ∃ wq, wq = wr.drewN nq := ⟨_, rfl⟩
        have HSzq : Hid (w.heap.size + 3 ≤ wq.heap.size) := by show _ ≤ _; rw [hwq]; exact HSz.out
        rw [← hwq] at HBq HOq ⊢
        clear e0 e1 e2 t0 t1 t2 x0 hwq HO HB HBw HSz
        have HBw := Lib.hid (HB0.out.trans (HBq.out.mono (show w.heap.size ≤ w.heap.size + 3 by omega)))
        obtain ⟨e0, e1, e2⟩ := HRow.out wq HBw.out
        have t2 : wq.cell? ⟨w.heap.size, 2, none⟩ = some (.slice (some ⟨b, off, none⟩) n c) := cell_of_row _ _ 2 _ _ _ (blk_in HBq.out HT0.out (by omega))
        have HOa := Lib.hid (World.ownsRow.alloc HOq.out (.cells #[.string (bs y.1), .bool y.2.1.dir, .slice y.2.2.1 y.2.1.b.length y.2.2.2] 80))
        have HBa := Lib.hid (HBq.out.alloc HSzq.out (.cells #[.string (bs y.1), .bool y.2.1.dir, .slice y.2.2.1 y.2.1.b.length y.2.2.2] 80))
        have HSza : Hid (w.heap.size + 3 ≤ (wq.alloc (.cells #[.string (bs y.1), .bool y.2.1.dir, .slice y.2.2.1 y.2.1.b.length y.2.2.2] 80)).heap.size) := by show _ ≤ _; have := HSzq.out; simp; omega
        go_wp2_with (at_builtin; refine wpList_app elem_rth rfl _ _ rfl (w.heap.size + 3) (.slice A2 k c2) k ((es.take k).flatMap rthC) rfl HOa.out (some ⟨_, 0, none⟩) 1 1 (rthC y) rfl (sees_new _ _ _) rfl (one_rth _) (by omega) HSza.out ?_)
        intro v3 w3 hown hgr _
        obtain ⟨A3, c3, rfl, _, _⟩ := own_full hown
        have HB3 := Lib.hid (HBa.out.own HOa.out hgr HSza.out (Nat.le_refl _))
        have ho3 : w3.ownsRow (w.heap.size + 3) 80 3 (.slice A3 (k + 1) c3) (k + 1) ((es.take (k + 1)).flatMap rthC) := by rw [HTk.out, rths_snoc]; exact hown
        have HO3 := Lib.hid ho3
        clear hown hgr ho3 t2 e0 e1 e2
        go_wp2_with fail
        go_roundw
        case rel => exact ⟨k + 1, A3, c3, by omega, by go_num, rfl, HA2, HO3, HB3⟩
        case measure => simp [intOf]; omega
      | false =>
        have hnl : ¬ Lt y.1 p := by unfold Lt; rw [hls]; simp
        have dl : Op.bytesLess (bs y.1).toList (bs p).toList = false := by rw [bs_toList, bs_toList, less_bef]; exact hls
        clear hls
        by_cases he : y.1 = p
        · have d2 : ((bs y.1).toList == (bs p).toList) = true := by rw [he]; simp
          have hf : putT p x es = es.take k ++ [(p, x)] ++ es.drop (k + 1) := by
            refine put_form HRise.out (Nat.le_succ _) HA.out (fun i hi h1 h2 => ?_) (fun i hi h1 => ?_)
            · obtain rfl : i = k := by omega
              rw [← HY.out]; exact he
            · have := rise_at HRise.out (show k < i by omega) hi
              rw [← HY.out, he] at this
              exact this
          obtain ⟨tl, htl⟩ : ∃ tl, tl = es.drop (k + 1) := ⟨_, rfl⟩
          rw [← htl] at hf
          have HF := Lib.hid hf
          have hlen : (tl.flatMap rthC).length = (n - (k + 1)) * 3 := by rw [flat_length rthC_len, htl, List.length_drop, HN.out]
          have HTS : Hid (∀ A9 W, (A9 = some ⟨b, off + (k + 1) * 3, none⟩ ∨ tl = []) → Below w.heap.size w W → Sees W A9 (tl.flatMap rthC)) := fun A9 W hA9 hW => by
            rcases hA9 with rfl | h
            · rw [htl]; exact RT.drop_at HRT.out hkl hW
            · rw [h]; exact .inl rfl
          have hkw : IntKind.i64.wrap ((k : Int) + 1) = (k : Int) + 1 := IntWalk.i64_in _ (by omega)
          have hk00 : (0 : Int) ≤ (k : Int) + 1 := by omega
          have hkn : k + 1 ≤ n := by omega
          have hknI : (k : Int) + 1 ≤ (n : Int) := by omega
          clear hf hnl he
          by_cases hk1 : k + 1 = n
          · have HNil : Hid (tl = []) := by show _ = _; rw [htl]; exact List.drop_of_length_le (by rw [← HN.out]; omega)
            have HTl := Lib.hid hlen
            have HK1 := Lib.hid hk1
            clear htl hlen HY hkl hk1
            by_cases hck : c = k + 1
            · subst hck
              clear hlc
              go_wp2_with fail
              go_quiet (fail)
              have HBq := Lib.hid (below_drewN HB.out nq)
              have HOq := Lib.hid (own_dN HO.out nq)
              obtain ⟨wq, hwq⟩ : ∃ wq, wq = wr.drewN nq := ⟨_, rfl⟩
              have HSzq : Hid (w.heap.size + 3 ≤ wq.heap.size) := by show _ ≤ _; rw [hwq]; exact HSz.out
              rw [← hwq] at HBq HOq ⊢
              clear e0 e1 e2 t0 t1 t2 x0 hwq HO HB HBw HSz
              have x0 : wq.cell? ⟨w.heap.size + 1, 0, none⟩ = some (.string (bs p)) := cell_of_row _ _ 0 _ _ _ (blk_in HBq.out HX0.out (by omega))
              have x1 : wq.cell? ⟨w.heap.size + 1, 1, none⟩ = some (.bool x.1.dir) := cell_of_row _ _ 1 _ _ _ (blk_in HBq.out HX0.out (by omega))
              have x2 : wq.cell? ⟨w.heap.size + 1, 2, none⟩ = some (.slice x.2.1 x.1.b.length x.2.2) := cell_of_row _ _ 2 _ _ _ (blk_in HBq.out HX0.out (by omega))
              have HOa := Lib.hid (World.ownsRow.alloc HOq.out (.cells (rtC p x) 80))
              have HBa := Lib.hid (HBq.out.alloc HSzq.out (.cells (rtC p x) 80))
              have HSza : Hid (w.heap.size + 3 ≤ (wq.alloc (.cells (rtC p x) 80)).heap.size) := by show _ ≤ _; have := HSzq.out; simp; omega
              go_wp2_with (at_builtin; refine wpList_app elem_rth rfl (.tmp 33) (.tmp 35) rfl (w.heap.size + 3) (.slice A2 k c2) k ((es.take k).flatMap rthC) rfl HOa.out (some ⟨_, 0, none⟩) 1 1 (rthC (p, x)) rfl (sees_new _ _ _) rfl (one_rth _) (by omega) HSza.out ?_)
              intro v3 w3 hown hgr _
              obtain ⟨A3, c3, rfl, _, _⟩ := own_full hown
              have HB3 := Lib.hid (HBa.out.own HOa.out hgr HSza.out (Nat.le_refl _))
              have ho3 : w3.ownsRow (w.heap.size + 3) 80 3 (.slice A3 (k + 1) c3) (k + 1) ((es.take k ++ [(p, x)]).flatMap rthC) := by rw [rths_snoc]; exact hown
              have HO3 := Lib.hid ho3
              clear hown hgr ho3 x0 x1 x2 HOa HBa HSza HOq HBq HSzq
              have HBw := Lib.hid (HB0.out.trans (HB3.out.mono (show w.heap.size ≤ w.heap.size + 3 by omega)))
              have t2 : w3.cell? ⟨w.heap.size, 2, none⟩ = some (.slice (some ⟨b, off, none⟩) n (k + 1)) := cell_of_row _ _ 2 _ _ _ (blk_in HB3.out HT0.out (by omega))
              have x0 : w3.cell? ⟨w.heap.size + 1, 0, none⟩ = some (.string (bs p)) := cell_of_row _ _ 0 _ _ _ (blk_in HB3.out HX0.out (by omega))
              obtain ⟨e0, e1, e2⟩ := HRow.out w3 HBw.out
              go_wp2_with fail
              go_quiet (fail)
              have HB4 := Lib.hid (below_drewN HB3.out nq)
              have HO4 := Lib.hid (own_dN HO3.out nq)
              obtain ⟨w4, hw4⟩ : ∃ w4, w4 = w3.drewN nq := ⟨_, rfl⟩
              rw [← hw4] at HB4 HO4 ⊢
              clear hw4 t2 x0 HB3 HO3 HBw e0 e1 e2
              have HSz4 : Hid (w.heap.size + 3 ≤ w4.heap.size) := by show _ ≤ _; have := HB4.out.size; rw [HS0.out] at this; exact this
              have HBw := Lib.hid (HB0.out.trans (HB4.out.mono (show w.heap.size ≤ w.heap.size + 3 by omega)))
              have t2 : w4.cell? ⟨w.heap.size, 2, none⟩ = some (.slice (some ⟨b, off, none⟩) n (k + 1)) := cell_of_row _ _ 2 _ _ _ (blk_in HB4.out HT0.out (by omega))
              go_wp2_with (at_builtin; refine wpList_app elem_rth rfl (.tmp 55) (.tmp 59) rfl (w.heap.size + 3) (.slice A3 (k + 1) c3) (k + 1) ((es.take k ++ [(p, x)]).flatMap rthC) rfl HO4.out _ _ _ (tl.flatMap rthC) rfl (HTS.out _ w4 (by first | exact .inl rfl | exact .inr HNil.out) HBw.out) HTl.out (one_rths _) (by omega) HSz4.out ?_)
              intro v5 w5 hown hgr _
              obtain ⟨A5, c5, rfl, _, _⟩ := own_full hown
              have HB5 := Lib.hid (HB4.out.own HO4.out hgr HSz4.out (Nat.le_refl _))
              have HO5 := Lib.hid hown
              clear hown hgr t2 HB4 HO4 HSz4 HBw
              have t0 : w5.cell? ⟨w.heap.size, 0, none⟩ = some (.int .i64 I) := cell_of_row _ _ 0 _ _ _ (blk_in HB5.out HT0.out (by omega))
              have t1 : w5.cell? ⟨w.heap.size, 1, none⟩ = some (.int .i64 J) := cell_of_row _ _ 1 _ _ _ (blk_in HB5.out HT0.out (by omega))
              have t2 : w5.cell? ⟨w.heap.size, 2, none⟩ = some (.slice (some ⟨b, off, none⟩) n (k + 1)) := cell_of_row _ _ 2 _ _ _ (blk_in HB5.out HT0.out (by omega))
              have u2 := frozen_of_row w5 w.heap.size 2 _ _ (blk_in HB5.out HT0.out (by omega))
              have v0 := frozen_of_row w5 (w.heap.size + 2) 0 _ _ (blk_in HB5.out HR0.out (by omega))
              have v1 := frozen_of_row w5 (w.heap.size + 2) 1 _ _ (blk_in HB5.out HR0.out (by omega))
              have v2 := frozen_of_row w5 (w.heap.size + 2) 2 _ _ (blk_in HB5.out HR0.out (by omega))
              have s0 : w5.cell? ⟨w.heap.size + 2, 0, none⟩ = some (.int .i64 0) := cell_of_row _ _ 0 _ _ _ (blk_in HB5.out HR0.out (by omega))
              have s1 : w5.cell? ⟨w.heap.size + 2, 1, none⟩ = some (.int .i64 0) := cell_of_row _ _ 1 _ _ _ (blk_in HB5.out HR0.out (by omega))
              have s2 : w5.cell? ⟨w.heap.size + 2, 2, none⟩ = some (.slice none 0 0) := cell_of_row _ _ 2 _ _ _ (blk_in HB5.out HR0.out (by omega))
              go_wp2_with fail
              refine bodyPost_ret (ret_rtr rfl (by rfl) (set3_block _ _ _ ((set_other _ (by omega)).trans (blk_in HB5.out HR0.out (by omega))))) rfl ?_
              exact rput_end (hk := by omega) HB0.out HB5.out HRT.out HX.out HF.out HTl.out HN.out HO5.out (by omega)
            · -- the last one
              go_wp2_with fail
              go_quiet (fail)
              have HBq := Lib.hid (below_drewN HB.out nq)
              have HOq := Lib.hid (own_dN HO.out nq)
              obtain ⟨wq, hwq⟩ : ∃ wq, wq = wr.drewN nq := ⟨_, rfl⟩
              have HSzq : Hid (w.heap.size + 3 ≤ wq.heap.size) := by show _ ≤ _; rw [hwq]; exact HSz.out
              rw [← hwq] at HBq HOq ⊢
              clear e0 e1 e2 t0 t1 t2 x0 hwq HO HB HBw HSz
              have x0 : wq.cell? ⟨w.heap.size + 1, 0, none⟩ = some (.string (bs p)) := cell_of_row _ _ 0 _ _ _ (blk_in HBq.out HX0.out (by omega))
              have x1 : wq.cell? ⟨w.heap.size + 1, 1, none⟩ = some (.bool x.1.dir) := cell_of_row _ _ 1 _ _ _ (blk_in HBq.out HX0.out (by omega))
              have x2 : wq.cell? ⟨w.heap.size + 1, 2, none⟩ = some (.slice x.2.1 x.1.b.length x.2.2) := cell_of_row _ _ 2 _ _ _ (blk_in HBq.out HX0.out (by omega))
              have HOa := Lib.hid (World.ownsRow.alloc HOq.out (.cells (rtC p x) 80))
              have HBa := Lib.hid (HBq.out.alloc HSzq.out (.cells (rtC p x) 80))
              have HSza : Hid (w.heap.size + 3 ≤ (wq.alloc (.cells (rtC p x) 80)).heap.size) := by show _ ≤ _; have := HSzq.out; simp; omega
              go_wp2_with (at_builtin; refine wpList_app elem_rth rfl (.tmp 33) (.tmp 35) rfl (w.heap.size + 3) (.slice A2 k c2) k ((es.take k).flatMap rthC) rfl HOa.out (some ⟨_, 0, none⟩) 1 1 (rthC (p, x)) rfl (sees_new _ _ _) rfl (one_rth _) (by omega) HSza.out ?_)
              intro v3 w3 hown hgr _
              obtain ⟨A3, c3, rfl, _, _⟩ := own_full hown
              have HB3 := Lib.hid (HBa.out.own HOa.out hgr HSza.out (Nat.le_refl _))
              have ho3 : w3.ownsRow (w.heap.size + 3) 80 3 (.slice A3 (k + 1) c3) (k + 1) ((es.take k ++ [(p, x)]).flatMap rthC) := by rw [rths_snoc]; exact hown
              have HO3 := Lib.hid ho3
              clear hown hgr ho3 x0 x1 x2 HOa HBa HSza HOq HBq HSzq
              have HBw := Lib.hid (HB0.out.trans (HB3.out.mono (show w.heap.size ≤ w.heap.size + 3 by omega)))
              have t2 : w3.cell? ⟨w.heap.size, 2, none⟩ = some (.slice (some ⟨b, off, none⟩) n c) := cell_of_row _ _ 2 _ _ _ (blk_in HB3.out HT0.out (by omega))
              have x0 : w3.cell? ⟨w.heap.size + 1, 0, none⟩ = some (.string (bs p)) := cell_of_row _ _ 0 _ _ _ (blk_in HB3.out HX0.out (by omega))
              obtain ⟨e0, e1, e2⟩ := HRow.out w3 HBw.out
              go_wp2_with fail
              go_quiet (fail)
              have HB4 := Lib.hid (below_drewN HB3.out nq)
              have HO4 := Lib.hid (own_dN HO3.out nq)
              obtain ⟨w4, hw4⟩ : ∃ w4, w4 = w3.drewN nq := ⟨_, rfl⟩
              rw [← hw4] at HB4 HO4 ⊢
              clear hw4 t2 x0 HB3 HO3 HBw e0 e1 e2
              have HSz4 : Hid (w.heap.size + 3 ≤ w4.heap.size) := by show _ ≤ _; have := HB4.out.size; rw [HS0.out] at this; exact this
              have HBw := Lib.hid (HB0.out.trans (HB4.out.mono (show w.heap.size ≤ w.heap.size + 3 by omega)))
              have t2 : w4.cell? ⟨w.heap.size, 2, none⟩ = some (.slice (some ⟨b, off, none⟩) n c) := cell_of_row _ _ 2 _ _ _ (blk_in HB4.out HT0.out (by omega))
              go_wp2_with (at_builtin; refine wpList_app elem_rth rfl (.tmp 55) (.tmp 59) rfl (w.heap.size + 3) (.slice A3 (k + 1) c3) (k + 1) ((es.take k ++ [(p, x)]).flatMap rthC) rfl HO4.out _ _ _ (tl.flatMap rthC) rfl (HTS.out _ w4 (by first | exact .inl rfl | exact .inr HNil.out) HBw.out) HTl.out (one_rths _) (by omega) HSz4.out ?_)
              intro v5 w5 hown hgr _
              obtain ⟨A5, c5, rfl, _, _⟩ := own_full hown
              have HB5 := Lib.hid (HB4.out.own HO4.out hgr HSz4.out (Nat.le_refl _))
              have HO5 := Lib.hid hown
              clear hown hgr t2 HB4 HO4 HSz4 HBw
              have t0 : w5.cell? ⟨w.heap.size, 0, none⟩ = some (.int .i64 I) := cell_of_row _ _ 0 _ _ _ (blk_in HB5.out HT0.out (by omega))
              have t1 : w5.cell? ⟨w.heap.size, 1, none⟩ = some (.int .i64 J) := cell_of_row _ _ 1 _ _ _ (blk_in HB5.out HT0.out (by omega))
              have t2 : w5.cell? ⟨w.heap.size, 2, none⟩ = some (.slice (some ⟨b, off, none⟩) n c) := cell_of_row _ _ 2 _ _ _ (blk_in HB5.out HT0.out (by omega))
              have u2 := frozen_of_row w5 w.heap.size 2 _ _ (blk_in HB5.out HT0.out (by omega))
              have v0 := frozen_of_row w5 (w.heap.size + 2) 0 _ _ (blk_in HB5.out HR0.out (by omega))
              have v1 := frozen_of_row w5 (w.heap.size + 2) 1 _ _ (blk_in HB5.out HR0.out (by omega))
              have v2 := frozen_of_row w5 (w.heap.size + 2) 2 _ _ (blk_in HB5.out HR0.out (by omega))
              have s0 : w5.cell? ⟨w.heap.size + 2, 0, none⟩ = some (.int .i64 0) := cell_of_row _ _ 0 _ _ _ (blk_in HB5.out HR0.out (by omega))
              have s1 : w5.cell? ⟨w.heap.size + 2, 1, none⟩ = some (.int .i64 0) := cell_of_row _ _ 1 _ _ _ (blk_in HB5.out HR0.out (by omega))
              have s2 : w5.cell? ⟨w.heap.size + 2, 2, none⟩ = some (.slice none 0 0) := cell_of_row _ _ 2 _ _ _ (blk_in HB5.out HR0.out (by omega))
              go_wp2_with fail
              refine bodyPost_ret (ret_rtr rfl (by rfl) (set3_block _ _ _ ((set_other _ (by omega)).trans (blk_in HB5.out HR0.out (by omega))))) rfl ?_
              exact rput_end (hk := by omega) HB0.out HB5.out HRT.out HX.out HF.out HTl.out HN.out HO5.out (by omega)
          · have HNil : Hid True := trivial
            have HTl := Lib.hid hlen
            have hkn2 : k + 1 < n := by omega
            clear htl hlen HY hkl
            go_wp2_with fail
            go_quiet (fail)
            have HBq := Lib.hid (below_drewN HB.out nq)
            have HOq := Lib.hid (own_dN HO.out nq)
            obtain ⟨wq, hwq⟩ : ∃ wq, wq = wr.drewN nq := ⟨_, rfl⟩
            have HSzq : Hid (w.heap.size + 3 ≤ wq.heap.size) := by show _ ≤ _; rw [hwq]; exact HSz.out
            rw [← hwq] at HBq HOq ⊢
            clear e0 e1 e2 t0 t1 t2 x0 hwq HO HB HBw HSz
            have x0 : wq.cell? ⟨w.heap.size + 1, 0, none⟩ = some (.string (bs p)) := cell_of_row _ _ 0 _ _ _ (blk_in HBq.out HX0.out (by omega))
            have x1 : wq.cell? ⟨w.heap.size + 1, 1, none⟩ = some (.bool x.1.dir) := cell_of_row _ _ 1 _ _ _ (blk_in HBq.out HX0.out (by omega))
            have x2 : wq.cell? ⟨w.heap.size + 1, 2, none⟩ = some (.slice x.2.1 x.1.b.length x.2.2) := cell_of_row _ _ 2 _ _ _ (blk_in HBq.out HX0.out (by omega))
            have HOa := Lib.hid (World.ownsRow.alloc HOq.out (.cells (rtC p x) 80))
            have HBa := Lib.hid (HBq.out.alloc HSzq.out (.cells (rtC p x) 80))
            have HSza : Hid (w.heap.size + 3 ≤ (wq.alloc (.cells (rtC p x) 80)).heap.size) := by show _ ≤ _; have := HSzq.out; simp; omega
            go_wp2_with (at_builtin; refine wpList_app elem_rth rfl (.tmp 33) (.tmp 35) rfl (w.heap.size + 3) (.slice A2 k c2) k ((es.take k).flatMap rthC) rfl HOa.out (some ⟨_, 0, none⟩) 1 1 (rthC (p, x)) rfl (sees_new _ _ _) rfl (one_rth _) (by omega) HSza.out ?_)
            intro v3 w3 hown hgr _
            obtain ⟨A3, c3, rfl, _, _⟩ := own_full hown
            have HB3 := Lib.hid (HBa.out.own HOa.out hgr HSza.out (Nat.le_refl _))
            have ho3 : w3.ownsRow (w.heap.size + 3) 80 3 (.slice A3 (k + 1) c3) (k + 1) ((es.take k ++ [(p, x)]).flatMap rthC) := by rw [rths_snoc]; exact hown
            have HO3 := Lib.hid ho3
            clear hown hgr ho3 x0 x1 x2 HOa HBa HSza HOq HBq HSzq
            have HBw := Lib.hid (HB0.out.trans (HB3.out.mono (show w.heap.size ≤ w.heap.size + 3 by omega)))
            have t2 : w3.cell? ⟨w.heap.size, 2, none⟩ = some (.slice (some ⟨b, off, none⟩) n c) := cell_of_row _ _ 2 _ _ _ (blk_in HB3.out HT0.out (by omega))
            have x0 : w3.cell? ⟨w.heap.size + 1, 0, none⟩ = some (.string (bs p)) := cell_of_row _ _ 0 _ _ _ (blk_in HB3.out HX0.out (by omega))
            obtain ⟨e0, e1, e2⟩ := HRow.out w3 HBw.out
            go_wp2_with fail
            go_quiet (fail)
            have HB4 := Lib.hid (below_drewN HB3.out nq)
            have HO4 := Lib.hid (own_dN HO3.out nq)
            obtain ⟨w4, hw4⟩ : ∃ w4, w4 = w3.drewN nq := ⟨_, rfl⟩
            rw [← hw4] at HB4 HO4 ⊢
            clear hw4 t2 x0 HB3 HO3 HBw e0 e1 e2
            have HSz4 : Hid (w.heap.size + 3 ≤ w4.heap.size) := by show _ ≤ _; have := HB4.out.size; rw [HS0.out] at this; exact this
            have HBw := Lib.hid (HB0.out.trans (HB4.out.mono (show w.heap.size ≤ w.heap.size + 3 by omega)))
            have t2 : w4.cell? ⟨w.heap.size, 2, none⟩ = some (.slice (some ⟨b, off, none⟩) n c) := cell_of_row _ _ 2 _ _ _ (blk_in HB4.out HT0.out (by omega))
            go_wp2_with (at_builtin; refine wpList_app elem_rth rfl (.tmp 55) (.tmp 59) rfl (w.heap.size + 3) (.slice A3 (k + 1) c3) (k + 1) ((es.take k ++ [(p, x)]).flatMap rthC) rfl HO4.out _ _ _ (tl.flatMap rthC) rfl (HTS.out _ w4 (by first | exact .inl rfl | exact .inr HNil.out) HBw.out) HTl.out (one_rths _) (by omega) HSz4.out ?_)
            intro v5 w5 hown hgr _
            obtain ⟨A5, c5, rfl, _, _⟩ := own_full hown
            have HB5 := Lib.hid (HB4.out.own HO4.out hgr HSz4.out (Nat.le_refl _))
            have HO5 := Lib.hid hown
            clear hown hgr t2 HB4 HO4 HSz4 HBw
            have t0 : w5.cell? ⟨w.heap.size, 0, none⟩ = some (.int .i64 I) := cell_of_row _ _ 0 _ _ _ (blk_in HB5.out HT0.out (by omega))
            have t1 : w5.cell? ⟨w.heap.size, 1, none⟩ = some (.int .i64 J) := cell_of_row _ _ 1 _ _ _ (blk_in HB5.out HT0.out (by omega))
            have t2 : w5.cell? ⟨w.heap.size, 2, none⟩ = some (.slice (some ⟨b, off, none⟩) n c) := cell_of_row _ _ 2 _ _ _ (blk_in HB5.out HT0.out (by omega))
            have u2 := frozen_of_row w5 w.heap.size 2 _ _ (blk_in HB5.out HT0.out (by omega))
            have v0 := frozen_of_row w5 (w.heap.size + 2) 0 _ _ (blk_in HB5.out HR0.out (by omega))
            have v1 := frozen_of_row w5 (w.heap.size + 2) 1 _ _ (blk_in HB5.out HR0.out (by omega))
            have v2 := frozen_of_row w5 (w.heap.size + 2) 2 _ _ (blk_in HB5.out HR0.out (by omega))
            have s0 : w5.cell? ⟨w.heap.size + 2, 0, none⟩ = some (.int .i64 0) := cell_of_row _ _ 0 _ _ _ (blk_in HB5.out HR0.out (by omega))
            have s1 : w5.cell? ⟨w.heap.size + 2, 1, none⟩ = some (.int .i64 0) := cell_of_row _ _ 1 _ _ _ (blk_in HB5.out HR0.out (by omega))
            have s2 : w5.cell? ⟨w.heap.size + 2, 2, none⟩ = some (.slice none 0 0) := cell_of_row _ _ 2 _ _ _ (blk_in HB5.out HR0.out (by omega))
            go_wp2_with fail
            refine bodyPost_ret (ret_rtr rfl (by rfl) (set3_block _ _ _ ((set_other _ (by omega)).trans (blk_in HB5.out HR0.out (by omega))))) rfl ?_
            exact rput_end (hk := by omega) HB0.out HB5.out HRT.out HX.out HF.out HTl.out HN.out HO5.out (by omega)
        · have d2 : ((bs y.1).toList == (bs p).toList) = false := by rw [bs_toList, bs_toList]; simpa using he
          have hf : putT p x es = es.take k ++ [(p, x)] ++ es.drop k := by
            refine put_form HRise.out (Nat.le_refl _) HA.out (fun i hi h1 h2 => by omega) (fun i hi h1 => ?_)
            have h0 : Lt p es[k].1 := by rw [← HY.out]; exact lt_total he hnl
            by_cases h : i = k
            · subst h; exact h0
            · exact lt_trans h0 (rise_at HRise.out (by omega) hi)
          obtain ⟨tl, htl⟩ : ∃ tl, tl = es.drop k := ⟨_, rfl⟩
          rw [← htl] at hf
          have HF := Lib.hid hf
          have HTl : Hid ((tl.flatMap rthC).length = (n - k) * 3) := by show _ = _; rw [flat_length rthC_len, htl, List.length_drop, HN.out]
          have HNil : Hid True := trivial
          have HTS : Hid (∀ A9 W, (A9 = some ⟨b, off + k * 3, none⟩ ∨ tl = []) → Below w.heap.size w W → Sees W A9 (tl.flatMap rthC)) := fun A9 W hA9 hW => by
            rcases hA9 with rfl | h
            · rw [htl]; exact RT.drop_at HRT.out (Nat.le_of_lt hkl) hW
            · rw [h]; exact .inl rfl
          clear hf hnl he htl HY hkl
          go_wp2_with fail
          go_quiet (fail)
          have HBq := Lib.hid (below_drewN HB.out nq)
          have HOq := Lib.hid (own_dN HO.out nq)
          obtain ⟨wq, hwq⟩ : ∃ wq, wq = wr.drewN nq := ⟨_, rfl⟩
          have HSzq : Hid (w.heap.size + 3 ≤ wq.heap.size) := by show _ ≤ _; rw [hwq]; exact HSz.out
          rw [← hwq] at HBq HOq ⊢
          clear e0 e1 e2 t0 t1 t2 x0 hwq HO HB HBw HSz
          have x0 : wq.cell? ⟨w.heap.size + 1, 0, none⟩ = some (.string (bs p)) := cell_of_row _ _ 0 _ _ _ (blk_in HBq.out HX0.out (by omega))
          have x1 : wq.cell? ⟨w.heap.size + 1, 1, none⟩ = some (.bool x.1.dir) := cell_of_row _ _ 1 _ _ _ (blk_in HBq.out HX0.out (by omega))
          have x2 : wq.cell? ⟨w.heap.size + 1, 2, none⟩ = some (.slice x.2.1 x.1.b.length x.2.2) := cell_of_row _ _ 2 _ _ _ (blk_in HBq.out HX0.out (by omega))
          have HOa := Lib.hid (World.ownsRow.alloc HOq.out (.cells (rtC p x) 80))
          have HBa := Lib.hid (HBq.out.alloc HSzq.out (.cells (rtC p x) 80))
          have HSza : Hid (w.heap.size + 3 ≤ (wq.alloc (.cells (rtC p x) 80)).heap.size) := by show _ ≤ _; have := HSzq.out; simp; omega
          go_wp2_with (at_builtin; refine wpList_app elem_rth rfl (.tmp 33) (.tmp 35) rfl (w.heap.size + 3) (.slice A2 k c2) k ((es.take k).flatMap rthC) rfl HOa.out (some ⟨_, 0, none⟩) 1 1 (rthC (p, x)) rfl (sees_new _ _ _) rfl (one_rth _) (by omega) HSza.out ?_)
          intro v3 w3 hown hgr _
          obtain ⟨A3, c3, rfl, _, _⟩ := own_full hown
          have HB3 := Lib.hid (HBa.out.own HOa.out hgr HSza.out (Nat.le_refl _))
          have ho3 : w3.ownsRow (w.heap.size + 3) 80 3 (.slice A3 (k + 1) c3) (k + 1) ((es.take k ++ [(p, x)]).flatMap rthC) := by rw [rths_snoc]; exact hown
          have HO3 := Lib.hid ho3
          clear hown hgr ho3 x0 x1 x2 HOa HBa HSza HOq HBq HSzq
          have HBw := Lib.hid (HB0.out.trans (HB3.out.mono (show w.heap.size ≤ w.heap.size + 3 by omega)))
          have t2 : w3.cell? ⟨w.heap.size, 2, none⟩ = some (.slice (some ⟨b, off, none⟩) n c) := cell_of_row _ _ 2 _ _ _ (blk_in HB3.out HT0.out (by omega))
          have x0 : w3.cell? ⟨w.heap.size + 1, 0, none⟩ = some (.string (bs p)) := cell_of_row _ _ 0 _ _ _ (blk_in HB3.out HX0.out (by omega))
          obtain ⟨e0, e1, e2⟩ := HRow.out w3 HBw.out
          go_wp2_with fail
          go_quiet (fail)
          have HB4 := Lib.hid (below_drewN HB3.out nq)
          have HO4 := Lib.hid (own_dN HO3.out nq)
          obtain ⟨w4, hw4⟩ : ∃ w4, w4 = w3.drewN nq := ⟨_, rfl⟩
          rw [← hw4] at HB4 HO4 ⊢
          clear hw4 t2 x0 HB3 HO3 HBw e0 e1 e2
          have HSz4 : Hid (w.heap.size + 3 ≤ w4.heap.size) := by show _ ≤ _; have := HB4.out.size; rw [HS0.out] at this; exact this
          have HBw := Lib.hid (HB0.out.trans (HB4.out.mono (show w.heap.size ≤ w.heap.size + 3 by omega)))
          have t2 : w4.cell? ⟨w.heap.size, 2, none⟩ = some (.slice (some ⟨b, off, none⟩) n c) := cell_of_row _ _ 2 _ _ _ (blk_in HB4.out HT0.out (by omega))
          go_wp2_with (at_builtin; refine wpList_app elem_rth rfl (.tmp 55) (.tmp 59) rfl (w.heap.size + 3) (.slice A3 (k + 1) c3) (k + 1) ((es.take k ++ [(p, x)]).flatMap rthC) rfl HO4.out _ _ _ (tl.flatMap rthC) rfl (HTS.out _ w4 (by first | exact .inl rfl | exact .inr HNil.out) HBw.out) HTl.out (one_rths _) (by omega) HSz4.out ?_)
          intro v5 w5 hown hgr _
          obtain ⟨A5, c5, rfl, _, _⟩ := own_full hown
          have HB5 := Lib.hid (HB4.out.own HO4.out hgr HSz4.out (Nat.le_refl _))
          have HO5 := Lib.hid hown
          clear hown hgr t2 HB4 HO4 HSz4 HBw
          have t0 : w5.cell? ⟨w.heap.size, 0, none⟩ = some (.int .i64 I) := cell_of_row _ _ 0 _ _ _ (blk_in HB5.out HT0.out (by omega))
          have t1 : w5.cell? ⟨w.heap.size, 1, none⟩ = some (.int .i64 J) := cell_of_row _ _ 1 _ _ _ (blk_in HB5.out HT0.out (by omega))
          have t2 : w5.cell? ⟨w.heap.size, 2, none⟩ = some (.slice (some ⟨b, off, none⟩) n c) := cell_of_row _ _ 2 _ _ _ (blk_in HB5.out HT0.out (by omega))
          have u2 := frozen_of_row w5 w.heap.size 2 _ _ (blk_in HB5.out HT0.out (by omega))
          have v0 := frozen_of_row w5 (w.heap.size + 2) 0 _ _ (blk_in HB5.out HR0.out (by omega))
          have v1 := frozen_of_row w5 (w.heap.size + 2) 1 _ _ (blk_in HB5.out HR0.out (by omega))
          have v2 := frozen_of_row w5 (w.heap.size + 2) 2 _ _ (blk_in HB5.out HR0.out (by omega))
          have s0 : w5.cell? ⟨w.heap.size + 2, 0, none⟩ = some (.int .i64 0) := cell_of_row _ _ 0 _ _ _ (blk_in HB5.out HR0.out (by omega))
          have s1 : w5.cell? ⟨w.heap.size + 2, 1, none⟩ = some (.int .i64 0) := cell_of_row _ _ 1 _ _ _ (blk_in HB5.out HR0.out (by omega))
          have s2 : w5.cell? ⟨w.heap.size + 2, 2, none⟩ = some (.slice none 0 0) := cell_of_row _ _ 2 _ _ _ (blk_in HB5.out HR0.out (by omega))
          go_wp2_with fail
          refine bodyPost_ret (ret_rtr rfl (by rfl) (set3_block _ _ _ ((set_other _ (by omega)).trans (blk_in HB5.out HR0.out (by omega))))) rfl ?_
          exact rput_end (hk := by omega) HB0.out HB5.out HRT.out HX.out HF.out HTl.out HN.out HO5.out (by omega)
    · obtain rfl : k = n := by omega
      have hf : putT p x es = es.take k ++ [(p, x)] ++ es.drop k := put_form HRise.out (Nat.le_refl _) HA.out (fun i hi h1 h2 => by omega) (fun i hi h1 => by have := HN.out; omega)
      obtain ⟨tl, htl⟩ : ∃ tl, tl = es.drop k := ⟨_, rfl⟩
      rw [← htl] at hf
      have HF := Lib.hid hf
      have HNil : Hid (tl = []) := by show _ = _; rw [htl]; exact List.drop_of_length_le (by rw [← HN.out]; exact Nat.le_refl _)
      have HTl : Hid ((tl.flatMap rthC).length = 0 * 3) := by show _ = _; rw [HNil.out]; rfl
      have HTS : Hid (∀ A9 W, (A9 = none ∨ tl = []) → Below w.heap.size w W → Sees W A9 (tl.flatMap rthC)) := fun A9 W _ hW => by
        rw [HNil.out]; exact .inl rfl
      have hk0 : (0 : Int) ≤ (k : Int) := by omega
      clear hf htl
      cases A with
      | none =>
        go_wp2_with fail
        go_quiet (fail)
        have HBq := Lib.hid (below_drewN HB.out nq)
        have HOq := Lib.hid (own_dN HO.out nq)
        obtain ⟨wq, hwq⟩ : ∃ wq, wq = wr.drewN nq := ⟨_, rfl⟩
        have HSzq : Hid (w.heap.size + 3 ≤ wq.heap.size) := by show _ ≤ _; rw [hwq]; exact HSz.out
        rw [← hwq] at HBq HOq ⊢
        clear t0 t1 t2 x0 hwq HO HB HBw HSz
        have x0 : wq.cell? ⟨w.heap.size + 1, 0, none⟩ = some (.string (bs p)) := cell_of_row _ _ 0 _ _ _ (blk_in HBq.out HX0.out (by omega))
        have x1 : wq.cell? ⟨w.heap.size + 1, 1, none⟩ = some (.bool x.1.dir) := cell_of_row _ _ 1 _ _ _ (blk_in HBq.out HX0.out (by omega))
        have x2 : wq.cell? ⟨w.heap.size + 1, 2, none⟩ = some (.slice x.2.1 x.1.b.length x.2.2) := cell_of_row _ _ 2 _ _ _ (blk_in HBq.out HX0.out (by omega))
        have HOa := Lib.hid (World.ownsRow.alloc HOq.out (.cells (rtC p x) 80))
        have HBa := Lib.hid (HBq.out.alloc HSzq.out (.cells (rtC p x) 80))
        have HSza : Hid (w.heap.size + 3 ≤ (wq.alloc (.cells (rtC p x) 80)).heap.size) := by show _ ≤ _; have := HSzq.out; simp; omega
        go_wp2_with (at_builtin; refine wpList_app elem_rth rfl (.tmp 33) (.tmp 35) rfl (w.heap.size + 3) (.slice A2 k c2) k ((es.take k).flatMap rthC) rfl HOa.out (some ⟨_, 0, none⟩) 1 1 (rthC (p, x)) rfl (sees_new _ _ _) rfl (one_rth _) (by omega) HSza.out ?_)
        intro v3 w3 hown hgr _
        obtain ⟨A3, c3, rfl, _, _⟩ := own_full hown
        have HB3 := Lib.hid (HBa.out.own HOa.out hgr HSza.out (Nat.le_refl _))
        have ho3 : w3.ownsRow (w.heap.size + 3) 80 3 (.slice A3 (k + 1) c3) (k + 1) ((es.take k ++ [(p, x)]).flatMap rthC) := by rw [rths_snoc]; exact hown
        have HO3 := Lib.hid ho3
        clear hown hgr ho3 x0 x1 x2 HOa HBa HSza HOq HBq HSzq
        have HBw := Lib.hid (HB0.out.trans (HB3.out.mono (show w.heap.size ≤ w.heap.size + 3 by omega)))
        have t2 : w3.cell? ⟨w.heap.size, 2, none⟩ = some (.slice none k c) := cell_of_row _ _ 2 _ _ _ (blk_in HB3.out HT0.out (by omega))
        have x0 : w3.cell? ⟨w.heap.size + 1, 0, none⟩ = some (.string (bs p)) := cell_of_row _ _ 0 _ _ _ (blk_in HB3.out HX0.out (by omega))
        go_wp2_with fail
        go_quiet (fail)
        have HB4 := Lib.hid (below_drewN HB3.out nq)
        have HO4 := Lib.hid (own_dN HO3.out nq)
        obtain ⟨w4, hw4⟩ : ∃ w4, w4 = w3.drewN nq := ⟨_, rfl⟩
        rw [← hw4] at HB4 HO4 ⊢
        clear hw4 t2 x0 HB3 HO3 HBw 
        have HSz4 : Hid (w.heap.size + 3 ≤ w4.heap.size) := by show _ ≤ _; have := HB4.out.size; rw [HS0.out] at this; exact this
        have HBw := Lib.hid (HB0.out.trans (HB4.out.mono (show w.heap.size ≤ w.heap.size + 3 by omega)))
        have t2 : w4.cell? ⟨w.heap.size, 2, none⟩ = some (.slice none k c) := cell_of_row _ _ 2 _ _ _ (blk_in HB4.out HT0.out (by omega))
        go_wp2_with (at_builtin; refine wpList_app elem_rth rfl (.tmp 55) (.tmp 59) rfl (w.heap.size + 3) (.slice A3 (k + 1) c3) (k + 1) ((es.take k ++ [(p, x)]).flatMap rthC) rfl HO4.out _ _ _ (tl.flatMap rthC) rfl (HTS.out _ w4 (by first | exact .inl rfl | exact .inr HNil.out) HBw.out) HTl.out (one_rths _) (by omega) HSz4.out ?_)
        intro v5 w5 hown hgr _
        obtain ⟨A5, c5, rfl, _, _⟩ := own_full hown
        have HB5 := Lib.hid (HB4.out.own HO4.out hgr HSz4.out (Nat.le_refl _))
        have HO5 := Lib.hid hown
        clear hown hgr t2 HB4 HO4 HSz4 HBw
        have t0 : w5.cell? ⟨w.heap.size, 0, none⟩ = some (.int .i64 I) := cell_of_row _ _ 0 _ _ _ (blk_in HB5.out HT0.out (by omega))
        have t1 : w5.cell? ⟨w.heap.size, 1, none⟩ = some (.int .i64 J) := cell_of_row _ _ 1 _ _ _ (blk_in HB5.out HT0.out (by omega))
        have t2 : w5.cell? ⟨w.heap.size, 2, none⟩ = some (.slice none k c) := cell_of_row _ _ 2 _ _ _ (blk_in HB5.out HT0.out (by omega))
        have u2 := frozen_of_row w5 w.heap.size 2 _ _ (blk_in HB5.out HT0.out (by omega))
        have v0 := frozen_of_row w5 (w.heap.size + 2) 0 _ _ (blk_in HB5.out HR0.out (by omega))
        have v1 := frozen_of_row w5 (w.heap.size + 2) 1 _ _ (blk_in HB5.out HR0.out (by omega))
        have v2 := frozen_of_row w5 (w.heap.size + 2) 2 _ _ (blk_in HB5.out HR0.out (by omega))
        have s0 : w5.cell? ⟨w.heap.size + 2, 0, none⟩ = some (.int .i64 0) := cell_of_row _ _ 0 _ _ _ (blk_in HB5.out HR0.out (by omega))
        have s1 : w5.cell? ⟨w.heap.size + 2, 1, none⟩ = some (.int .i64 0) := cell_of_row _ _ 1 _ _ _ (blk_in HB5.out HR0.out (by omega))
        have s2 : w5.cell? ⟨w.heap.size + 2, 2, none⟩ = some (.slice none 0 0) := cell_of_row _ _ 2 _ _ _ (blk_in HB5.out HR0.out (by omega))
        go_wp2_with fail
        refine bodyPost_ret (ret_rtr rfl (by rfl) (set3_block _ _ _ ((set_other _ (by omega)).trans (blk_in HB5.out HR0.out (by omega))))) rfl ?_
        exact rput_end (hk := by omega) HB0.out HB5.out HRT.out HX.out HF.out HTl.out HN.out HO5.out (by omega)
      | some ad =>
        by_cases hck : c = k
        ·
          go_wp2_with fail
          go_quiet (fail)
          have HBq := Lib.hid (below_drewN HB.out nq)
          have HOq := Lib.hid (own_dN HO.out nq)
          obtain ⟨wq, hwq⟩ : ∃ wq, wq = wr.drewN nq := ⟨_, rfl⟩
          have HSzq : Hid (w.heap.size + 3 ≤ wq.heap.size) := by show _ ≤ _; rw [hwq]; exact HSz.out
          rw [← hwq] at HBq HOq ⊢
          clear t0 t1 t2 x0 hwq HO HB HBw HSz
          have x0 : wq.cell? ⟨w.heap.size + 1, 0, none⟩ = some (.string (bs p)) := cell_of_row _ _ 0 _ _ _ (blk_in HBq.out HX0.out (by omega))
          have x1 : wq.cell? ⟨w.heap.size + 1, 1, none⟩ = some (.bool x.1.dir) := cell_of_row _ _ 1 _ _ _ (blk_in HBq.out HX0.out (by omega))
          have x2 : wq.cell? ⟨w.heap.size + 1, 2, none⟩ = some (.slice x.2.1 x.1.b.length x.2.2) := cell_of_row _ _ 2 _ _ _ (blk_in HBq.out HX0.out (by omega))
          have HOa := Lib.hid (World.ownsRow.alloc HOq.out (.cells (rtC p x) 80))
          have HBa := Lib.hid (HBq.out.alloc HSzq.out (.cells (rtC p x) 80))
          have HSza : Hid (w.heap.size + 3 ≤ (wq.alloc (.cells (rtC p x) 80)).heap.size) := by show _ ≤ _; have := HSzq.out; simp; omega
          go_wp2_with (at_builtin; refine wpList_app elem_rth rfl (.tmp 33) (.tmp 35) rfl (w.heap.size + 3) (.slice A2 k c2) k ((es.take k).flatMap rthC) rfl HOa.out (some ⟨_, 0, none⟩) 1 1 (rthC (p, x)) rfl (sees_new _ _ _) rfl (one_rth _) (by omega) HSza.out ?_)
          intro v3 w3 hown hgr _
          obtain ⟨A3, c3, rfl, _, _⟩ := own_full hown
          have HB3 := Lib.hid (HBa.out.own HOa.out hgr HSza.out (Nat.le_refl _))
          have ho3 : w3.ownsRow (w.heap.size + 3) 80 3 (.slice A3 (k + 1) c3) (k + 1) ((es.take k ++ [(p, x)]).flatMap rthC) := by rw [rths_snoc]; exact hown
          have HO3 := Lib.hid ho3
          clear hown hgr ho3 x0 x1 x2 HOa HBa HSza HOq HBq HSzq
          have HBw := Lib.hid (HB0.out.trans (HB3.out.mono (show w.heap.size ≤ w.heap.size + 3 by omega)))
          have t2 : w3.cell? ⟨w.heap.size, 2, none⟩ = some (.slice (some ad) k c) := cell_of_row _ _ 2 _ _ _ (blk_in HB3.out HT0.out (by omega))
          have x0 : w3.cell? ⟨w.heap.size + 1, 0, none⟩ = some (.string (bs p)) := cell_of_row _ _ 0 _ _ _ (blk_in HB3.out HX0.out (by omega))
          go_wp2_with fail
          go_quiet (fail)
          have HB4 := Lib.hid (below_drewN HB3.out nq)
          have HO4 := Lib.hid (own_dN HO3.out nq)
          obtain ⟨w4, hw4⟩ : ∃ w4, w4 = w3.drewN nq := ⟨_, rfl⟩
          rw [← hw4] at HB4 HO4 ⊢
          clear hw4 t2 x0 HB3 HO3 HBw 
          have HSz4 : Hid (w.heap.size + 3 ≤ w4.heap.size) := by show _ ≤ _; have := HB4.out.size; rw [HS0.out] at this; exact this
          have HBw := Lib.hid (HB0.out.trans (HB4.out.mono (show w.heap.size ≤ w.heap.size + 3 by omega)))
          have t2 : w4.cell? ⟨w.heap.size, 2, none⟩ = some (.slice (some ad) k c) := cell_of_row _ _ 2 _ _ _ (blk_in HB4.out HT0.out (by omega))
          go_wp2_with (at_builtin; refine wpList_app elem_rth rfl (.tmp 55) (.tmp 59) rfl (w.heap.size + 3) (.slice A3 (k + 1) c3) (k + 1) ((es.take k ++ [(p, x)]).flatMap rthC) rfl HO4.out _ _ _ (tl.flatMap rthC) rfl (HTS.out _ w4 (by first | exact .inl rfl | exact .inr HNil.out) HBw.out) HTl.out (one_rths _) (by omega) HSz4.out ?_)
          intro v5 w5 hown hgr _
          obtain ⟨A5, c5, rfl, _, _⟩ := own_full hown
          have HB5 := Lib.hid (HB4.out.own HO4.out hgr HSz4.out (Nat.le_refl _))
          have HO5 := Lib.hid hown
          clear hown hgr t2 HB4 HO4 HSz4 HBw
          have t0 : w5.cell? ⟨w.heap.size, 0, none⟩ = some (.int .i64 I) := cell_of_row _ _ 0 _ _ _ (blk_in HB5.out HT0.out (by omega))
          have t1 : w5.cell? ⟨w.heap.size, 1, none⟩ = some (.int .i64 J) := cell_of_row _ _ 1 _ _ _ (blk_in HB5.out HT0.out (by omega))
          have t2 : w5.cell? ⟨w.heap.size, 2, none⟩ = some (.slice (some ad) k c) := cell_of_row _ _ 2 _ _ _ (blk_in HB5.out HT0.out (by omega))
          have u2 := frozen_of_row w5 w.heap.size 2 _ _ (blk_in HB5.out HT0.out (by omega))
          have v0 := frozen_of_row w5 (w.heap.size + 2) 0 _ _ (blk_in HB5.out HR0.out (by omega))
          have v1 := frozen_of_row w5 (w.heap.size + 2) 1 _ _ (blk_in HB5.out HR0.out (by omega))
          have v2 := frozen_of_row w5 (w.heap.size + 2) 2 _ _ (blk_in HB5.out HR0.out (by omega))
          have s0 : w5.cell? ⟨w.heap.size + 2, 0, none⟩ = some (.int .i64 0) := cell_of_row _ _ 0 _ _ _ (blk_in HB5.out HR0.out (by omega))
          have s1 : w5.cell? ⟨w.heap.size + 2, 1, none⟩ = some (.int .i64 0) := cell_of_row _ _ 1 _ _ _ (blk_in HB5.out HR0.out (by omega))
          have s2 : w5.cell? ⟨w.heap.size + 2, 2, none⟩ = some (.slice none 0 0) := cell_of_row _ _ 2 _ _ _ (blk_in HB5.out HR0.out (by omega))
          go_wp2_with fail
          refine bodyPost_ret (ret_rtr rfl (by rfl) (set3_block _ _ _ ((set_other _ (by omega)).trans (blk_in HB5.out HR0.out (by omega))))) rfl ?_
          exact rput_end (hk := by omega) HB0.out HB5.out HRT.out HX.out HF.out HTl.out HN.out HO5.out (by omega)
        ·
          go_wp2_with fail
          go_quiet (fail)
          have HBq := Lib.hid (below_drewN HB.out nq)
          have HOq := Lib.hid (own_dN HO.out nq)
          obtain ⟨wq, hwq⟩ : ∃ wq, wq = wr.drewN nq := ⟨_, rfl⟩
          have HSzq : Hid (w.heap.size + 3 ≤ wq.heap.size) := by show _ ≤ _; rw [hwq]; exact HSz.out
          rw [← hwq] at HBq HOq ⊢
          clear t0 t1 t2 x0 hwq HO HB HBw HSz
          have x0 : wq.cell? ⟨w.heap.size + 1, 0, none⟩ = some (.string (bs p)) := cell_of_row _ _ 0 _ _ _ (blk_in HBq.out HX0.out (by omega))
          have x1 : wq.cell? ⟨w.heap.size + 1, 1, none⟩ = some (.bool x.1.dir) := cell_of_row _ _ 1 _ _ _ (blk_in HBq.out HX0.out (by omega))
          have x2 : wq.cell? ⟨w.heap.size + 1, 2, none⟩ = some (.slice x.2.1 x.1.b.length x.2.2) := cell_of_row _ _ 2 _ _ _ (blk_in HBq.out HX0.out (by omega))
          have HOa := Lib.hid (World.ownsRow.alloc HOq.out (.cells (rtC p x) 80))
          have HBa := Lib.hid (HBq.out.alloc HSzq.out (.cells (rtC p x) 80))
          have HSza : Hid (w.heap.size + 3 ≤ (wq.alloc (.cells (rtC p x) 80)).heap.size) := by show _ ≤ _; have := HSzq.out; simp; omega
          go_wp2_with (at_builtin; refine wpList_app elem_rth rfl (.tmp 33) (.tmp 35) rfl (w.heap.size + 3) (.slice A2 k c2) k ((es.take k).flatMap rthC) rfl HOa.out (some ⟨_, 0, none⟩) 1 1 (rthC (p, x)) rfl (sees_new _ _ _) rfl (one_rth _) (by omega) HSza.out ?_)
          intro v3 w3 hown hgr _
          obtain ⟨A3, c3, rfl, _, _⟩ := own_full hown
          have HB3 := Lib.hid (HBa.out.own HOa.out hgr HSza.out (Nat.le_refl _))
          have ho3 : w3.ownsRow (w.heap.size + 3) 80 3 (.slice A3 (k + 1) c3) (k + 1) ((es.take k ++ [(p, x)]).flatMap rthC) := by rw [rths_snoc]; exact hown
          have HO3 := Lib.hid ho3
          clear hown hgr ho3 x0 x1 x2 HOa HBa HSza HOq HBq HSzq
          have HBw := Lib.hid (HB0.out.trans (HB3.out.mono (show w.heap.size ≤ w.heap.size + 3 by omega)))
          have t2 : w3.cell? ⟨w.heap.size, 2, none⟩ = some (.slice (some ad) k c) := cell_of_row _ _ 2 _ _ _ (blk_in HB3.out HT0.out (by omega))
          have x0 : w3.cell? ⟨w.heap.size + 1, 0, none⟩ = some (.string (bs p)) := cell_of_row _ _ 0 _ _ _ (blk_in HB3.out HX0.out (by omega))
          go_wp2_with fail
          go_quiet (fail)
          have HB4 := Lib.hid (below_drewN HB3.out nq)
          have HO4 := Lib.hid (own_dN HO3.out nq)
          obtain ⟨w4, hw4⟩ : ∃ w4, w4 = w3.drewN nq := ⟨_, rfl⟩
          rw [← hw4] at HB4 HO4 ⊢
          clear hw4 t2 x0 HB3 HO3 HBw 
          have HSz4 : Hid (w.heap.size + 3 ≤ w4.heap.size) := by show _ ≤ _; have := HB4.out.size; rw [HS0.out] at this; exact this
          have HBw := Lib.hid (HB0.out.trans (HB4.out.mono (show w.heap.size ≤ w.heap.size + 3 by omega)))
          have t2 : w4.cell? ⟨w.heap.size, 2, none⟩ = some (.slice (some ad) k c) := cell_of_row _ _ 2 _ _ _ (blk_in HB4.out HT0.out (by omega))
          go_wp2_with (at_builtin; refine wpList_app elem_rth rfl (.tmp 55) (.tmp 59) rfl (w.heap.size + 3) (.slice A3 (k + 1) c3) (k + 1) ((es.take k ++ [(p, x)]).flatMap rthC) rfl HO4.out _ _ _ (tl.flatMap rthC) rfl (HTS.out _ w4 (by first | exact .inl rfl | exact .inr HNil.out) HBw.out) HTl.out (one_rths _) (by omega) HSz4.out ?_)
          intro v5 w5 hown hgr _
          obtain ⟨A5, c5, rfl, _, _⟩ := own_full hown
          have HB5 := Lib.hid (HB4.out.own HO4.out hgr HSz4.out (Nat.le_refl _))
          have HO5 := Lib.hid hown
          clear hown hgr t2 HB4 HO4 HSz4 HBw
          have t0 : w5.cell? ⟨w.heap.size, 0, none⟩ = some (.int .i64 I) := cell_of_row _ _ 0 _ _ _ (blk_in HB5.out HT0.out (by omega))
          have t1 : w5.cell? ⟨w.heap.size, 1, none⟩ = some (.int .i64 J) := cell_of_row _ _ 1 _ _ _ (blk_in HB5.out HT0.out (by omega))
          have t2 : w5.cell? ⟨w.heap.size, 2, none⟩ = some (.slice (some ad) k c) := cell_of_row _ _ 2 _ _ _ (blk_in HB5.out HT0.out (by omega))
          have u2 := frozen_of_row w5 w.heap.size 2 _ _ (blk_in HB5.out HT0.out (by omega))
          have v0 := frozen_of_row w5 (w.heap.size + 2) 0 _ _ (blk_in HB5.out HR0.out (by omega))
          have v1 := frozen_of_row w5 (w.heap.size + 2) 1 _ _ (blk_in HB5.out HR0.out (by omega))
          have v2 := frozen_of_row w5 (w.heap.size + 2) 2 _ _ (blk_in HB5.out HR0.out (by omega))
          have s0 : w5.cell? ⟨w.heap.size + 2, 0, none⟩ = some (.int .i64 0) := cell_of_row _ _ 0 _ _ _ (blk_in HB5.out HR0.out (by omega))
          have s1 : w5.cell? ⟨w.heap.size + 2, 1, none⟩ = some (.int .i64 0) := cell_of_row _ _ 1 _ _ _ (blk_in HB5.out HR0.out (by omega))
          have s2 : w5.cell? ⟨w.heap.size + 2, 2, none⟩ = some (.slice none 0 0) := cell_of_row _ _ 2 _ _ _ (blk_in HB5.out HR0.out (by omega))
          go_wp2_with fail
          refine bodyPost_ret (ret_rtr rfl (by rfl) (set3_block _ _ _ ((set_other _ (by omega)).trans (blk_in HB5.out HR0.out (by omega))))) rfl ?_
          exact rput_end (hk := by omega) HB0.out HB5.out HRT.out HX.out HF.out HTl.out HN.out HO5.out (by omega)
end Go.Proofs.YtabecceojbeomaaGreatDoor
end

section
/- The contract of the reference's Names. Conditions: rising things at paths that are not the root's, at most 100000. -/
namespace Go.Cat.Tree
open Go.RowKit Go.Cat Go.Cat.Dir
theorem names_step {es : List (Txt × El)} {k : Nat} (hk : k < es.length) (path : Txt) (h0 : abe es[k].1 = 0) : namesV path (ths (es.take (k + 1))) = if (abv es[k].1).1 = path then namesV path (ths (es.take k)) ++ [(abv es[k].1).2] else namesV path (ths (es.take k)) := by
  rw [List.take_succ_eq_append_getElem hk]
  unfold ths mapT namesV
  rw [List.map_append, List.filterMap_append]
  unfold nameOf
  by_cases h : (abv es[k].1).1 = path
  · rw [if_pos h]; simp [h0, h]
  · rw [if_neg h]; simp [h]
theorem names_last {es : List (Txt × El)} (hr : Rise es) (k : Nat) (path nm : Txt) {cur : List Txt} (h : namesV path (ths (es.take k)) = cur ++ [nm]) {q : Nat} {la : Txt} (hq : cur[q]? = some la) : Lt la nm := by
  have h1 : Rise (ths (es.take k)) := mapT_rise.2 (hr.sublist (List.take_sublist _ _))
  have h2 := names_rise h1 path
  rw [h] at h2
  exact (List.pairwise_append.1 h2).2.2 _ (List.mem_of_getElem? hq) nm (by simp)
end Go.Cat.Tree
namespace Go.Proofs.YtabecceojbeomaaGreatDoor
open Go.RowKit Go.Cat Go.Cat.Dir Go.Cat.Tree
set_option maxRecDepth 100000 in
set_option maxHeartbeats 8000000 in
theorem rnames_any (I J : Int) (A : Option Addr) (es : List (Txt × El)) (c : Nat) (path : Txt) (w : World) (h : RT w A c es) (hv : ∀ y ∈ es, abe y.1 = 0 ∧ y.1.length < 4294967281) (hr : Rise es) (hn : es.length ≤ 100000) :
    Calls Tryz.prog 38 #[.agg #[.int .i64 I, .int .i64 J, .slice A es.length c], .string (bs path)] w (ToldT (namesV path (ths es)) w) := by
  have HRT := Lib.hid h
  have HV := Lib.hid hv
  have HRise := Lib.hid hr
  obtain ⟨n, hnn⟩ : ∃ n, n = es.length := ⟨_, rfl⟩
  have HN := Lib.hid hnn
  rw [← hnn] at hn ⊢
  obtain ⟨W0, hW0⟩ : ∃ W0, W0 = w.alloc (.cells #[.int .i64 I, .int .i64 J, .slice A n c] 53) := ⟨_, rfl⟩
  have h1 : Below w.heap.size w W0 := by rw [hW0]; exact (Below.refl _ _).alloc (Nat.le_refl _) _
  have HT0 : Hid (W0.heap[w.heap.size]? = some (.cells #[.int .i64 I, .int .i64 J, .slice A n c] 53 (0, 0))) := Lib.hid (by rw [hW0]; exact heap_alloc_new _ _)
  have HB0 := Lib.hid h1
  have HS0 : Hid (W0.heap.size = w.heap.size + 1) := by show _ = _; rw [hW0]; simp
  have HW0 := Lib.hid hW0
  have P1 := Lib.hid (fun (y : Txt × El) (hy : y ∈ es) W => rabove_any y.1 W (hv y hy).2)
  clear hnn h h1 hW0 hv hr
  go_enter Tryz.func38, Tryz.ntmps38
  go_upto_region 1 with (fail)
  rw [← HW0.out]
  clear HW0
  go_wp2_with fail
  go_loopw [5, 6] (fun ov iv wr => ∃ (k r : Nat) (A2 : Option Addr) (c2 : Nat), k ≤ n ∧ r ≤ k ∧ iv = .int .i64 k ∧ ov = .slice A2 r c2 ∧ r ≤ c2 ∧ c2 ≤ maxLen ∧ Hid (r = (namesV path (ths (es.take k))).length) ∧ Hid (wr.ownsRow (w.heap.size + 1) 9 1 (.slice A2 r c2) r ((namesV path (ths (es.take k))).map sv)) ∧ Hid (Below (w.heap.size + 1) W0 wr)) (fun _ iv _ => n - (intOf iv).toNat)
  case atStart => exact ⟨0, 0, none, 0, Nat.zero_le _, Nat.le_refl _, rfl, rfl, Nat.le_refl _, Nat.zero_le _, rfl, World.ownsRow_nil _ _ _ _, Below.refl _ _⟩
  case round =>
    obtain ⟨k, r, A2, c2, hk, hrk, rfl, rfl, hrc, hcm, HRk, HO, HB⟩ := hrel
    have t2 : wr.cell? ⟨w.heap.size, 2, none⟩ = some (.slice A n c) := cell_of_row _ _ 2 _ _ _ (blk_in HB.out HT0.out (by omega))
    have HBw := Lib.hid (HB0.out.trans (HB.out.mono (show w.heap.size ≤ w.heap.size + 1 by omega)))
    have HSz : Hid (w.heap.size + 1 ≤ wr.heap.size) := by show _ ≤ _; have := HB.out.size; rw [HS0.out] at this; exact this
    by_cases hlt : k < n
    · have hkl : k < es.length := by have := HN.out; omega
      obtain ⟨y, hy⟩ : ∃ y, y = es[k] := ⟨_, rfl⟩
      obtain ⟨b, off, rfl, hb, hc⟩ := HRT.out.at_ hkl hy
      obtain ⟨e0, _, _⟩ := hc wr HBw.out
      have hym : y ∈ es := by rw [hy]; exact List.getElem_mem _
      have hd := names_step hkl path (by rw [← hy]; exact (HV.out y hym).1)
      rw [← hy] at hd
      have P2 := Lib.hid (P1.out y hym wr)
      unfold ToldAb at P2
      obtain ⟨up, hup⟩ : ∃ up, up = (abv y.1).1 := ⟨_, rfl⟩
      obtain ⟨nm, hnm⟩ : ∃ nm, nm = (abv y.1).2 := ⟨_, rfl⟩
      rw [← hup, ← hnm] at hd P2
      have hkI : (k : Int) < (n : Int) := by omega
      have hk0 : (0 : Int) ≤ (k : Int) := by omega
      clear hy hc hb hkl hym hup hnm
      by_cases he : up = path
      · have d2 : ((bs up).toList == (bs path).toList) = true := by rw [he]; simp
        rw [if_pos he] at hd
        have HD := Lib.hid hd
        clear he hd
        go_wp2_with fail
        refine (P2.out).mono ?_
        rintro e w2 ⟨rfl, hB2⟩
        have HB2 := Lib.hid (HB.out.trans (hB2.mono HSz.out))
        have HO2 := Lib.hid (own_texts HO.out hB2)
        have HCur := HRk.out
        have hlast : ∀ q la, (namesV path (ths (es.take k)))[q]? = some la → Lt la nm := fun q la hq => names_last HRise.out (k + 1) path nm HD.out hq
        have HS2 : Hid (w.heap.size + 1 ≤ w2.heap.size) := by show _ ≤ _; have := HB2.out.size; rw [HS0.out] at this; exact this
        obtain ⟨cur, hcur⟩ : ∃ cur, cur = namesV path (ths (es.take k)) := ⟨_, rfl⟩
        rw [← hcur] at HCur HO2 HD HRk
        rw [← hcur] at hlast
        have HLast := Lib.hid hlast
        clear hB2 P2 t2 HBw HO HB hcur hlast e0
        have hc0 := Lib.hid (Sees.of_own HO2.out)
        have hrI : (0 : Int) ≤ (r : Int) := by omega
        clear HCur
        go_wp2_with fail
        go_loopw [10] (fun jv wr => jv = .int .i64 r ∧ w2 = wr) (fun _ _ => 0)
        case atStart => exact ⟨rfl, rfl⟩
        case round =>
          obtain ⟨rfl, rfl⟩ := hrel
          by_cases hr0 : r = 0
          case' pos =>
            have g1 : decide ((0 : Int) < (r : Int)) = false := by simp; omega
            have g2 : decide (0 < r) = false := by simp; omega
            have HR0 := Lib.hid hr0
            clear hr0
            go_upto_region 10 with (fail)
          case' neg =>
            obtain ⟨q, hq⟩ : ∃ q, r = q + 1 := ⟨r - 1, by omega⟩
            have hql : q + 1 = cur.length := by rw [← hq]; exact HRk.out
            obtain ⟨bb, oo, hA2, _, hcell⟩ := Texts.at_ hc0.out (k := q) (by omega)
            obtain ⟨la, hla⟩ : ∃ la, la = cur[q]'(by omega) := ⟨_, rfl⟩
            have hlq := HLast.out q la (by rw [hla]; exact List.getElem?_eq_getElem _)
            rw [← hla] at hcell
            have dl : (Op.bytesLess (bs la).toList (bs nm).toList || ((bs la).toList == (bs nm).toList)) = true := by rw [bs_toList, bs_toList, less_bef, show bytesBefore la nm = true from hlq]; rfl
            have dl' : Op.bytesLess (bs la).toList (bs nm).toList = true ∨ (bs la).toList = (bs nm).toList := by simpa using dl
            have g1 : decide ((0 : Int) < (r : Int)) = true := by simp; omega
            have g2 : decide (0 < r) = true := by simp; omega
            have hqr : (r : Int) - 1 = (q : Int) := by omega
            have hqw : IntKind.i64.wrap ((r : Int) - 1) = (q : Int) := by rw [hqr]; exact IntWalk.i64_in _ (by omega)
            have hqn : q < r := by omega
            have hqI : (q : Int) < (r : Int) := by omega
            have hq0 : (0 : Int) ≤ (q : Int) := by omega
            have HQ := Lib.hid hq
            clear hr0 hq hql hla hlq
            subst hA2
            go_upto_region 10 with (fail)
            clear hcell dl dl' hqr hqw hqn hqI hq0 HQ
            generalize (some (⟨bb, oo, none⟩ : Addr)) = A2 at HO2 hc0 ⊢
          all_goals
            clear g1 g2
            have hrr : r ≤ r := Nat.le_refl _
            unfold maxLen at hcm
            rcases (show A2 = none ∨ (∃ ad, A2 = some ad ∧ c2 = r) ∨ (∃ ad, A2 = some ad ∧ c2 ≠ r) from by cases A2 with
              | none => exact .inl rfl
              | some ad => by_cases h : c2 = r
                           · exact .inr (.inl ⟨ad, rfl, h⟩)
                           · exact .inr (.inr ⟨ad, rfl, h⟩)) with rfl | ⟨ad, rfl, hcr⟩ | ⟨ad, rfl, hcr⟩
          all_goals
            go_wp2_with (at_builtin; refine wpList_app elem_str rfl _ (.tmp 50) rfl (w.heap.size + 1) (.slice none 0 0) 0 [] rfl (World.ownsRow_nil w2 (w.heap.size + 1) 9 1) _ 0 _ [] rfl (.inl rfl) rfl (by intro u hu; cases hu) (by omega) HS2.out ?_)
            intro v3 w3 hown hgr _
            obtain ⟨A3, c3, rfl, _, _⟩ := own_full hown
            have hb3 : Below w2.heap.size w2 w3 := (Below.refl _ _).grown hgr (Nat.le_refl _) (fun k hk => by cases hk)
            have HB3 := Lib.hid (HB2.out.trans (hb3.mono HS2.out))
            have HS3 : Hid (w.heap.size + 1 ≤ w3.heap.size) := Nat.le_trans HS2.out hb3.size
            have HC3 := Lib.hid (Sees.below hc0.out hb3)
            clear hown hgr hb3
            go_wp2_with (at_builtin; refine wpList_app elem_str rfl _ (.tmp 54) rfl (w.heap.size + 1) (.slice none 0 0) 0 [] rfl (World.ownsRow_nil w3 (w.heap.size + 1) 9 1) _ r _ (cur.map sv) rfl HC3.out (by rw [List.length_map, ← HRk.out, Nat.mul_one]) (by intro u hu; obtain ⟨_, _, rfl⟩ := List.mem_map.1 hu; rfl) (by omega) HS3.out ?_)
            intro v4 w4 hown hgr _
            obtain ⟨A4, c4, rfl, _, _⟩ := own_full hown
            have hb4 : Below w3.heap.size w3 w4 := (Below.refl _ _).grown hgr (Nat.le_refl _) (fun k hk => by cases hk)
            have HB4 := Lib.hid (HB3.out.trans (hb4.mono HS3.out))
            have HS4 : Hid (w.heap.size + 1 ≤ w4.heap.size) := Nat.le_trans HS3.out hb4.size
            have HOa := Lib.hid (World.ownsRow.alloc hown (.cells #[.string (bs nm)] 9))
            have HBa := Lib.hid (HB4.out.alloc HS4.out (.cells #[.string (bs nm)] 9))
            have HSa : Hid (w.heap.size + 1 ≤ (w4.alloc (.cells #[.string (bs nm)] 9)).heap.size) := by show _ ≤ _; have := HS4.out; simp; omega
            clear hown hgr hb4
            go_wp2_with (at_builtin; refine wpList_app elem_str rfl (.tmp 55) (.tmp 57) rfl (w.heap.size + 1) (.slice A4 r c4) r (cur.map sv) rfl HOa.out (some ⟨_, 0, none⟩) 1 1 [.string (bs nm)] rfl (sees_new _ _ _) rfl (by intro u hu; simp at hu; subst hu; rfl) (by omega) HSa.out ?_)
            intro v5 w5 hown hgr _
            obtain ⟨A5, c5, rfl, _, _⟩ := own_full hown
            have HB5 := Lib.hid (HBa.out.own HOa.out hgr HSa.out (Nat.le_refl _))
            have HO5 := Lib.hid hown
            have HS5 : Hid (w.heap.size + 1 ≤ w5.heap.size) := Nat.le_trans HSa.out hgr.size
            clear hown hgr
            go_wp2_with (at_builtin; refine wpList_app elem_str rfl (.tmp 58) (.tmp 59) rfl (w.heap.size + 1) (.slice A5 (r + 1) c5) (r + 1) (cur.map sv ++ [.string (bs nm)]) rfl HO5.out A3 0 c3 [] rfl (.inl rfl) rfl (by intro u hu; cases hu) (by omega) HS5.out ?_)
            intro v6 w6 hown hgr _
            obtain ⟨A6, c6, rfl, h61, h62⟩ := own_full hown
            have HB6 := Lib.hid (HB5.out.own HO5.out hgr HS5.out (Nat.le_refl _))
            have HO6 : Hid (w6.ownsRow (w.heap.size + 1) 9 1 (.slice A6 (r + 1) c6) (r + 1) ((namesV path (ths (es.take (k + 1)))).map sv)) := by show World.ownsRow _ _ _ _ _ _ _; rw [HD.out, List.map_append]; exact hown
            have HR6 : Hid (r + 1 = (namesV path (ths (es.take (k + 1)))).length) := by show _ = _; rw [HD.out, List.length_append, ← HRk.out]; rfl
            have H61 := Lib.hid h61
            have H62 := Lib.hid h62
            clear hown hgr h61 h62
            go_wp2_with fail
            go_roundw
            case rel => exact ⟨k + 1, r + 1, A6, c6, by omega, by omega, by go_num, rfl, H61.out, H62.out, HR6, HO6, HB6⟩
            case measure => simp [intOf]; omega
      · have d2 : ((bs up).toList == (bs path).toList) = false := by rw [bs_toList, bs_toList]; simpa using he
        rw [if_neg he] at hd
        have HD := Lib.hid hd
        clear he hd
        go_wp2_with fail
        refine (P2.out).mono ?_
        rintro e w2 ⟨rfl, hB2⟩
        have HB2 := Lib.hid (HB.out.trans (hB2.mono HSz.out))
        have HO2 := Lib.hid (own_texts HO.out hB2)
        clear hB2 P2 t2 HBw HO HB
        go_wp2_with fail
        go_roundw
        case rel => exact ⟨k + 1, r, A2, c2, by omega, by omega, by go_num, rfl, hrc, hcm, by show _ = _; rw [HD.out]; exact HRk.out, by rw [HD.out]; exact HO2, HB2⟩
        case measure => simp [intOf]; omega
    · obtain rfl : k = n := by omega
      have hR := HRk.out
      have hO := HO.out
      rw [HN.out, List.take_length] at hR hO
      have HR := Lib.hid hR
      have HOf := Lib.hid (Sees.of_own hO)
      clear hR hO
      go_wp2_with fail
      go_ret
      exact ⟨A2, c2, by rw [HR.out]; rfl, HOf.out, HBw.out⟩
end Go.Proofs.YtabecceojbeomaaGreatDoor
end

section
/- The reference's things with the root ahead of them, plain. No condition. -/
namespace Go.Cat.Tree
open Go.RowKit Go.Cat Go.Cat.Dir Go.Proofs.YtabecceojbeomaaGreatDoor
/-- The root ahead of a reference's things. -/
def fullR (es : List (Txt × El)) : TL := ([47], ⟨true, []⟩) :: ths es
variable {es : List (Txt × El)} {p : Txt}
theorem full_length (es : List (Txt × El)) : (fullR es).length = es.length + 1 := by unfold fullR; rw [List.length_cons, ths_length]
theorem full_rise (h : Inv (fullR es)) : Rise es := mapT_rise.1 (rise_cons.1 h.rise).2
theorem full_lt (h : Inv (fullR es)) {y : Txt × El} (hy : y ∈ es) : Lt [47] y.1 := (rise_cons.1 h.rise).1 (y.1, y.2.1) (List.mem_map_of_mem (f := fun y : Txt × El => (y.1, y.2.1)) hy)
theorem full_mem {y : Txt × El} (hy : y ∈ es) : (y.1, y.2.1) ∈ fullR es := List.mem_cons_of_mem _ (List.mem_map_of_mem (f := fun y : Txt × El => (y.1, y.2.1)) hy)
theorem full_path (h : Inv (fullR es)) {y : Txt × El} (hy : y ∈ es) : ∃ ls, Nms ls ∧ ls ≠ [] ∧ y.1 = joinV ls := by
  obtain ⟨ls, h1, h2, _⟩ := h.each _ (full_mem hy)
  refine ⟨ls, h1, ?_, h2⟩
  rintro rfl
  exact lt_ne (full_lt h hy) (show [47] = y.1 from h2.symm)
theorem full_abe (h : Inv (fullR es)) {y : Txt × El} (hy : y ∈ es) : abe y.1 = 0 ∧ y.1.length < 4294967281 := by
  obtain ⟨ls, h1, h2, h3⟩ := full_path h hy
  have := join_len h1
  rw [h3]
  exact ⟨(above_join h1 h2).2, by omega⟩
theorem full_fit (h : Inv (fullR es)) {y : Txt × El} (hy : y ∈ es) : y.2.1.b.length ≤ 512 := h.fit _ (full_mem hy)
theorem full_get (p : Txt) (es : List (Txt × El)) : getT p (fullR es) = (getR p es).map Prod.fst := by
  unfold fullR getR
  by_cases hp : p = [47]
  · subst hp; rw [if_pos rfl]; rfl
  · rw [if_neg hp, ← ths_get]
    unfold getT
    rw [List.find?_cons_of_neg (by simpa using fun e => hp e.symm)]
theorem names_full (path : Txt) (es : List (Txt × El)) : namesV path (fullR es) = namesV path (ths es) := by
  unfold namesV fullR
  rw [List.filterMap_cons_none]
  unfold nameOf
  rw [if_neg (fun e => by have := e.1; rw [abe_root] at this; omega)]
theorem lt_root {ls : List Txt} (h : Nms ls) (h0 : ls ≠ []) : Lt [47] (joinV ls) := by
  rw [join_some h0]
  cases ls with
  | nil => exact absurd rfl h0
  | cons n ls =>
    have := (h.2 n (by simp)).2.2.1
    rw [List.flatMap_cons, List.cons_append]
    cases hn : n ++ ls.flatMap (fun l => 47 :: l) with
    | nil =>
      have e := congrArg List.length hn
      rw [List.length_append] at e
      simp only [List.length_nil] at e
      omega
    | cons a r => unfold Lt bytesBefore; simp [bytesBefore]
theorem full_put (h : Inv (fullR es)) {ls : List Txt} (hl : Nms ls) (h0 : ls ≠ []) (x : El) : fullR (putT (joinV ls) x es) = putT (joinV ls) x.1 (fullR es) := by
  have hr := full_rise h
  refine rise_ext ?_ (h.rise.put _ _) fun z => ?_
  · refine rise_cons.2 ⟨fun y hy => ?_, mapT_rise.2 (hr.put _ _)⟩
    obtain ⟨u, hu, rfl⟩ := List.mem_map.1 hy
    rcases put_mem.1 hu with rfl | ⟨h1, _⟩
    · exact lt_root hl h0
    · exact full_lt h h1
  · unfold fullR
    rw [put_mem, List.mem_cons, List.mem_cons, ths_put, put_mem]
    constructor
    · rintro (h1 | h1 | ⟨h1, h2⟩)
      · exact .inr ⟨.inl h1, fun e => lt_ne (lt_root hl h0) (by rw [← e, h1])⟩
      · exact .inl h1
      · exact .inr ⟨.inr h1, h2⟩
    · rintro (h1 | ⟨h1 | h1, h2⟩)
      · exact .inr (.inl h1)
      · exact .inl h1
      · exact .inr (.inr ⟨h1, h2⟩)
/-- A file with other bytes. -/
theorem full_putF (h : Inv (fullR es)) {x : Th} (hx : getT p (fullR es) = some x) (hd : x.dir = false) (y : El) : fullR (putT p y es) = putT p y.1 (fullR es) := by
  obtain ⟨ls, h1, h2, _⟩ := h.each _ (get_mem hx)
  simp only at h2
  rw [h2]
  refine full_put h h1 (fun h0 => ?_) y
  subst h0
  rw [h2, show joinV [] = [47] from rfl, h.root] at hx
  injection hx with hx
  rw [← hx] at hd
  cases hd
theorem ths_del (p : Txt) (es : List (Txt × El)) : ths (delT p es) = delT p (ths es) := mapT_del _ _ _
theorem full_del (hp : p ≠ [47]) : fullR (delT p es) = delT p (fullR es) := by
  unfold fullR
  rw [ths_del]
  unfold delT
  rw [List.filter_cons_of_pos (by simpa using fun e => hp e.symm)]
/-- The reference's sum of blocks. -/
def rsize (es : List (Txt × El)) (y : Txt × El) : Nat := if y.2.1.dir then 16 * (namesV y.1 (ths es)).length else y.2.1.b.length
def rsum (es : List (Txt × El)) (l : List (Txt × El)) : Int := need (16 * (namesV [47] (ths es)).length : Nat) + (l.map fun y => need (rsize es y)).sum
theorem rsum_snoc (es l : List (Txt × El)) (y : Txt × El) : rsum es (l ++ [y]) = rsum es l + need (rsize es y) := by
  unfold rsum
  rw [List.map_append, List.sum_append]
  simp
  omega
theorem rsum_full (h : Inv (fullR es)) : rsum es es = blocksV (fullR es) := by
  unfold rsum blocksV
  rw [show (fullR es).map (fun y => need (sizeV (fullR es) y.1)) = need (sizeV (fullR es) [47]) :: (ths es).map (fun y => need (sizeV (fullR es) y.1)) from rfl, List.sum_cons]
  have h1 : sizeV (fullR es) [47] = 16 * (namesV [47] (ths es)).length := by
    unfold sizeV thAt
    rw [h.root, names_full]
    rfl
  have h2 : (ths es).map (fun y => need (sizeV (fullR es) y.1)) = es.map fun y => need (rsize es y) := by
    rw [show ths es = es.map (fun y => (y.1, y.2.1)) from rfl, List.map_map]
    refine List.map_congr_left fun y hy => ?_
    show need (sizeV (fullR es) y.1) = need (rsize es y)
    congr 2
    unfold sizeV thAt rsize
    rw [get_of_mem h.rise (full_mem hy), names_full]
    rfl
  rw [h1, h2]
end Go.Cat.Tree
end

section
/- The contracts of the reference's Need and Blocks. Conditions: the tree's invariant, at most 1000 things. -/
namespace Go.Cat.Tree
open Go.RowKit Go.Cat
theorem need_at {size : Int} {k : Nat} (h0 : k = 0 ∨ ((k : Int) - 1) * 64 < size) (h1 : size ≤ (k : Int) * 64) : need size = (k : Int) := by
  unfold need
  split <;> omega
theorem need_far {size : Int} (h : 6336 < size) : need size = (size - 1) / 64 + 1 := by unfold need; rw [if_neg (by omega)]
theorem need_top {a b : Int} (h : a ≤ 64 * b) (hb : 0 ≤ b) : need a ≤ b := by unfold need; split <;> omega
end Go.Cat.Tree
namespace Go.Proofs.YtabecceojbeomaaGreatDoor
open Go.RowKit Go.Cat Go.Cat.Dir Go.Cat.Tree

theorem rneed_any (size : Int) (w : World) (_ : -9223372036854775808 ≤ size) (h1 : size ≤ 9223372036854775807) :
    Calls Tryz.prog 68 #[.int .i64 size] w fun e w' => e = .returned (.int .i64 (need size)) ∧ w = w' := by
  obtain ⟨V, hV⟩ : ∃ V, V = need size := ⟨_, rfl⟩
  rw [← hV]
  have HV := Lib.hid hV
  clear hV
  go_enter Tryz.func68, Tryz.ntmps68
  go_wp2_with fail
  go_loop [3] (fun iv => ∃ k : Nat, k ≤ 100 ∧ iv = .int .i64 k ∧ Hid (k = 0 ∨ ((k : Int) - 1) * 64 < size)) (fun iv => 100 - (intOf iv).toNat)
  case atStart => exact ⟨0, Nat.zero_le _, rfl, .inl rfl⟩
  case round =>
    obtain ⟨k, hk, rfl, HK⟩ := hrel
    by_cases hlt : k < 100
    · have t1 : decide ((k : Int) < 100) = true := by simp; omega
      by_cases hs : (k : Int) * 64 < size
      · have t2 : decide ((k : Int) * 64 < size) = true := by simpa using hs
        have HK2 : Hid (k + 1 = 0 ∨ (((k + 1 : Nat) : Int) - 1) * 64 < size) := .inr (by omega)
        clear hs
        go_wp2_with fail
        go_round
        case rel => exact ⟨k + 1, by omega, by go_num, HK2⟩
        case measure => simp [intOf]; omega
      · have t2 : decide ((k : Int) * 64 < size) = false := by simpa using hs
        have hv : V = (k : Int) := by rw [HV.out]; exact need_at HK.out (by omega)
        have t3 : ((k : Int) == 100) = false := by simp; omega
        subst hv
        clear hs
        go_wp2_with fail
        go_ret
        exact ⟨rfl, rfl⟩
    · obtain rfl : k = 100 := by omega
      have h3 : 6336 < size := by rcases HK.out with h | h <;> omega
      have hv : V = (size - 1) / 64 + 1 := by rw [HV.out]; exact need_far h3
      have hq : 0 ≤ (size - 1) / 64 := by omega
      have hq2 : (size - 1) / 64 ≤ 9223372036854775806 := by omega
      subst hv
      clear HK HV
      go_wp2_with fail
      go_ret
      exact ⟨rfl, rfl⟩

set_option maxRecDepth 100000 in
set_option maxHeartbeats 4000000 in
theorem rblocks_any (I J : Int) (A : Option Addr) (es : List (Txt × El)) (c : Nat) (w : World) (h : RT w A c es) (hi : Inv (fullR es)) (hn : es.length ≤ 1000) :
    Calls Tryz.prog 48 #[.agg #[.int .i64 I, .int .i64 J, .slice A es.length c]] w fun e w' => e = .returned (.int .i64 (blocksV (fullR es))) ∧ Below w.heap.size w w' := by
  have HRT := Lib.hid h
  have HFit := Lib.hid (fun (y : Txt × El) (hy : y ∈ es) => full_fit hi hy)
  have P1 := Lib.hid (fun (path : Txt) W (hW : Below w.heap.size w W) => rnames_any I J A es c path W (h.below hW) (fun y hy => full_abe hi hy) (full_rise hi) (by omega))
  have HSum := Lib.hid (rsum_full hi)
  have hnl : ∀ path, (namesV path (ths es)).length ≤ 1000 := fun path => by have := namesV_le path (ths es); rw [ths_length] at this; omega
  have HNl := Lib.hid hnl
  obtain ⟨n, hnn⟩ : ∃ n, n = es.length := ⟨_, rfl⟩
  have HN := Lib.hid hnn
  rw [← hnn] at P1 hn ⊢
  obtain ⟨V, hV⟩ : ∃ V, V = blocksV (fullR es) := ⟨_, rfl⟩
  rw [← hV] at HSum ⊢
  obtain ⟨W0, hW0⟩ : ∃ W0, W0 = w.alloc (.cells #[.int .i64 I, .int .i64 J, .slice A n c] 53) := ⟨_, rfl⟩
  have h1 : Below w.heap.size w W0 := by rw [hW0]; exact (Below.refl _ _).alloc (Nat.le_refl _) _
  have HT0 : Hid (W0.heap[w.heap.size]? = some (.cells #[.int .i64 I, .int .i64 J, .slice A n c] 53 (0, 0))) := Lib.hid (by rw [hW0]; exact heap_alloc_new _ _)
  have HB0 := Lib.hid h1
  have HS0 : Hid (W0.heap.size = w.heap.size + 1) := by show _ = _; rw [hW0]; simp
  have HW0 := Lib.hid hW0
  clear hnn h h1 hW0 hi hnl hV
  go_enter Tryz.func48, Tryz.ntmps48
  go_upto_region 1 with (fail)
  rw [← HW0.out]
  clear HW0
  have t0 : W0.cell? ⟨w.heap.size, 0, none⟩ = some (.int .i64 I) := cell_of_row _ _ 0 _ _ _ HT0.out
  have t1 : W0.cell? ⟨w.heap.size, 1, none⟩ = some (.int .i64 J) := cell_of_row _ _ 1 _ _ _ HT0.out
  have t2 : W0.cell? ⟨w.heap.size, 2, none⟩ = some (.slice A n c) := cell_of_row _ _ 2 _ _ _ HT0.out
  have p2 := P1.out [47] W0 HB0.out
  unfold ToldT at p2
  have hl0 := HNl.out [47]
  obtain ⟨q, hq⟩ : ∃ q, q = (namesV [47] (ths es)).length := ⟨_, rfl⟩
  rw [← hq] at p2 hl0
  have P2 := Lib.hid (show Calls Tryz.prog 38 #[.agg #[.int .i64 I, .int .i64 J, .slice A n c], .string ⟨#[47]⟩] W0 _ from p2)
  have hm : IntKind.i64.wrap (16 * (q : Int)) = 16 * (q : Int) := IntWalk.i64_in _ (by omega)
  have P3 := Lib.hid (fun W => rneed_any (16 * (q : Int)) W (by omega) (by omega))
  have hs0 : rsum es (es.take 0) = need (16 * (q : Int)) := by unfold rsum; rw [← hq]; simp
  have hnd : 0 ≤ need (16 * (q : Int)) ∧ need (16 * (q : Int)) ≤ 100000 := ⟨need_nonneg _, need_top (by omega) (by omega)⟩
  obtain ⟨s0, hs0'⟩ : ∃ s0, s0 = need (16 * (q : Int)) := ⟨_, rfl⟩
  rw [← hs0'] at P3 hs0 hnd
  have HQ0 := Lib.hid hs0
  clear p2 hq hs0 hs0'
  go_wp2_with fail
  refine (P2.out).mono ?_
  rintro e w2 ⟨A2, c2, rfl, _, hB2⟩
  have HB2 := Lib.hid (hB2.mono (Nat.le_of_eq HS0.out.symm))
  clear hB2 P2 t0 t1 t2
  go_wp2_with fail
  refine (P3.out _).mono ?_
  rintro e w3 ⟨rfl, rfl⟩
  clear P3
  have PN := Lib.hid (fun (z : Int) (h1 : 0 ≤ z) (h2 : z ≤ 100000) W => rneed_any z W (by omega) (by omega))
  go_wp2_with fail
  go_loopw [3, 4] (fun zv iv wr => ∃ (k : Nat) (s : Int), k ≤ n ∧ iv = .int .i64 k ∧ zv = .int .i64 s ∧ 0 ≤ s ∧ s ≤ ((k : Int) + 1) * 100000 ∧ Hid (rsum es (es.take k) = s) ∧ Hid (Below (w.heap.size + 1) W0 wr)) (fun _ iv _ => n - (intOf iv).toNat)
  case atStart => exact ⟨0, s0, Nat.zero_le _, rfl, rfl, hnd.1, by omega, HQ0, HB2⟩
  case round =>
    clear HQ0 HB2 hm hnd
    obtain ⟨k, s, hk, rfl, rfl, hs0, hs1, HRs, HB⟩ := hrel
    have t0 : wr.cell? ⟨w.heap.size, 0, none⟩ = some (.int .i64 I) := cell_of_row _ _ 0 _ _ _ (blk_in HB.out HT0.out (by omega))
    have t1 : wr.cell? ⟨w.heap.size, 1, none⟩ = some (.int .i64 J) := cell_of_row _ _ 1 _ _ _ (blk_in HB.out HT0.out (by omega))
    have t2 : wr.cell? ⟨w.heap.size, 2, none⟩ = some (.slice A n c) := cell_of_row _ _ 2 _ _ _ (blk_in HB.out HT0.out (by omega))
    have HBw := Lib.hid (HB0.out.trans (HB.out.mono (show w.heap.size ≤ w.heap.size + 1 by omega)))
    have HSz : Hid (w.heap.size + 1 ≤ wr.heap.size) := by show _ ≤ _; have := HB.out.size; rw [HS0.out] at this; exact this
    by_cases hlt : k < n
    · have hkl : k < es.length := by have := HN.out; omega
      obtain ⟨y, hy⟩ : ∃ y, y = es[k] := ⟨_, rfl⟩
      obtain ⟨b, off, rfl, hb, hc⟩ := HRT.out.at_ hkl hy
      obtain ⟨e0, e1, e2⟩ := hc wr HBw.out
      have hfit := HFit.out y (by rw [hy]; exact List.getElem_mem _)
      have hstep := rsum_snoc es (es.take k) y
      rw [hy, ← List.take_succ_eq_append_getElem hkl, ← hy, HRs.out] at hstep
      have hkI : (k : Int) < (n : Int) := by omega
      have hk0 : (0 : Int) ≤ (k : Int) := by omega
      have HStep := Lib.hid hstep
      have HC := Lib.hid hc
      clear hy hc hb hkl hstep
      cases hd : y.2.1.dir with
      | false =>
        rw [hd] at e1
        obtain ⟨m, hm⟩ : ∃ m, m = y.2.1.b.length := ⟨_, rfl⟩
        have hz : rsize es y = m := by unfold rsize; rw [hd, hm]; rfl
        rw [hz] at HStep
        rw [← hm] at e2 hfit
        have hnd : 0 ≤ need (m : Int) ∧ need (m : Int) ≤ 100000 := ⟨need_nonneg _, need_top (by omega) (by omega)⟩
        have P4 := Lib.hid (PN.out (m : Int) (by omega) (by omega) wr)
        obtain ⟨z, hz2⟩ : ∃ z, z = need (m : Int) := ⟨_, rfl⟩
        rw [← hz2] at hnd HStep P4
        have hwz : IntKind.i64.wrap (s + z) = s + z := IntWalk.i64_in _ (by omega)
        clear hm hz hz2 hd
        go_wp2_with fail
        refine (P4.out).mono ?_
        rintro e w4 ⟨rfl, rfl⟩
        clear P4
        go_wp2_with fail
        go_roundw
        case rel => exact ⟨k + 1, s + z, by omega, by go_num, rfl, by omega, by omega, HStep, HB⟩
        case measure => simp [intOf]; omega
      | true =>
        rw [hd] at e1
        obtain ⟨m, hm⟩ : ∃ m, m = (namesV y.1 (ths es)).length := ⟨_, rfl⟩
        have hz : rsize es y = 16 * m := by unfold rsize; rw [hd, hm]; rfl
        have hml := HNl.out y.1
        rw [hz] at HStep
        rw [← hm] at hml
        have HStep2 : Hid (rsum es (es.take (k + 1)) = s + need (16 * (m : Int))) := by show _ = _; rw [HStep.out]; congr 2
        have hnd : 0 ≤ need (16 * (m : Int)) ∧ need (16 * (m : Int)) ≤ 100000 := ⟨need_nonneg _, need_top (by omega) (by omega)⟩
        have P4 := Lib.hid (PN.out (16 * (m : Int)) (by omega) (by omega))
        obtain ⟨z, hz2⟩ : ∃ z, z = need (16 * (m : Int)) := ⟨_, rfl⟩
        rw [← hz2] at hnd HStep2 P4
        have hwz : IntKind.i64.wrap (s + z) = s + z := IntWalk.i64_in _ (by omega)
        have hwm : IntKind.i64.wrap (16 * (m : Int)) = 16 * (m : Int) := IntWalk.i64_in _ (by omega)
        have p7 := P1.out y.1 wr.drew HBw.out.drew
        unfold ToldT at p7
        rw [← hm] at p7
        have P7 := Lib.hid p7
        clear hm hz hz2 hd p7 HStep
        go_wp2_with fail
        go_region_law (first
          | (go_simp; go_at_call 38; with_reducible refine (P7.out).mono ?_; rintro e w5 ⟨A5, c5, rfl, _, hB5⟩)
          | fail)
        all_goals
          have HB5 := Lib.hid (HB.out.trans ((drew_below hB5).mono HSz.out))
          clear hB5 P7
          go_wp2_with fail
          refine (P4.out _).mono ?_
          rintro e w4 ⟨rfl, rfl⟩
          clear P4
          go_wp2_with fail
          go_roundw
          case rel => exact ⟨k + 1, s + z, by omega, by go_num, rfl, by omega, by omega, HStep2, HB5⟩
          case measure => simp [intOf]; omega
    · obtain rfl : k = n := by omega
      have hR := HRs.out
      rw [HN.out, List.take_length, HSum.out] at hR
      have HR := Lib.hid hR
      clear hR
      go_wp2_with fail
      go_ret
      exact ⟨by rw [HR.out]; rfl, HBw.out⟩
end Go.Proofs.YtabecceojbeomaaGreatDoor
end

section
/- The contract of the reference's at: what stands at a path. Conditions: at most 1000000 things. -/
namespace Go.Proofs.YtabecceojbeomaaGreatDoor
open Go.RowKit Go.Cat Go.Cat.Dir Go.Cat.Tree
/-- What the walks of the reference keep: the tree's box, the result's box, the row. -/
structure RqW (w : World) (I J : Int) (A : Option Addr) (n c : Nat) (es : List (Txt × El)) (G : Nat) (cs : Array Value) (t : TypeId) (wr : World) : Prop where
  tb : wr.heap[w.heap.size]? = some (.cells #[.int .i64 I, .int .i64 J, .slice A n c] 53 (0, 0))
  rb : wr.heap[G]? = some (.cells cs t (0, 0))
  rt0 : RT w A c es
  rt : RT wr A c es
  bel : Below w.heap.size w wr
  lo : w.heap.size < G
section
variable {w wr w' : World} {I J : Int} {A : Option Addr} {n c G : Nat} {es : List (Txt × El)} {cs : Array Value} {t : TypeId}
theorem RqW.new (h : RT w A c es) (I J : Int) (n : Nat) (cs : Array Value) (t : TypeId) : RqW w I J A n c es (w.heap.size + 1) cs t ((w.alloc (.cells #[.int .i64 I, .int .i64 J, .slice A n c] 53)).alloc (.cells cs t)) := by
  have h1 : Below w.heap.size w (w.alloc (.cells #[.int .i64 I, .int .i64 J, .slice A n c] 53)) := (Below.refl _ _).alloc (Nat.le_refl _) _
  have h2 : Below (w.alloc (.cells #[.int .i64 I, .int .i64 J, .slice A n c] 53)).heap.size (w.alloc (.cells #[.int .i64 I, .int .i64 J, .slice A n c] 53)) ((w.alloc (.cells #[.int .i64 I, .int .i64 J, .slice A n c] 53)).alloc (.cells cs t)) := (Below.refl _ _).alloc (Nat.le_refl _) _
  have hs : (w.alloc (.cells #[.int .i64 I, .int .i64 J, .slice A n c] 53)).heap.size = w.heap.size + 1 := by simp
  refine ⟨heap_below (heap_alloc_new _ _) h2, ?_, h, (h.below h1).below h2, h1.trans (h2.mono h1.size), Nat.lt_succ_self _⟩
  have := heap_alloc_new (w.alloc (.cells #[.int .i64 I, .int .i64 J, .slice A n c] 53)) (.cells cs t)
  rw [hs] at this
  exact this
theorem RqW.below (h : RqW w I J A n c es G cs t wr) (hb : Below wr.heap.size wr w') : RqW w I J A n c es G cs t w' :=
  ⟨heap_below h.tb hb, heap_below h.rb hb, h.rt0, h.rt.below hb, h.bel.trans (hb.mono h.bel.size), h.lo⟩
theorem RqW.facts (h : RqW w I J A n c es G cs t wr) : wr.cell? ⟨w.heap.size, 0, none⟩ = some (.int .i64 I) ∧ wr.cell? ⟨w.heap.size, 1, none⟩ = some (.int .i64 J) ∧ wr.cell? ⟨w.heap.size, 2, none⟩ = some (.slice A n c) :=
  ⟨cell_of_row _ _ 0 _ _ _ h.tb, cell_of_row _ _ 1 _ _ _ h.tb, cell_of_row _ _ 2 _ _ _ h.tb⟩
/-- A row of before the call lasts through stores into the call's own boxes. -/
theorem RT.own_box (h : RT w A c es) (hb : Below w.heap.size w wr) (ht : Tch (fun k => k = G) wr w') (hG : w.heap.size ≤ G) : RT w' A c es :=
  h.below (hb.trans (ht.below hb.size fun k e => by omega))
end
def GtR (w : World) (I J : Int) (A : Option Addr) (c : Nat) (es : List (Txt × El)) (wr : World) : Prop := RqW w I J A es.length c es (w.heap.size + 1) (rtC [] zeroE) 80 wr

set_option maxRecDepth 100000 in
set_option maxHeartbeats 4000000 in
theorem rat_any (I J : Int) (A : Option Addr) (es : List (Txt × El)) (c : Nat) (p : Txt) (w : World) (h : RT w A c es) (hn : es.length ≤ 1000000) :
    Calls Tryz.prog 37 #[.agg #[.int .i64 I, .int .i64 J, .slice A es.length c], .string (bs p)] w (ToldAt (getR p es) p w) := by
  obtain ⟨W0, hW0⟩ : ∃ W0, W0 = (w.alloc (.cells #[.int .i64 I, .int .i64 J, .slice A es.length c] 53)).alloc (.cells #[.string ⟨#[]⟩, .bool false, .slice none 0 0] 80) := ⟨_, rfl⟩
  have h0 : GtR w I J A c es W0 := by rw [hW0]; exact RqW.new h I J es.length _ _
  obtain ⟨V, hV⟩ : ∃ V, V = getR p es := ⟨_, rfl⟩
  rw [← hV]
  have HV := Lib.hid hV
  obtain ⟨n, hnn⟩ : ∃ n, n = es.length := ⟨_, rfl⟩
  have HN := Lib.hid hnn
  rw [← hnn] at hW0 hn ⊢
  have H0 := Lib.hid h0
  have HW0 := Lib.hid hW0
  obtain ⟨t0, t1, t2⟩ := h0.facts
  rw [← hnn] at t2
  have r0 : W0.cell? ⟨w.heap.size + 1, 0, none⟩ = some (.string ⟨#[]⟩) := cell_of_row _ _ 0 _ _ _ h0.rb
  have r1 : W0.cell? ⟨w.heap.size + 1, 1, none⟩ = some (.bool false) := cell_of_row _ _ 1 _ _ _ h0.rb
  have r2 : W0.cell? ⟨w.heap.size + 1, 2, none⟩ = some (.slice none 0 0) := cell_of_row _ _ 2 _ _ _ h0.rb
  have z0 := frozen_of_row W0 (w.heap.size + 1) 0 _ _ h0.rb
  have z1 := frozen_of_row W0 (w.heap.size + 1) 1 _ _ h0.rb
  have z2 := frozen_of_row W0 (w.heap.size + 1) 2 _ _ h0.rb
  clear hV hnn hW0 h h0
  go_enter Tryz.func37, Tryz.ntmps37
  go_upto_region 1 with (fail)
  rw [← HW0.out]
  clear HW0
  by_cases hp : p = [47]
  · have d1 : ((bs p).toList == [47]) = true := by rw [bs_toList, hp]; rfl
    have HF : Hid (V = some rootE) := by show _ = _; rw [HV.out]; unfold getR; rw [if_pos hp]
    have HP := Lib.hid hp
    clear hp
    go_wp2_with fail
    refine bodyPost_ret (ret_rth rfl (by rfl) (set3_block _ _ _ H0.out.rb)) rfl ?_
    have ht := tch3B W0 (w.heap.size + 1) (.string ⟨#[47]⟩) (.bool true) (.slice none 0 0)
    have hB := H0.out.bel.trans (ht.below H0.out.bel.size fun k e => by omega)
    rw [HF.out, HP.out]
    exact ⟨rfl, ElAt.root _, hB⟩
  · have d1 : ((bs p).toList == [47]) = false := by rw [bs_toList]; simpa using hp
    have HV2 : Hid (V = getT p es) := by show _ = _; rw [HV.out]; unfold getR; rw [if_neg hp]
    clear HV hp
    go_wp2_with fail
    go_loopw [6] (fun iv wr => ∃ k : Nat, k ≤ n ∧ iv = .int .i64 k ∧ W0 = wr ∧ Hid (∀ j (hj : j < es.length), j < k → es[j].1 ≠ p)) (fun iv _ => n - (intOf iv).toNat)
    case atStart => exact ⟨0, Nat.zero_le _, rfl, rfl, fun j _ h => absurd h (Nat.not_lt_zero j)⟩
    case round =>
      obtain ⟨k, hk, rfl, rfl, HA⟩ := hrel
      by_cases hlt : k < n
      · have hkl : k < es.length := by have := HN.out; omega
        obtain ⟨y, hy⟩ : ∃ y, y = es[k] := ⟨_, rfl⟩
        obtain ⟨b, off, rfl, hb, hc⟩ := H0.out.rt.at_ hkl hy
        obtain ⟨e0, e1, e2⟩ := hc W0 (Below.refl _ _)
        have hkI : (k : Int) < (n : Int) := by omega
        have hk0 : (0 : Int) ≤ (k : Int) := by omega
        have HY := Lib.hid hy
        clear hy hc
        by_cases he : y.1 = p
        · have d2 : ((bs y.1).toList == (bs p).toList) = true := by rw [he]; simp
          have HF : Hid (V = some y.2) := by show _ = _; rw [HV2.out, HY.out]; exact getT_at hkl HA.out (by rw [← HY.out]; exact he)
          have HP : Hid (p = y.1) := Lib.hid he.symm
          have HE : Hid (ElAt W0 y.2) := by show ElAt _ _; rw [HY.out]; exact H0.out.rt.all _ (List.getElem_mem _)
          clear he
          go_wp2_with fail
          refine bodyPost_ret (ret_rth rfl (by rfl) (set3_block _ _ _ H0.out.rb)) rfl ?_
          have ht := tch3B W0 (w.heap.size + 1) (.string (bs y.1)) (.bool y.2.1.dir) (.slice y.2.2.1 y.2.1.b.length y.2.2.2)
          have hB := H0.out.bel.trans (ht.below H0.out.bel.size fun k e => by omega)
          rw [HF.out, HP.out]
          refine ⟨rfl, el_below ?_ hB, hB⟩
          show ElAt w y.2
          rw [HY.out]
          exact H0.out.rt0.all _ (List.getElem_mem _)
        · have d2 : ((bs y.1).toList == (bs p).toList) = false := by rw [bs_toList, bs_toList]; simpa using he
          have HA2 : Hid (∀ j (hj : j < es.length), j < k + 1 → es[j].1 ≠ p) := fun j hj hjk => by
            by_cases h : j < k
            · exact HA.out j hj h
            · obtain rfl : j = k := by omega
              rw [← HY.out]; exact he
          clear he HA
          go_wp2_with fail
          go_roundw
          case rel => exact ⟨k + 1, by omega, by go_num, by trivial, HA2⟩
          case measure => simp [intOf]; omega
      · obtain rfl : k = n := by omega
        have HF : Hid (V = none) := by show _ = _; rw [HV2.out]; exact getT_not (by have := HA.out; rw [HN.out] at this; exact this)
        go_wp2_with fail
        refine bodyPost_ret (ret_rth rfl (by rfl) (set3_block _ _ _ H0.out.rb)) rfl ?_
        have ht := tch3B W0 (w.heap.size + 1) (.string ⟨#[]⟩) (.bool false) (.slice none 0 0)
        have hB := H0.out.bel.trans (ht.below H0.out.bel.size fun k e => by omega)
        rw [HF.out]
        exact ⟨rfl, ElAt.zero _, hB⟩
end Go.Proofs.YtabecceojbeomaaGreatDoor
end

section
/- The contracts of the reference's find and place. Conditions: the tree's invariant; a path below 2^32 bytes. -/
namespace Go.Cat.Tree
open Go.RowKit Go.Cat Go.Cat.Dir Go.Proofs.YtabecceojbeomaaGreatDoor
variable {es : List (Txt × El)}
theorem full_some (q : Txt) : (getT q (fullR es)).isSome = (getR q es).isSome := by rw [full_get]; cases getR q es <;> rfl
theorem rwalk_step {ls : List Txt} {k : Nat} (hk : k < ls.length) {x : Th} (hd : x.dir = true) :
    walkV (fullR es) (ls.take k) x (ls.drop k) = if (getR (joinV (ls.take (k + 1))) es).isSome then walkV (fullR es) (ls.take (k + 1)) ((getR (joinV (ls.take (k + 1))) es).getD zeroE).1 (ls.drop (k + 1)) else (13, zeroT) := by
  rw [List.drop_eq_getElem_cons hk, walkV, if_pos hd, ← List.take_succ_eq_append_getElem hk, full_get]
  cases getR (joinV (ls.take (k + 1))) es <;> rfl
theorem getR_el {w : World} {A : Option Addr} {c : Nat} (h : RT w A c es) (q : Txt) : ElAt w ((getR q es).getD zeroE) := by
  unfold getR
  by_cases hq : q = [47]
  · rw [if_pos hq]; exact ElAt.root w
  · rw [if_neg hq]
    cases hg : getT q es with
    | none => exact ElAt.zero w
    | some y => exact h.all _ (get_mem hg)
end Go.Cat.Tree
namespace Go.Proofs.YtabecceojbeomaaGreatDoor
open Go.RowKit Go.Cat Go.Cat.Dir Go.Cat.Tree
/-- What find tells. -/
def ToldRF (r : Int × Th) (p : Txt) (w : World) (e : Ending) (w' : World) : Prop := ∃ x : El, e = .returned (.tuple #[.agg (rtC (if r.1 = 0 then p else []) x), .int .i64 r.1]) ∧ x.1 = r.2 ∧ ElAt w x ∧ Below w.heap.size w w'
theorem ToldRF.no {c : Int} {p : Txt} {w w' : World} (h0 : c ≠ 0) (h : Below w.heap.size w w') : ToldRF (c, zeroT) p w (.returned (.tuple #[.agg #[.string ⟨#[]⟩, .bool false, .slice none 0 0], .int .i64 c])) w' := ⟨zeroE, by simp only; rw [if_neg h0]; rfl, rfl, .zero _, h⟩

set_option maxRecDepth 100000 in
set_option maxHeartbeats 8000000 in
theorem rfind_any (I J : Int) (A : Option Addr) (es : List (Txt × El)) (c : Nat) (p : Txt) (w : World) (h : RT w A c es) (hn : es.length ≤ 1000) (hp : p.length < 4294967281) :
    Calls Tryz.prog 44 #[.agg #[.int .i64 I, .int .i64 J, .slice A es.length c], .string (bs p)] w (ToldRF (findV (fullR es) p) p w) := by
  have HRT := Lib.hid h
  obtain ⟨V, hV⟩ : ∃ V, V = findV (fullR es) p := ⟨_, rfl⟩
  rw [← hV]
  have PAt := Lib.hid (fun (q : Txt) W (hW : Below w.heap.size w W) => rat_any I J A es c q W (h.below hW) (by omega))
  obtain ⟨n, hnn⟩ : ∃ n, n = es.length := ⟨_, rfl⟩
  rw [← hnn] at PAt ⊢
  have h1 : Below w.heap.size w (w.alloc (.cells #[.int .i64 I, .int .i64 J, .slice A n c] 53)) := (Below.refl _ _).alloc (Nat.le_refl _) _
  obtain ⟨W0, hW0⟩ : ∃ W0, W0 = (w.alloc (.cells #[.int .i64 I, .int .i64 J, .slice A n c] 53)).alloc (.cells #[.string ⟨#[]⟩, .bool false, .slice none 0 0] 80) := ⟨_, rfl⟩
  have h2 : Below (w.heap.size + 1) (w.alloc (.cells #[.int .i64 I, .int .i64 J, .slice A n c] 53)) W0 := by rw [hW0]; exact (Below.refl _ _).alloc (by simp) _
  have HT0 := Lib.hid (blk_in h2 (heap_alloc_new w (.cells #[.int .i64 I, .int .i64 J, .slice A n c] 53)) (Nat.lt_succ_self _))
  have hr0 : W0.heap[w.heap.size + 1]? = some (.cells #[.string ⟨#[]⟩, .bool false, .slice none 0 0] 80 (0, 0)) := by
    have := heap_alloc_new (w.alloc (.cells #[.int .i64 I, .int .i64 J, .slice A n c] 53)) (.cells #[.string ⟨#[]⟩, .bool false, .slice none 0 0] 80)
    rw [← hW0] at this
    simpa using this
  have HR0 := Lib.hid hr0
  have HB0 := Lib.hid (h1.trans (h2.mono (Nat.le_succ _)))
  have HS0 : Hid (W0.heap.size = w.heap.size + 2) := by show _ = _; rw [hW0]; simp
  have HW0 := Lib.hid hW0
  have P1 := rsplit_any p W0 hp
  unfold ToldSp at P1
  cases hs : splitV p with
  | none =>
    rw [(spl_none hs).1, (spl_none hs).2] at P1
    have HP1 := Lib.hid P1
    have HF : Hid (V = (18, zeroT)) := by show _ = _; rw [hV]; unfold findV; rw [hs]
    clear P1 hV hs hnn h h1 h2 hr0 hW0 PAt
    go_enter Tryz.func44, Tryz.ntmps44
    go_upto_region 1 with (fail)
    rw [← HW0.out]
    clear HW0
    go_wp2_with fail
    refine (HP1.out).mono ?_
    rintro e w1 ⟨A1, c1, rfl, _, _, _, hB1⟩
    have hx := heap_below HR0.out hB1
    have v0 := frozen_of_row w1 (w.heap.size + 1) 0 _ _ hx
    have v1 := frozen_of_row w1 (w.heap.size + 1) 1 _ _ hx
    have v2 := frozen_of_row w1 (w.heap.size + 1) 2 _ _ hx
    have s0 : w1.cell? ⟨w.heap.size + 1, 0, none⟩ = some (.string ⟨#[]⟩) := cell_of_row _ _ 0 _ _ _ hx
    have s1 : w1.cell? ⟨w.heap.size + 1, 1, none⟩ = some (.bool false) := cell_of_row _ _ 1 _ _ _ hx
    have s2 : w1.cell? ⟨w.heap.size + 1, 2, none⟩ = some (.slice none 0 0) := cell_of_row _ _ 2 _ _ _ hx
    have HX := Lib.hid hx
    have HB1 := Lib.hid (HB0.out.trans (hB1.mono HB0.out.size))
    clear hx hB1 HP1
    go_wp2_with fail
    refine bodyPost_ret (ret_rth rfl (by rfl) (set3_block _ _ _ HX.out)) rfl ?_
    rw [HF.out]
    exact ToldRF.no (by decide) (HB1.out.trans ((tch3B _ _ _ _ _).below HB1.out.size fun k e => by omega))
  | some ls =>
    rw [(spl_some hs).1, (spl_some hs).2] at P1
    obtain ⟨hN, hpj⟩ := nms_split hs
    have h8 := hN.1
    have hv : walkV (fullR es) (ls.take 0) rootE.1 (ls.drop 0) = V := by rw [hV]; unfold findV; rw [hs]; rfl
    have hj : ∀ k, ((ls.take k).flatMap (fun l => 47 :: l)).length ≤ 1000000 := fun k => by
      have := names_len (ls := ls.take k) (fun l hl => hN.2 l (List.mem_of_mem_take hl))
      rw [List.length_take] at this
      omega
    have PJ0 := Lib.hid (fun k B cB W (h : Texts W B ls) => rjoin_any B (ls.take k) cB W (Texts.take_ h _) (hj k) (by rw [List.length_take]; omega))
    obtain ⟨m, hm⟩ : ∃ m, m = ls.length := ⟨_, rfl⟩
    have HM := Lib.hid hm
    have HPj := Lib.hid hpj
    have HV := Lib.hid hv
    rw [← hm] at P1 h8
    have HP1 := Lib.hid P1
    clear P1 hV hs hnn h h1 h2 hr0 hW0 hv hm hpj hj hN
    go_enter Tryz.func44, Tryz.ntmps44
    go_upto_region 1 with (fail)
    rw [← HW0.out]
    clear HW0
    go_wp2_with fail
    refine (HP1.out).mono ?_
    rintro e w1 ⟨B, cB, rfl, htx, hc1, hm1, hB1⟩
    have HT1 := Lib.hid (heap_below HT0.out hB1)
    have HR1 := Lib.hid (heap_below HR0.out hB1)
    have HBw1 := Lib.hid (HB0.out.trans (hB1.mono HB0.out.size))
    have HSz1 : Hid (w.heap.size + 2 ≤ w1.heap.size) := by show _ ≤ _; have := hB1.size; rw [HS0.out] at this; exact this
    have HTx := Lib.hid (fun W (hW : Below w1.heap.size w1 W) => Sees.below htx hW)
    have hx2 := heap_alloc_new w1 (.cells #[.string ⟨#[47]⟩, .bool true, .slice none 0 0] 80)
    have HB2 := Lib.hid ((Below.refl w1.heap.size w1).alloc (Nat.le_refl _) (.cells #[.string ⟨#[47]⟩, .bool true, .slice none 0 0] 80))
    have HX2 := Lib.hid hx2
    clear htx hB1 hx2 HP1 HT0 HR0 HB0
    unfold maxLen at hm1
    go_wp2_with fail
    go_loopw [9] (fun iv wr => ∃ (k : Nat) (x : El), k ≤ m ∧ iv = .int .i64 k ∧ Hid (walkV (fullR es) (ls.take k) x.1 (ls.drop k) = V) ∧ Hid (ElAt w x) ∧ Hid (wr.heap[w1.heap.size]? = some (.cells (rtC (joinV (ls.take k)) x) 80 (0, 0))) ∧ Hid (Below w1.heap.size w1 wr)) (fun iv _ => m - (intOf iv).toNat)
    case atStart => exact ⟨0, rootE, Nat.zero_le _, rfl, HV, ElAt.root _, HX2, HB2⟩
    case round =>
      clear HB2 HX2 HV
      obtain ⟨k, x, hk, rfl, HV, HEl, HX, HB⟩ := hrel
      obtain ⟨pk, hpk⟩ : ∃ pk, pk = joinV (ls.take k) := ⟨_, rfl⟩
      rw [← hpk] at HX
      have HPk := Lib.hid hpk
      clear hpk
      have f0 : wr.cell? ⟨w1.heap.size, 0, none⟩ = some (.string (bs pk)) := cell_of_row _ _ 0 _ _ _ HX.out
      have f1 : wr.cell? ⟨w1.heap.size, 1, none⟩ = some (.bool x.1.dir) := cell_of_row _ _ 1 _ _ _ HX.out
      have f2 : wr.cell? ⟨w1.heap.size, 2, none⟩ = some (.slice x.2.1 x.1.b.length x.2.2) := cell_of_row _ _ 2 _ _ _ HX.out
      have HSz := Lib.hid (Nat.le_trans HSz1.out HB.out.size)
      have HBw := Lib.hid (HBw1.out.trans (HB.out.mono HBw1.out.size))
      have hr := blk_in HB.out HR1.out (by have := HSz1.out; omega)
      have v0 := frozen_of_row wr (w.heap.size + 1) 0 _ _ hr
      have v1 := frozen_of_row wr (w.heap.size + 1) 1 _ _ hr
      have v2 := frozen_of_row wr (w.heap.size + 1) 2 _ _ hr
      have s0 : wr.cell? ⟨w.heap.size + 1, 0, none⟩ = some (.string ⟨#[]⟩) := cell_of_row _ _ 0 _ _ _ hr
      have s1 : wr.cell? ⟨w.heap.size + 1, 1, none⟩ = some (.bool false) := cell_of_row _ _ 1 _ _ _ hr
      have s2 : wr.cell? ⟨w.heap.size + 1, 2, none⟩ = some (.slice none 0 0) := cell_of_row _ _ 2 _ _ _ hr
      have HRr := Lib.hid hr
      clear hr
      by_cases hlt : k < m
      · have hkl : k < ls.length := by rw [← HM.out]; exact hlt
        cases hd : x.1.dir with
        | false =>
          rw [hd] at f1
          have HF : Hid (V = (14, zeroT)) := by
            show _ = _
            rw [← HV.out, List.drop_eq_getElem_cons hkl, walkV, if_neg (by rw [hd]; simp)]
          clear hkl hd
          go_wp2_with fail
          refine bodyPost_ret (ret_rth rfl (by rfl) (set3_block _ _ _ HRr.out)) rfl ?_
          rw [HF.out]
          exact ToldRF.no (by decide) (HBw.out.trans ((tch3B _ _ _ _ _).below HBw.out.size fun k e => by omega))
        | true =>
          rw [hd] at f1
          have t0 : wr.cell? ⟨w.heap.size, 0, none⟩ = some (.int .i64 I) := cell_of_row _ _ 0 _ _ _ (blk_in HB.out HT1.out (by have := HSz1.out; omega))
          have t1 : wr.cell? ⟨w.heap.size, 1, none⟩ = some (.int .i64 J) := cell_of_row _ _ 1 _ _ _ (blk_in HB.out HT1.out (by have := HSz1.out; omega))
          have t2 : wr.cell? ⟨w.heap.size, 2, none⟩ = some (.slice A n c) := cell_of_row _ _ 2 _ _ _ (blk_in HB.out HT1.out (by have := HSz1.out; omega))
          have k0 : ∀ o, (wr.alloc o).cell? ⟨w.heap.size, 0, none⟩ = some (.int .i64 I) := fun o => (World.cell?_alloc_lt wr o _ (World.block_lt_of_cell? _ _ t0)).trans t0
          have k1 : ∀ o, (wr.alloc o).cell? ⟨w.heap.size, 1, none⟩ = some (.int .i64 J) := fun o => (World.cell?_alloc_lt wr o _ (World.block_lt_of_cell? _ _ t1)).trans t1
          have k2 : ∀ o, (wr.alloc o).cell? ⟨w.heap.size, 2, none⟩ = some (.slice A n c) := fun o => (World.cell?_alloc_lt wr o _ (World.block_lt_of_cell? _ _ t2)).trans t2
          obtain ⟨b, off, rfl, hbl, hcb⟩ := Texts.at_ (HTx.out w1 (Below.refl _ _)) hkl
          have hstep := rwalk_step (es := es) hkl hd
          obtain ⟨q, hq⟩ : ∃ q, q = joinV (ls.take (k + 1)) := ⟨_, rfl⟩
          rw [← hq] at hstep
          have hz := getR_el HRT.out q
          obtain ⟨z, hzz⟩ : ∃ z, z = (getR q es).getD zeroE := ⟨_, rfl⟩
          obtain ⟨zq, hzq⟩ : ∃ zq, zq = if (getR q es).isSome then q else [] := ⟨_, rfl⟩
          obtain ⟨mt, hmt⟩ : ∃ mt, mt = (getR q es).isSome := ⟨_, rfl⟩
          have hqz : mt = true → zq = q := fun h => by rw [hzq, ← hmt, h]; rfl
          have pa := fun W hW => PAt.out q W hW
          unfold ToldAt rtC at pa
          rw [← hzz] at hz hstep
          rw [← hmt] at hstep
          simp only [← hzq] at pa
          simp only [← hzz, ← hmt] at pa
          have pj : ∀ W, Below w1.heap.size w1 W → Calls Tryz.prog 67 #[.slice (some ⟨b, off, none⟩) (k + 1) cB] W fun e w' => e = .returned (.string (bs q)) ∧ W = w' := fun W hW => by
            have := PJ0.out (k + 1) (some ⟨b, off, none⟩) cB W (HTx.out W hW)
            rw [List.length_take, Nat.min_eq_left (by omega), ← hq] at this
            exact this
          have hb3 : Below wr.heap.size wr (wr.alloc (.cells #[.string ⟨#[]⟩, .bool false, .slice none 0 0] 80)) := (Below.refl _ _).alloc (Nat.le_refl _) _
          have PJ1 := Lib.hid (pj wr.drew HB.out.drew)
          have PJ2 := Lib.hid (pj (wr.alloc (.cells #[.string ⟨#[]⟩, .bool false, .slice none 0 0] 80)).drew (HB.out.trans (hb3.mono HB.out.size)).drew)
          have PA1 := Lib.hid (pa wr.drew HBw.out.drew)
          have PA2 := Lib.hid (pa (wr.alloc (.cells #[.string ⟨#[]⟩, .bool false, .slice none 0 0] 80)).drew (HBw.out.trans (hb3.mono HBw.out.size)).drew)
          have G2 : Hid (∀ W, Below (wr.alloc (.cells #[.string ⟨#[]⟩, .bool false, .slice none 0 0] 80)).drew.heap.size (wr.alloc (.cells #[.string ⟨#[]⟩, .bool false, .slice none 0 0] 80)).drew W → Hid (W.heap[wr.heap.size]? = some (.cells #[.string ⟨#[]⟩, .bool false, .slice none 0 0] 80 (0, 0))) ∧ W.cell? ⟨wr.heap.size, 0, none⟩ = some (.string ⟨#[]⟩) ∧ W.cell? ⟨wr.heap.size, 1, none⟩ = some (.bool false) ∧ W.cell? ⟨wr.heap.size, 2, none⟩ = some (.slice none 0 0) ∧ W.frozen? ⟨wr.heap.size, 0, none⟩ = false ∧ W.frozen? ⟨wr.heap.size, 1, none⟩ = false ∧ W.frozen? ⟨wr.heap.size, 2, none⟩ = false ∧ wr.heap.size < W.heap.size) := fun W hW => by
            have hx := heap_below (heap_alloc_new wr (.cells #[.string ⟨#[]⟩, .bool false, .slice none 0 0] 80)) (drew_below hW)
            exact ⟨hx, cell_of_row _ _ 0 _ _ _ hx, cell_of_row _ _ 1 _ _ _ hx, cell_of_row _ _ 2 _ _ _ hx, frozen_of_row _ _ 0 _ _ hx, frozen_of_row _ _ 1 _ _ hx, frozen_of_row _ _ 2 _ _ hx, heap_lt hx⟩
          have HB3 := Lib.hid hb3
          have HZ := Lib.hid hz
          have HQZ := Lib.hid hqz
          have HQ := Lib.hid hq
          have HStep := Lib.hid hstep
          have hkc : k + 1 ≤ cB := by omega
          have hkcI : (k : Int) + 1 ≤ (cB : Int) := by omega
          have hk0 : (0 : Int) ≤ (k : Int) + 1 := by omega
          have hkw : IntKind.i64.wrap ((k : Int) + 1) = (k : Int) + 1 := IntWalk.i64_in _ (by omega)
          clear hd hkl hbl hcb hstep hq hz hzz hzq hmt hqz pa pj hb3
          go_wp2_with fail
          go_region_law (first
            | (go_simp; go_at_call 67; with_reducible refine (PJ1.out).mono ?_; rintro e w5 ⟨rfl, rfl⟩)
            | (go_simp; go_at_call 67; with_reducible refine (PJ2.out).mono ?_; rintro e w5 ⟨rfl, rfl⟩)
            | (go_simp; go_at_call 37; with_reducible refine (PA1.out).mono ?_; rintro e w5 ⟨rfl, _, hB5⟩; have HB5 := Lib.hid (drew_below hB5); clear hB5)
            | (go_simp; go_at_call 37; with_reducible refine (PA2.out).mono ?_; rintro e w5 ⟨rfl, _, hB5⟩; obtain ⟨HX5, c0, c1, c2, z0, z1, z2, l5⟩ := G2.out w5 hB5; have HB5 := Lib.hid (HB3.out.trans ((drew_below hB5).mono HB3.out.size)); clear hB5)
            | fail)
          all_goals
            have HB6 := Lib.hid (HB.out.trans (HB5.out.mono HB.out.size))
            have HX6 := Lib.hid (heap_below HX.out HB5.out)
            have hhl := heap_lt HX.out
          all_goals
            first
              | (have ht := tch3B w5 wr.heap.size (.string (bs zq)) (.bool z.1.dir) (.slice z.2.1 z.1.b.length z.2.2)
                 have hb7 := HB6.out.trans (ht.below HB6.out.size fun k e => by omega)
                 have hn7 := set3_block (.string (bs zq)) (.bool z.1.dir) (.slice z.2.1 z.1.b.length z.2.2) HX5.out
                 have hx7 := heap_touch HX6.out ht (fun e => by omega)
                 clear hhl ht c0 c1 c2 z0 z1 z2 l5 HX5
                 generalize ((w5.setCell ⟨wr.heap.size, 0, none⟩ (.string (bs zq))).setCell ⟨wr.heap.size, 1, none⟩ (.bool z.1.dir)).setCell ⟨wr.heap.size, 2, none⟩ (.slice z.2.1 z.1.b.length z.2.2) = W6 at hb7 hn7 hx7 ⊢
                 generalize wr.heap.size = N6 at hn7 ⊢)
              | (have hb7 := HB6.out.alloc HB6.out.size (.cells (rtC zq z) 80)
                 have hn7 := heap_alloc_new w5 (.cells (rtC zq z) 80)
                 have hx7 := heap_below HX6.out ((Below.refl _ _).alloc (Nat.le_refl _) (.cells (rtC zq z) 80))
                 clear hhl
                 generalize w5.alloc (.cells (rtC zq z) 80) = W6 at hb7 hn7 hx7 ⊢
                 generalize w5.heap.size = N6 at hn7 ⊢)
              | fail
          all_goals
            clear f0 f1 f2 t0 t1 t2 k0 k1 k2 s0 s1 s2 v0 v1 v2
            have n0 : W6.cell? ⟨N6, 0, none⟩ = some (.string (bs zq)) := cell_of_row _ _ 0 _ _ _ hn7
            have n1 : W6.cell? ⟨N6, 1, none⟩ = some (.bool z.1.dir) := cell_of_row _ _ 1 _ _ _ hn7
            have n2 : W6.cell? ⟨N6, 2, none⟩ = some (.slice z.2.1 z.1.b.length z.2.2) := cell_of_row _ _ 2 _ _ _ hn7
            have f0 : W6.cell? ⟨w1.heap.size, 0, none⟩ = some (.string (bs pk)) := cell_of_row _ _ 0 _ _ _ hx7
            have f1 : W6.cell? ⟨w1.heap.size, 1, none⟩ = some (.bool x.1.dir) := cell_of_row _ _ 1 _ _ _ hx7
            have f2 : W6.cell? ⟨w1.heap.size, 2, none⟩ = some (.slice x.2.1 x.1.b.length x.2.2) := cell_of_row _ _ 2 _ _ _ hx7
            have g0 := frozen_of_row W6 w1.heap.size 0 _ _ hx7
            have g1 := frozen_of_row W6 w1.heap.size 1 _ _ hx7
            have g2 := frozen_of_row W6 w1.heap.size 2 _ _ hx7
            have hr := blk_in hb7 HR1.out (by have := HSz1.out; omega)
            have v0 := frozen_of_row W6 (w.heap.size + 1) 0 _ _ hr
            have v1 := frozen_of_row W6 (w.heap.size + 1) 1 _ _ hr
            have v2 := frozen_of_row W6 (w.heap.size + 1) 2 _ _ hr
            have s0 : W6.cell? ⟨w.heap.size + 1, 0, none⟩ = some (.string ⟨#[]⟩) := cell_of_row _ _ 0 _ _ _ hr
            have s1 : W6.cell? ⟨w.heap.size + 1, 1, none⟩ = some (.bool false) := cell_of_row _ _ 1 _ _ _ hr
            have s2 : W6.cell? ⟨w.heap.size + 1, 2, none⟩ = some (.slice none 0 0) := cell_of_row _ _ 2 _ _ _ hr
            have HR7 := Lib.hid hr
            have HB7 := Lib.hid hb7
            have HX7 := Lib.hid hx7
            have HBw7 := Lib.hid (HBw1.out.trans (hb7.mono HBw1.out.size))
            clear hr hb7 hx7 hn7 HB6 HX6 HB5
            cases mt with
            | false =>
              have HF : Hid (V = (13, zeroT)) := by
                show _ = _
                rw [← HV.out, HStep.out]
                rfl
              go_wp2_with fail
              refine bodyPost_ret (ret_rth rfl (by rfl) (set3_block _ _ _ HR7.out)) rfl ?_
              rw [HF.out]
              exact ToldRF.no (by decide) (HBw7.out.trans ((tch3B _ _ _ _ _).below HBw7.out.size fun k e => by omega))
            | true =>
              have HV2 : Hid (walkV (fullR es) (ls.take (k + 1)) z.1 (ls.drop (k + 1)) = V) := by
                show _ = _
                rw [← HV.out, HStep.out]
                rfl
              have HZq : Hid (zq = joinV (ls.take (k + 1))) := by show _ = _; rw [HQZ.out rfl, HQ.out]
              go_wp2_with fail
              refine ⟨⟨k + 1, z, by omega, by go_num, HV2, HZ, ?_, ?_⟩, by simp [intOf]; omega⟩
              · show _ = _
                rw [← HZq.out]
                exact set3_block _ _ _ HX7.out
              · exact HB7.out.trans ((tch3B _ _ _ _ _).below HB7.out.size fun k e => by omega)
      · obtain rfl : k = m := by omega
        have HF : Hid (V = (0, x.1)) := by
          show _ = _
          rw [← HV.out, HM.out, List.drop_length, walkV]
        have HP : Hid (pk = p) := by show _ = _; rw [HPk.out, HM.out, List.take_length, ← HPj.out]
        go_wp2_with fail
        refine bodyPost_ret (ret_rth rfl (by rfl) (set3_block _ _ _ HRr.out)) rfl ?_
        rw [HF.out, HP.out]
        exact ⟨x, rfl, rfl, HEl.out, HBw.out.trans ((tch3B _ _ _ _ _).below HBw.out.size fun k e => by omega)⟩
end Go.Proofs.YtabecceojbeomaaGreatDoor
end
