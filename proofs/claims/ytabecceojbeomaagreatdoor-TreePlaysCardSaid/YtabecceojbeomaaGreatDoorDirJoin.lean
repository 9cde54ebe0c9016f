/- The contracts of dirs.Join and of the reference's; of (*strings.Builder).WriteString. Condition: at most 1000000 bytes. -/
import Derived.Test.YtabecceojbeomaaGreatDoorDirRSplit
import Derived.Lib.FrozenHead2
import Derived.Lib.OthersKept
namespace Go.Cat.Dir
open Go.RowKit Go.Cat
/-- The path of the first names. -/
def joinTo (ls : List Txt) (k : Nat) : Txt := (ls.take k).flatMap (fun l => 47 :: l)
theorem joinTo_succ {ls : List Txt} {k : Nat} (h : k < ls.length) : joinTo ls (k + 1) = joinTo ls k ++ (47 :: ls[k]) := by
  unfold joinTo
  rw [List.take_succ_eq_append_getElem h, List.flatMap_append]
  simp
theorem joinTo_all (ls : List Txt) : joinTo ls ls.length = ls.flatMap (fun l => 47 :: l) := by unfold joinTo; rw [List.take_length]
theorem joinTo_le (ls : List Txt) (k : Nat) : (joinTo ls k).length ≤ (ls.flatMap (fun l => 47 :: l)).length := by
  have h : ls.flatMap (fun l => 47 :: l) = joinTo ls k ++ (ls.drop k).flatMap (fun l => 47 :: l) := by unfold joinTo; rw [← List.flatMap_append, List.take_append_drop]
  rw [h, List.length_append]; omega
theorem join_some {ls : List Txt} (h : ls ≠ []) : joinV ls = ls.flatMap (fun l => 47 :: l) := by unfold joinV; rw [if_neg h]
theorem bs_app (a b : Txt) : bs a ++ bs b = bs (a ++ b) := by
  apply ByteArray.ext
  apply Array.ext'
  simp only [ByteArray.data_append, Array.toList_append]
  rfl
end Go.Cat.Dir
namespace Go.Proofs.YtabecceojbeomaaGreatDoor
open Go.RowKit Go.Cat Go.Cat.Dir

set_option maxRecDepth 100000 in
theorem rjoin_any (A : Option Addr) (ls : List Txt) (c : Nat) (w : World) (hs : Texts w A ls) (hl : (ls.flatMap (fun l => 47 :: l)).length ≤ 1000000) (hn : ls.length ≤ 1000000) :
    Calls Tryz.prog 67 #[.slice A ls.length c] w fun e w' => e = .returned (.string (bs (joinV ls))) ∧ w = w' := by
  by_cases h0 : ls = []
  · subst h0
    clear hl hs hn
    go_enter Tryz.func67, Tryz.ntmps67
    go_wp2
    go_ret
    exact ⟨rfl, rfl⟩
  · rw [join_some h0, ← joinTo_all]
    have hpos := List.length_pos_iff.2 h0
    have hle := fun k => Nat.le_trans (joinTo_le ls k) hl
    obtain ⟨n, hnn⟩ : ∃ n, n = ls.length := ⟨_, rfl⟩
    rw [← hnn] at hpos hn ⊢
    have t0 : ((n : Int) == 0) = false := by simp; omega
    have HN := Lib.hid hnn
    have HLe := Lib.hid hle
    have HS := Lib.hid hs
    clear hle hnn hs h0 hl
    go_enter Tryz.func67, Tryz.ntmps67
    go_wp2
    go_loop [3, 4] (fun sv' iv' => ∃ k : Nat, k ≤ n ∧ iv' = .int .i64 k ∧ sv' = .string (bs (joinTo ls k))) (fun _ iv' => n - (intOf iv').toNat)
    case atStart => exact ⟨0, Nat.zero_le _, rfl, rfl⟩
    case round =>
      obtain ⟨k, hk, rfl, rfl⟩ := hrel
      by_cases hlt : k < n
      · have t1 : decide ((k : Int) < (n : Int)) = true := by simp; omega
        have hkl : k < ls.length := by rw [← HN.out]; exact hlt
        obtain ⟨b, off, hA, hbl, hc⟩ := Texts.at_ HS.out hkl
        have hnext := joinTo_succ hkl
        have hlen := HLe.out (k + 1)
        obtain ⟨l, hl⟩ : ∃ l, l = ls[k] := ⟨_, rfl⟩
        rw [← hl] at hc hnext
        obtain ⟨cur, hcur⟩ : ∃ cur, cur = joinTo ls k := ⟨_, rfl⟩
        rw [← hcur] at hnext ⊢
        rw [hnext, List.length_append, List.length_cons] at hlen
        have hkI : (k : Int) < (n : Int) := by omega
        have hk0 : (0 : Int) ≤ (k : Int) := by omega
        have s1 : ¬ 9223372036854775807 < (bs cur).size + 1 := by rw [bs_size]; omega
        have s2 : ¬ 9223372036854775807 < (bs cur).size + 1 + (bs l).size := by rw [bs_size, bs_size]; omega
        have hfin : bs cur ++ ⟨#[47]⟩ ++ bs l = bs (joinTo ls (k + 1)) := by rw [hnext, show (⟨#[47]⟩ : ByteArray) = bs [47] from rfl, bs_app, bs_app, List.append_assoc]; rfl
        have HF := Lib.hid hfin
        subst hA
        clear hl hnext hcur hlen hfin hkl hbl
        go_wp2
        go_round
        case rel => exact ⟨k + 1, by omega, by go_num, by rw [← HF.out]⟩
        case measure => simp [intOf]; omega
      · obtain rfl : k = n := by omega
        have t1 : decide ((k : Int) < (k : Int)) = false := by simp
        go_wp2
        go_ret
        exact ⟨rfl, rfl⟩

/-- A builder with bytes. -/
abbrev BF (B b : Nat) (l : Txt) (w : World) : Prop := Lib.IsBuilderF 133 5 B b (Lib.byteCells l) w

set_option maxHeartbeats 1000000 in
set_option maxRecDepth 100000 in
theorem bcheck_new (b : Nat) (w : World) (h0 : w.cell? ⟨b, 0, none⟩ = some (.pointer none)) (hsh : w.shape? b = some (133, 2)) (hfz : w.frozen? ⟨b, 0, none⟩ = false) :
    Calls Tryz.prog 119 #[.pointer (some ⟨b, 0, none⟩)] w fun e w' => e = .returned (.tuple #[]) ∧ w' = w.setCell ⟨b, 0, none⟩ (.pointer (some ⟨b, 0, none⟩)) := by
  obtain ⟨j, hj, hjs⟩ := Option.map_eq_some_iff.1 Tryz.Builder_Extra_169.sizeBuilder
  go_enter Tryz.func119, Tryz.ntmps119
  go_wp2
  rw [Lib.run_to_unsafe w ⟨b, 0, none⟩ Tryz.underlying131 Tryz.underlying153 hj (by rw [hjs]; decide) hsh (Nat.zero_lt_succ 1)]
  simp only [Result.andThen]
  rw [Oper.upon_value]
  go_wp2
  rw [run_callFunc_extern Tryz.func126 (by kernel_rfl) (by kernel_rfl) (by kernel_rfl) (e := Extern.AbiNoEscape.same) (by kernel_rfl)]
  rw [Lib.run_noEscape]
  simp only [Result.andThen]
  rw [Oper.upon_value]
  go_wp2
  rw [Lib.run_from_unsafe w ⟨b, 0, none⟩ Tryz.underlying153 Tryz.underlying131 hj hsh Tryz.Builder_Extra_169.liesBuilder]
  simp only [Result.andThen]
  rw [Oper.upon_value]
  go_wp2
  go_end0
  exact ⟨rfl, rfl⟩

set_option maxRecDepth 100000 in
theorem bcheck_used (b : Nat) (w : World) (h0 : w.cell? ⟨b, 0, none⟩ = some (.pointer (some ⟨b, 0, none⟩))) :
    Calls Tryz.prog 119 #[.pointer (some ⟨b, 0, none⟩)] w fun e w' => e = .returned (.tuple #[]) ∧ w' = w := by
  obtain ⟨j, hj, _⟩ := Option.map_eq_some_iff.1 Tryz.Builder_Extra_169.sizeBuilder
  go_enter Tryz.func119, Tryz.ntmps119
  go_wp2
  rw [Lib.run_neq_ptr_same w _ Tryz.underlying131 hj]
  go_wp2
  go_end0
  exact ⟨rfl, rfl⟩

theorem bcheck_any (B b : Nat) (bl : List Value) (w : World) (h : Lib.IsBuilderF 133 5 B b bl w) :
    Calls Tryz.prog 119 #[.pointer (some ⟨b, 0, none⟩)] w fun e w' => e = .returned (.tuple #[]) ∧ Lib.BuilderAtF 133 5 B b (.pointer (some ⟨b, 0, none⟩)) bl w' ∧ Below B w w' := by
  rcases h with h | h
  · refine (bcheck_new b w h.cell0 h.shape h.frozen0).mono ?_
    rintro e w' ⟨rfl, rfl⟩
    exact ⟨rfl, h.used _, (Below.refl B w).setCell (p := ⟨b, 0, none⟩) h.1 _⟩
  · refine (bcheck_used b w h.cell0).mono ?_
    rintro e w' ⟨rfl, rfl⟩
    exact ⟨rfl, h, Below.refl B _⟩

/-- What WriteString leaves. -/
def ToldW8 (B b : Nat) (l : Txt) (w : World) (e : Ending) (w' : World) : Prop := (∃ v, e = .returned v) ∧ BF B b l w' ∧ Below B w w'

set_option maxHeartbeats 2000000 in
set_option maxRecDepth 100000 in
theorem wstr_any (B b : Nat) (l x : Txt) (w : World) (h : BF B b l w) (hlen : l.length + x.length ≤ 1000000) (hBw : B ≤ w.heap.size) :
    Calls Tryz.prog 105 #[.pointer (some ⟨b, 0, none⟩), .string (bs x)] w (ToldW8 B b (l ++ x) w) := by
  obtain ⟨i0, hi, hz0, hz1, hz2⟩ := info_parts Tryz.Builder_Extra_169.infoByte
  have P1 := Lib.hid (bcheck_any B b (Lib.byteCells l) w h)
  have hbl : (Lib.byteCells l).length = l.length := by simp [Lib.byteCells]
  have hxs : (bs x).size = x.length := bs_size x
  clear h
  go_enter Tryz.func105, Tryz.ntmps105
  go_wp2_with fail
  refine (P1.out).mono ?_
  rintro e w1 ⟨rfl, h1, hb1⟩
  obtain ⟨hB, v, hbk, hown, hne⟩ := h1
  have c0 : w1.cell? ⟨b, 0, none⟩ = some (.pointer (some ⟨b, 0, none⟩)) := by rw [Lib.cell_of_heap hbk]; rfl
  have c1 : w1.cell? ⟨b, 1, none⟩ = some v := by rw [Lib.cell_of_heap hbk]; rfl
  go_wp2_with (at_builtin; refine Lib.wpList_append_own_stringF _ rfl _ _ 23 9 rfl B 5 i0 Tryz.underlying23 Tryz.underlying9 hi hz0 hz1 hz2 _ _ _ rfl hown (bs x) rfl ?c3 ?c4 ?c5 ?_)
  case c3 => unfold maxLen; omega
  case c4 => omega
  case c5 => have := hb1.size; omega
  intro v' w2 hown' hgrow _
  have hlt : b < w1.heap.size := (Array.getElem?_eq_some_iff.1 hbk).1
  have hb2 : w2.heap[b]? = some (.cells #[.pointer (some ⟨b, 0, none⟩), v] 133 (0, 0)) := by
    rw [hgrow.block b hlt (fun e => hne e.symm)]
    exact hbk
  have d0 : w2.cell? ⟨b, 0, none⟩ = some (.pointer (some ⟨b, 0, none⟩)) := by rw [Lib.cell_of_heap hb2]; rfl
  have d1 : w2.cell? ⟨b, 1, none⟩ = some v := by rw [Lib.cell_of_heap hb2]; rfl
  have f1 : w2.frozen? ⟨b, 1, none⟩ = false := Lib.frozen_of_heap hb2 1
  obtain ⟨ao, n', cap, rfl⟩ : ∃ ao n' cap, v' = .slice ao n' cap := by
    rcases hown'.2 with ⟨hv, _⟩ | ⟨g, cap, cur, fz, hv, _⟩
    · exact ⟨_, _, _, hv⟩
    · exact ⟨_, _, _, hv⟩
  have hfin : BF B b (l ++ x) (w2.setCell ⟨b, 1, none⟩ (.slice ao n' cap)) := by
    have := Lib.BuilderAtF.put (T := 133) (e := 5) hB hb2 (bs' := Lib.byteCells l ++ Lib.strCells (bs x)) (by rw [List.length_append, Lib.strCells_length, hbl, hxs]; exact hown') (by decide)
    have e : Lib.byteCells (l ++ x) = Lib.byteCells l ++ Lib.strCells (bs x) := by simp [Lib.byteCells, Lib.strCells, bs]
    show Lib.IsBuilderF _ _ _ _ _ _
    rw [e]
    exact .inr this
  have HF := Lib.hid hfin
  have hbel : Below B w (w2.setCell ⟨b, 1, none⟩ (.slice ao n' cap)) := (hb1.grown hgrow (by have := hb1.size; omega) (fun k hk => (hown.lt k hk).1)).setCell (p := ⟨b, 1, none⟩) hB _
  have HBel := Lib.hid hbel
  clear hown' hgrow hown hfin hbel hbl hxs
  go_wp2
  go_ret2
  exact ⟨⟨_, rfl⟩, HF.out, HBel.out⟩

set_option maxHeartbeats 1000000 in
set_option maxRecDepth 100000 in
theorem djoin_any (A : Option Addr) (ls : List Txt) (c : Nat) (w : World) (hs : Texts w A ls) (hl : (ls.flatMap (fun l => 47 :: l)).length ≤ 1000000) (hn : ls.length ≤ 1000000) :
    Calls Tryz.prog 83 #[.slice A ls.length c] w fun e w' => e = .returned (.string (bs (joinV ls))) ∧ Below w.heap.size w w' := by
  by_cases h0 : ls = []
  · subst h0
    clear hl hs hn
    go_enter Tryz.func83, Tryz.ntmps83
    go_wp2
    go_ret
    exact ⟨rfl, Below.refl _ _⟩
  · rw [join_some h0, ← joinTo_all]
    have hpos := List.length_pos_iff.2 h0
    have hle := fun k => Nat.le_trans (joinTo_le ls k) hl
    obtain ⟨n, hnn⟩ : ∃ n, n = ls.length := ⟨_, rfl⟩
    rw [← hnn] at hpos hn ⊢
    have t0 : ((n : Int) == 0) = false := by simp; omega
    have hb0 : BF w.heap.size w.heap.size [] (w.alloc (.cells #[.pointer none, .slice none 0 0] 133)) := .inl ⟨Nat.le_refl _, .slice none 0 0, heap_alloc_new _ _, ⟨rfl, .inl ⟨rfl, rfl⟩⟩, by simp [Value.ownBlock]⟩
    have hB0 : Below w.heap.size w (w.alloc (.cells #[.pointer none, .slice none 0 0] 133)) := (Below.refl _ _).alloc (Nat.le_refl _) _
    have HB0 := Lib.hid hB0
    have HBF := Lib.hid hb0
    have HN := Lib.hid hnn
    have HLe := Lib.hid hle
    have HS := Lib.hid hs
    clear hle hnn hs h0 hl hb0 hB0
    go_enter Tryz.func83, Tryz.ntmps83
    go_wp2_with fail
    go_loopw [11] (fun iv' wr => ∃ k : Nat, k ≤ n ∧ iv' = .int .i64 k ∧ Hid (BF w.heap.size w.heap.size (joinTo ls k) wr) ∧ Hid (Below w.heap.size w wr)) (fun iv' _ => n - (intOf iv').toNat)
    case atStart => exact ⟨0, Nat.zero_le _, rfl, HBF.out, HB0.out⟩
    case round =>
      clear HBF HB0
      obtain ⟨k, hk, rfl, HBk, HB⟩ := hrel
      by_cases hlt : k < n
      · have t1 : decide ((k : Int) < (n : Int)) = true := by simp; omega
        have hkl : k < ls.length := by rw [← HN.out]; exact hlt
        obtain ⟨b, off, hA, hbl, hc⟩ := Texts.at_ HS.out hkl
        have e0 := (HB.out.cell (p := ⟨b, off + k, none⟩) hbl).trans hc
        have hnext := joinTo_succ hkl
        have hlen := HLe.out (k + 1)
        obtain ⟨l, hll⟩ : ∃ l, l = ls[k] := ⟨_, rfl⟩
        rw [← hll] at e0 hnext
        rw [hnext, List.length_append, List.length_cons] at hlen
        have hkI : (k : Int) < (n : Int) := by omega
        have hk0 : (0 : Int) ≤ (k : Int) := by omega
        have hszr : w.heap.size ≤ wr.heap.size := HB.out.size
        have P1 : Hid (Calls Tryz.prog 105 #[.pointer (some ⟨w.heap.size, 0, none⟩), .string ⟨#[47]⟩] wr (ToldW8 w.heap.size w.heap.size (joinTo ls k ++ [47]) wr)) := wstr_any w.heap.size w.heap.size (joinTo ls k) [47] wr HBk.out (by simp; omega) hszr
        have P2 := Lib.hid (fun W (h : BF w.heap.size w.heap.size (joinTo ls k ++ [47]) W) (h2 : w.heap.size ≤ W.heap.size) => wstr_any w.heap.size w.heap.size (joinTo ls k ++ [47]) l W h (by rw [List.length_append]; simp; omega) h2)
        have hfin : joinTo ls k ++ [47] ++ l = joinTo ls (k + 1) := by rw [hnext, List.append_assoc]; rfl
        have HF := Lib.hid hfin
        subst hA
        clear hll hnext hlen hfin hkl hbl hc
        go_wp2_with fail
        refine (P1.out).mono ?_
        rintro e w1 ⟨⟨v1, rfl⟩, hb1, hB1⟩
        have P2' := Lib.hid (P2.out w1 hb1 (Nat.le_trans hszr hB1.size))
        have HB1 := Lib.hid (HB.out.trans hB1)
        clear hb1 hB1 P1 P2
        go_wp2_with fail
        refine (P2'.out).mono ?_
        rintro e w2 ⟨⟨v2, rfl⟩, hb2, hB2⟩
        rw [HF.out] at hb2
        have HB2 := Lib.hid (HB1.out.trans hB2)
        have HBk2 := Lib.hid hb2
        clear hb2 hB2
        go_wp2_with fail
        go_roundw
        case rel => exact ⟨k + 1, by omega, by go_num, HBk2.out, HB2.out⟩
        case measure => simp [intOf]; omega
      · obtain rfl : k = n := by omega
        have t1 : decide ((k : Int) < (k : Int)) = false := by simp
        have P1 := Lib.hid (Any.Builder_String_any_k Tryz.lays169 Tryz.Builder_Extra_169 w.heap.size w.heap.size (joinTo ls k) wr HBk.out HB.out.size)
        go_wp2_with fail
        refine (P1.out).mono ?_
        rintro e w1 ⟨rfl, _, hB1, _⟩
        go_wp2_with fail
        go_ret
        exact ⟨rfl, HB.out.trans hB1⟩
end Go.Proofs.YtabecceojbeomaaGreatDoor
