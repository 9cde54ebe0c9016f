/- The contract of dirs.Put. Condition: at most 1000000 entries. -/
import Derived.Test.YtjilejmchaejiaaDoorEntCheck
import Derived.Test.YtjilejmchaejiaaDoorFixPut
import Derived.Lib.ConvBytes
namespace Go.Cat.Dir
open Go.RowKit Go.Cat
/-- An entry's bytes; entries' bytes. -/
def entB (e : Ent) : List UInt8 := be e.1.length 1 ++ (e.1 ++ (List.replicate (11 - e.1.length) 0 ++ be e.2.toNat 4))
def bytesE (l : List Ent) : List UInt8 := l.flatMap entB
theorem entB_length {e : Ent} (h : e.1.length ≤ 11) : (entB e).length = 16 := by
  unfold entB
  simp only [List.length_append, be_length, List.length_replicate]
  omega
theorem bytesE_length : ∀ {l : List Ent}, (∀ e ∈ l, e.1.length ≤ 11) → (bytesE l).length = l.length * 16
  | [], _ => rfl
  | e :: l, h => by
    have ih := bytesE_length (l := l) (fun e he => h e (List.mem_cons_of_mem _ he))
    unfold bytesE at ih ⊢
    rw [List.flatMap_cons, List.length_append, ih, entB_length (h e List.mem_cons_self), List.length_cons]
    omega
theorem bytesE_succ {l : List Ent} {k : Nat} (hk : k < l.length) : bytesE (l.take (k + 1)) = bytesE (l.take k) ++ entB l[k] := by
  unfold bytesE
  rw [List.take_succ_eq_append_getElem hk, List.flatMap_append]
  simp
theorem check_fine {l : List Ent} (h : checkE l = 0) : l.length ≤ 32 ∧ ∀ k (hk : k < l.length), nameP l[k].1 ∧ 1 ≤ l[k].2 ∧ l[k].2 ≤ 65535 := by
  obtain ⟨h1, h2⟩ := check_zero h
  refine ⟨h1, fun k hk => ?_⟩
  obtain ⟨a, b, _⟩ := ent_zero hk (h2 k hk)
  exact ⟨(nameB_iff _).1 a, (nodeB_iff _).1 b⟩
theorem bytesW_below (w : World) (e : TypeId) (s : ByteArray) : Below w.heap.size w (Lib.bytesWorld w e s) := by
  refine ⟨?_, ?_, ?_, by rw [Lib.bytesWorld_size]; omega, fun k hk => Lib.bytesWorld_at_old w e s k hk⟩
  all_goals simp [Lib.bytesWorld, World.freeze, World.alloc, World.drew, -World.alloc_eq, -World.drew_eq]
theorem bytesW_sees (w : World) (e : TypeId) (x : Txt) : Bytes (Lib.bytesWorld w e (bs x)) (some ⟨w.heap.size, 0, none⟩) x := by
  refine .inr ⟨_, 0, rfl, fun j u hu => ?_⟩
  rw [List.getElem?_map] at hu
  have hj : j < x.length := by
    rcases Nat.lt_or_ge j x.length with h | h
    · exact h
    · rw [List.getElem?_eq_none h] at hu; cases hu
  rw [List.getElem?_eq_getElem hj] at hu
  have := Lib.bytesWorld_cell w e (bs x) j (by rw [bs_size]; exact hj)
  rw [Nat.zero_add, this, ← hu]
  simp [by8, bs, hj]
end Go.Cat.Dir
namespace Go.Proofs.YtjilejmchaejiaaDoor
open Go.RowKit Go.Cat Go.Cat.Dir

theorem oraw_ok (g : Nat) (bs xs : List UInt8) (most : Int) (A : Option Addr) (c : Nat) (w : World) (h : OutF g bs most w) (hx : Bytes w A xs) (hm : (bs.length : Int) + xs.length ≤ most) (hmost : most ≤ 1000000) :
    Calls Tryd.prog 47 #[.pointer (some ⟨g, 0, none⟩), .slice A xs.length c] w fun e w' => (∃ v, e = .returned v) ∧ OutF g (bs ++ xs) most w' ∧ OutU g w w' := by
  have P1 := Lib.hid (oput_ok g bs xs most A c w h hx hm hmost)
  clear h hx hm
  go_enter Tryd.func47, Tryd.ntmps47
  go_wp2_with fail
  refine (P1.out).mono ?_
  rintro e w1 ⟨⟨v, rfl⟩, ho, hu⟩
  have HO := Lib.hid ho
  have HU := Lib.hid hu
  clear ho hu
  go_wp2_with fail
  refine bodyPost_end (v := .tuple #[]) (by simp [results, Tryd.results47, go_sem]) rfl ⟨⟨_, rfl⟩, HO.out, HU.out⟩

theorem ent_upd {g h : Nat} {w w' : World} {a : Array Value} (hu : OutU g w w') (hh : w.heap[h]? = some (.cells a 56 (0, 0))) : w'.heap[h]? = some (.cells a 56 (0, 0)) :=
  (hu.block h (Array.getElem?_eq_some_iff.1 hh).1 (.inr fun cs e fr hx => by
    rw [hh] at hx
    injection hx with hx
    injection hx with _ he _
    subst he
    decide)).trans hh
theorem ent_bel {h : Nat} {w w' : World} {a : Array Value} (hu : Below w.heap.size w w') (hh : w.heap[h]? = some (.cells a 56 (0, 0))) : w'.heap[h]? = some (.cells a 56 (0, 0)) :=
  (hu.block h (Array.getElem?_eq_some_iff.1 hh).1).trans hh

set_option maxRecDepth 100000 in
set_option maxHeartbeats 1000000 in
theorem dput_no (A : Option Addr) (l : List Ent) (c : Nat) (w : World) (hs : Sees w A (erows l)) (hn : l.length ≤ 1000000) (hc : checkE l ≠ 0) :
    Calls Tryd.prog 20 #[.slice A l.length c] w fun e w' => e = .returned (.tuple #[.slice none 0 0, .int .i64 (checkE l)]) ∧ Below w.heap.size w w' := by
  have p1 := dcheck_any A l c w hs hn
  obtain ⟨V, hV⟩ : ∃ V, V = checkE l := ⟨_, rfl⟩
  obtain ⟨n, hnn⟩ : ∃ n, n = l.length := ⟨_, rfl⟩
  rw [← hV, ← hnn] at p1
  rw [← hV] at hc
  rw [← hV, ← hnn]
  have P1 := Lib.hid p1
  have d1 : (V != 0) = true := by simpa using hc
  clear p1 hs hV hnn hn hc
  go_enter Tryd.func20, Tryd.ntmps20
  go_wp2_with fail
  refine (P1.out).mono ?_
  rintro e w1 ⟨rfl, hB⟩
  have HB := Lib.hid hB
  clear hB
  go_wp2_with fail
  go_ret2
  exact ⟨rfl, HB.out⟩

/-- Bytes in new memory, and no error. -/
def ToldP (bs : List UInt8) (w : World) (e : Ending) (w' : World) : Prop := ∃ A c, e = .returned (.tuple #[.slice A bs.length c, .int .i64 0]) ∧ Bytes w' A bs ∧ Below w.heap.size w w'

set_option maxRecDepth 100000 in
set_option maxHeartbeats 4000000 in
theorem dput_ok (A : Option Addr) (l : List Ent) (c : Nat) (w : World) (hs : Sees w A (erows l)) (hc : checkE l = 0) :
    Calls Tryd.prog 20 #[.slice A l.length c] w (ToldP (bytesE l) w) := by
  obtain ⟨h32, hall⟩ := check_fine hc
  have p1 := dcheck_any A l c w hs (by omega)
  rw [hc] at p1
  obtain ⟨n, hnn⟩ : ∃ n, n = l.length := ⟨_, rfl⟩
  rw [← hnn] at p1 h32 ⊢
  have P1 := Lib.hid p1
  have HS := Lib.hid hs
  have HAll := Lib.hid hall
  have HN := Lib.hid hnn
  have P2 := Lib.hid (fun W => onew_any 512 W (by omega))
  clear p1 hs hnn hc hall
  go_enter Tryd.func20, Tryd.ntmps20
  go_wp2_with fail
  refine (P1.out).mono ?_
  rintro e w1 ⟨rfl, hB1⟩
  have HB1 := Lib.hid hB1
  clear hB1
  go_wp2_with fail
  refine (P2.out _).mono ?_
  rintro e w2 ⟨rfl, ho2, hB2⟩
  obtain ⟨g, hg⟩ : ∃ g, g = w1.heap.size := ⟨_, rfl⟩
  have hgw : w.heap.size ≤ g := by rw [hg]; exact HB1.out.size
  rw [← hg] at ho2 ⊢
  have HO2 := Lib.hid ho2
  have HB2 := Lib.hid (HB1.out.trans (hB2.mono HB1.out.size))
  clear ho2 hB2 hg
  go_wp2_with fail
  go_loopw [16] (fun iv wr => ∃ k : Nat, k ≤ n ∧ iv = .int .i64 k ∧ Hid (OutF g (bytesE (l.take k)) 512 wr) ∧ Hid (Below w.heap.size w wr)) (fun iv _ => n - (intOf iv).toNat)
  case atStart => exact ⟨0, Nat.zero_le _, rfl, HO2.out, HB2.out⟩
  case round =>
    obtain ⟨k, hk, rfl, HO, HB⟩ := hrel
    by_cases hlt : k < n
    · have t1 : decide ((k : Int) < (n : Int)) = true := by simp; omega
      have hkl : k < l.length := by have := HN.out; omega
      obtain ⟨b, off, rfl, hbl, e0, e1⟩ := erows_at HS.out hkl
      have q0 := (HB.out.cell (p := ⟨b, off + k * 2, none⟩) hbl).trans e0
      have q1 := (HB.out.cell (p := ⟨b, off + k * 2 + 1, none⟩) hbl).trans e1
      obtain ⟨hnm, hy1, hy2⟩ := HAll.out k hkl
      have hx11 := hnm.2.2.2.1
      have hsucc := bytesE_succ hkl
      have hcl : (bytesE (l.take k)).length = k * 16 := by
        rw [bytesE_length (fun e he => by
          obtain ⟨j, hj, rfl⟩ := List.getElem_of_mem (List.mem_of_mem_take he)
          exact (HAll.out j hj).1.2.2.2.1), List.length_take]
        omega
      obtain ⟨cur, hcur⟩ : ∃ cur, cur = bytesE (l.take k) := ⟨_, rfl⟩
      unfold entB at hsucc
      obtain ⟨x, hx⟩ : ∃ x, x = l[k].1 := ⟨_, rfl⟩
      obtain ⟨y, hy⟩ : ∃ y, y = l[k].2 := ⟨_, rfl⟩
      rw [← hx] at q0 hsucc hx11
      rw [← hy] at q1 hsucc hy1 hy2
      rw [← hcur] at hsucc hcl HO
      obtain ⟨yn, rfl⟩ : ∃ yn : Nat, y = yn := ⟨y.toNat, by omega⟩
      obtain ⟨m, hm⟩ : ∃ m, (bs x).size = m := ⟨_, rfl⟩
      have hmx : m = x.length := by rw [← hm, bs_size]
      rw [Int.toNat_natCast, ← hmx] at hsucc
      rw [← hmx] at hx11
      obtain ⟨q, hq⟩ : ∃ q : Nat, 11 - (m : Int) = (q : Int) := ⟨11 - m, by omega⟩
      have hqm : 11 - m = q := by omega
      rw [hqm] at hsucc
      have hkI : (k : Int) < (n : Int) := by omega
      have hk0 : (0 : Int) ≤ (k : Int) := by omega
      have hb1 : Below wr.heap.size wr (wr.alloc (.cells #[.string (bs x), .int .i64 yn] 56)) := (Below.refl _ _).alloc (Nat.le_refl _) _
      have hx1 := heap_alloc_new wr (.cells #[.string (bs x), .int .i64 yn] 56)
      have hb1w := HB.out.trans (hb1.mono HB.out.size)
      have p3 := onum_ok g cur m 1 512 _ (HO.out.below hb1) (by omega) (by omega) (by omega) (by omega) (by omega)
      have hw1 : IntKind.u64.wrap (m : Int) = (m : Int) := IntWalk.u64_in _ (by omega)
      have hw2 : IntKind.u64.wrap (yn : Int) = (yn : Int) := IntWalk.u64_in _ (by omega)
      have hw3 : IntKind.i64.wrap (q : Int) = (q : Int) := IntWalk.i64_in _ (by omega)
      have hconv := fun W : World => Lib.run_convert_string_bytes (P := Tryd.prog) W 9 38 5 (bs x) Tryd.underlying9 Tryd.underlying38 Tryd.underlying5
      have P3 := Lib.hid p3
      have HX1 := Lib.hid hx1
      have HBw1 := Lib.hid hb1w
      have HSucc := Lib.hid hsucc
      have HCl := Lib.hid hcl
      have HMx := Lib.hid hmx
      clear hx hy hcur p3 hx1 hb1w hb1 hsucc hcl hmx hnm e0 e1 hqm
      go_wp2_with fail
      refine (P3.out).mono ?_
      rintro e w3 ⟨⟨v3, rfl⟩, ho3, hu3⟩
      have hx3 := ent_upd hu3 HX1.out
      have k0 := cell_of_row w3 _ 0 _ _ _ hx3
      simp at k0
      have HX3 := Lib.hid hx3
      have HO3 := Lib.hid ho3
      have HBw3 : Hid (Below w.heap.size w w3) := HBw1.out.trans ((hu3.below (Nat.le_of_lt (by have := HO.out.lt; simp; omega))).mono hgw)
      have hbw := bytesW_below w3 5 (bs x)
      have p4 := oraw_ok g (cur ++ be m 1) x 512 (some ⟨w3.heap.size, 0, none⟩) (grownCap w3 m 0 5) _ (HO3.out.below hbw) (bytesW_sees w3 5 x) (by rw [List.length_append, be_length, HCl.out, ← HMx.out]; omega) (by omega)
      rw [← HMx.out] at p4
      have P4 := Lib.hid p4
      have HX4 := Lib.hid (ent_bel hbw hx3)
      have HBw4 : Hid (Below w.heap.size w _) := HBw3.out.trans (hbw.mono HBw3.out.size)
      have HO4lt : Hid (g < (Lib.bytesWorld w3 5 (bs x)).heap.size) := (HO3.out.below hbw).lt
      clear ho3 hu3 hx3 p4 hbw q0 q1
      go_wp2_with fail
      refine (P4.out).mono ?_
      rintro e w5 ⟨⟨v5, rfl⟩, ho5, hu5⟩
      have hx5 := ent_upd hu5 HX4.out
      have k5 := cell_of_row w5 _ 0 _ _ _ hx5
      simp at k5
      have HX5 := Lib.hid hx5
      have HO5 := Lib.hid ho5
      have HBw5 : Hid (Below w.heap.size w w5) := HBw4.out.trans ((hu5.below (Nat.le_of_lt HO4lt.out)).mono hgw)
      obtain ⟨i0, hi, hz0, hz1, hz2⟩ := info_parts info8
      have hq0 : (0 : Int) ≤ (q : Int) := by omega
      clear ho5 hu5 hx5 k0
      go_wp2_with (at_make; refine wpList_make_full _ rfl _ _ 38 rfl w5.heap.size 5 i0 (.int .u8 0) 1 Tryd.underlying38 hi hz0 hz1 _ _ _ _ q rfl rfl rfl rfl ?b1 ?b2 ?b3 ?_)
      case b1 => rw [hz2]; omega
      case b2 => unfold maxLen; omega
      case b3 => exact Nat.le_refl _
      intro w6 hown6 hg6
      have hb6 : Below w5.heap.size w5 w6 := (Below.refl _ _).grown hg6 (Nat.le_refl _) (fun k hk => by cases hk)
      have hs6 : Bytes w6 (some ⟨w5.heap.size, 0, none⟩) (List.replicate q 0) := by
        have := Sees.of_own hown6
        rw [toList_madeCells_one] at this
        show Sees _ _ _
        rw [List.map_replicate]
        exact this
      have p6 := oraw_ok g (cur ++ be m 1 ++ x) (List.replicate q 0) 512 (some ⟨w5.heap.size, 0, none⟩) q w6 (HO5.out.below hb6) hs6 (by rw [List.length_append, List.length_append, be_length, HCl.out, ← HMx.out, List.length_replicate]; omega) (by omega)
      rw [List.length_replicate] at p6
      have P6 := Lib.hid p6
      have HX6 := Lib.hid (ent_bel hb6 HX5.out)
      have HBw6 : Hid (Below w.heap.size w w6) := HBw5.out.trans (hb6.mono HBw5.out.size)
      have HO6lt : Hid (g < w6.heap.size) := (HO5.out.below hb6).lt
      clear hown6 hg6 hb6 hs6 p6 hi hz0 hz1 hz2 k5
      go_wp2_with fail
      refine (P6.out).mono ?_
      rintro e w7 ⟨⟨v7, rfl⟩, ho7, hu7⟩
      have hx7 := ent_upd hu7 HX6.out
      have k7 := cell_of_row w7 _ 1 _ _ _ hx7
      simp at k7
      have HBw7 : Hid (Below w.heap.size w w7) := HBw6.out.trans ((hu7.below (Nat.le_of_lt HO6lt.out)).mono hgw)
      have p8 := onum_ok g (cur ++ be m 1 ++ x ++ List.replicate q 0) yn 4 512 w7 ho7 (by omega) (by omega) (by omega) (by rw [List.length_append, List.length_append, List.length_append, be_length, HCl.out, ← HMx.out, List.length_replicate]; omega) (by omega)
      have P8 := Lib.hid p8
      have HO7lt : Hid (g < w7.heap.size) := ho7.lt
      clear ho7 hu7 hx7 p8
      go_wp2_with fail
      refine (P8.out).mono ?_
      rintro e w9 ⟨⟨v9, rfl⟩, ho9, hu9⟩
      have HBw9 : Hid (Below w.heap.size w w9) := HBw7.out.trans ((hu9.below (Nat.le_of_lt HO7lt.out)).mono hgw)
      have ho9' : OutF g (bytesE (l.take (k + 1))) 512 w9 := by
        rw [HSucc.out]
        have e : cur ++ (be m 1 ++ (x ++ (List.replicate q 0 ++ be yn 4))) = cur ++ be m 1 ++ x ++ List.replicate q 0 ++ be yn 4 := by simp [List.append_assoc]
        rw [e]
        exact ho9
      have HO9 := Lib.hid ho9'
      clear ho9 hu9 ho9' k7
      go_wp2_with fail
      go_roundw
      case rel => exact ⟨k + 1, by omega, by go_num, HO9.out, HBw9.out⟩
      case measure => simp [intOf]; omega
    · obtain rfl : k = n := by omega
      have t1 : decide ((k : Int) < (k : Int)) = false := by simp
      have hall2 : l.take k = l := by rw [HN.out]; exact List.take_length
      rw [hall2] at HO
      have hbl : (bytesE l).length ≤ 1000000 := by
        rw [bytesE_length (fun e he => by
          obtain ⟨j, hj, rfl⟩ := List.getElem_of_mem he
          exact (HAll.out j hj).1.2.2.2.1)]
        have := HN.out
        omega
      have P9 := Lib.hid (odone_ok g (bytesE l) 512 wr HO.out hbl)
      clear hall2 hbl
      go_wp2_with fail
      refine (P9.out).mono ?_
      rintro e w3 ⟨A3, c3, rfl, ho3, hB3⟩
      have HO3 := Lib.hid ho3
      have HB3 := Lib.hid (HB.out.trans (hB3.mono HB.out.size))
      clear ho3 hB3
      go_wp2_with fail
      go_ret2
      exact ⟨A3, c3, rfl, Sees.of_own HO3.out, HB3.out⟩
end Go.Proofs.YtjilejmchaejiaaDoor
