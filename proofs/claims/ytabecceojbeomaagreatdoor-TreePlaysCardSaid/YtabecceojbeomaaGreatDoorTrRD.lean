/- The contracts of the parts TrRPaths, TrRLike, in one text. Conditions: those told at each part. -/
import Derived.Test.YtabecceojbeomaaGreatDoorTrRA
import Derived.Test.YtabecceojbeomaaGreatDoorTrLaw
import Derived.Laws.OwnMore
section
/- The contracts of the reference's Paths and of the reference's Right. Condition: at most 100000 things. -/
namespace Go.Proofs.YtabecceojbeomaaGreatDoor
open Go.RowKit Go.Cat Go.Cat.Dir Go.Cat.Tree
theorem rright_any (I B : Int) (w : World) :
    Calls Tryz.prog 20 #[.agg #[.int .i64 I, .int .i64 B]] w fun e w' => e = .returned (.bool (rightB I B)) ∧ Below w.heap.size w w' := by
  have hB0 : Below w.heap.size w (w.alloc (.cells #[.int .i64 I, .int .i64 B] 49)) := (Below.refl _ _).alloc (Nat.le_refl _) _
  by_cases h1 : 1 ≤ I
  · have d1 : decide (1 ≤ I) = true := by simpa using h1
    by_cases h2 : I ≤ 64
    · have d2 : decide (I ≤ 64) = true := by simpa using h2
      by_cases h3 : 1 ≤ B
      · have d3 : decide (1 ≤ B) = true := by simpa using h3
        by_cases h4 : B ≤ 96
        · rw [right_yes ⟨h1, h2, h3, h4⟩]
          go_enter Tryz.func20, Tryz.ntmps20
          go_wp2
          go_ret
          exact ⟨rfl, hB0⟩
        · rw [right_no (fun e => h4 e.2.2.2)]
          have d4 : decide (B ≤ 96) = false := by simpa using h4
          go_enter Tryz.func20, Tryz.ntmps20
          go_wp2
          go_ret
          exact ⟨rfl, hB0⟩
      · rw [right_no (fun e => h3 e.2.2.1)]
        have d3 : decide (1 ≤ B) = false := by simpa using h3
        go_enter Tryz.func20, Tryz.ntmps20
        go_wp2
        go_ret
        exact ⟨rfl, hB0⟩
    · rw [right_no (fun e => h2 e.2.1)]
      have d2 : decide (I ≤ 64) = false := by simpa using h2
      go_enter Tryz.func20, Tryz.ntmps20
      go_wp2
      go_ret
      exact ⟨rfl, hB0⟩
  · rw [right_no (fun e => h1 e.1)]
    have d1 : decide (1 ≤ I) = false := by simpa using h1
    go_enter Tryz.func20, Tryz.ntmps20
    go_wp2
    go_ret
    exact ⟨rfl, hB0⟩

set_option maxRecDepth 100000 in
set_option maxHeartbeats 2000000 in
theorem rpaths_any (I J : Int) (A : Option Addr) (es : List (Txt × El)) (c : Nat) (w : World) (h : RT w A c es) (hn : es.length ≤ 100000) :
    Calls Tryz.prog 47 #[.agg #[.int .i64 I, .int .i64 J, .slice A es.length c]] w (ToldT ([47] :: keysE es) w) := by
  have HRT := Lib.hid h
  obtain ⟨n, hnn⟩ : ∃ n, n = es.length := ⟨_, rfl⟩
  have HN := Lib.hid hnn
  rw [← hnn] at hn ⊢
  have h1 : Below w.heap.size w (w.alloc (.cells #[.int .i64 I, .int .i64 J, .slice A n c] 53)) := (Below.refl _ _).alloc (Nat.le_refl _) _
  obtain ⟨W0, hW0⟩ : ∃ W0, W0 = w.alloc (.cells #[.int .i64 I, .int .i64 J, .slice A n c] 53) := ⟨_, rfl⟩
  have hx0 := heap_alloc_new w (.cells #[.int .i64 I, .int .i64 J, .slice A n c] 53)
  rw [← hW0] at h1 hx0
  have hs0 : W0.heap.size = w.heap.size + 1 := by rw [hW0]; simp
  have ho0 := World.ownsRow_lit (base := w.heap.size + 1) (size := 1) (e := 9) W0 #[.string (bs [47])] 1 (by omega) (by unfold maxLen; omega) rfl
  have hb0 : Below (w.heap.size + 1) W0 (W0.alloc (.cells #[.string (bs [47])] 9)) := (Below.refl _ _).alloc (by omega) _
  have HW0 := Lib.hid hW0
  have HX0 := Lib.hid hx0
  have HS0 := Lib.hid hs0
  have HO0 : Hid ((W0.alloc (.cells #[.string (bs [47])] 9)).ownsRow (w.heap.size + 1) 9 1 (.slice (some ⟨W0.heap.size, 0, none⟩) 1 1) 1 (([47] :: keysE (es.take 0)).map sv)) := ho0
  have HB0 := Lib.hid h1
  have HB1 := Lib.hid hb0
  clear hnn h h1 hx0 hW0 hs0 ho0 hb0
  go_enter Tryz.func47, Tryz.ntmps47
  go_upto_region 1 with (fail)
  rw [← HW0.out]
  clear HW0
  go_wp2_with fail
  go_loopw [3, 4] (fun ov iv wr => ∃ (k : Nat) (A2 : Option Addr) (c2 : Nat), k ≤ n ∧ iv = .int .i64 k ∧ ov = .slice A2 (1 + k) c2 ∧ Hid (wr.ownsRow (w.heap.size + 1) 9 1 (.slice A2 (1 + k) c2) (1 + k) (([47] :: keysE (es.take k)).map sv)) ∧ Hid (Below (w.heap.size + 1) W0 wr)) (fun _ iv _ => n - (intOf iv).toNat)
  case atStart => exact ⟨0, _, _, Nat.zero_le _, rfl, rfl, HO0, HB1⟩
  case round =>
    clear HO0 HB1
    obtain ⟨k, A2, c2, hk, rfl, rfl, HO, HB⟩ := hrel
    have t2 : wr.cell? ⟨w.heap.size, 2, none⟩ = some (.slice A n c) := cell_of_row _ _ 2 _ _ _ (blk_in HB.out HX0.out (by omega))
    have HBw := Lib.hid (HB0.out.trans (HB.out.mono (show w.heap.size ≤ w.heap.size + 1 by omega)))
    have HSz : Hid (w.heap.size + 1 ≤ wr.heap.size) := by show _ ≤ _; have := HB.out.size; rw [HS0.out] at this; exact this
    by_cases hlt : k < n
    · have hkl : k < es.length := by have := HN.out; omega
      obtain ⟨y, hy⟩ : ∃ y, y = es[k] := ⟨_, rfl⟩
      obtain ⟨b, off, rfl, hb, hc⟩ := HRT.out.at_ hkl hy
      obtain ⟨e0, e1, e2⟩ := hc wr HBw.out
      have hd : keysE (es.take (k + 1)) = keysE (es.take k) ++ [y.1] := by rw [List.take_succ_eq_append_getElem hkl, hy]; unfold keysE; rw [List.map_append]; rfl
      have HD := Lib.hid hd
      have hkI : (k : Int) < (n : Int) := by omega
      have hk0 : (0 : Int) ≤ (k : Int) := by omega
      have HOa := Lib.hid (World.ownsRow.alloc HO.out (.cells #[.string (bs y.1)] 9))
      have HBa := Lib.hid (HB.out.alloc HSz.out (.cells #[.string (bs y.1)] 9))
      have HSza : Hid (w.heap.size + 1 ≤ (wr.alloc (.cells #[.string (bs y.1)] 9)).heap.size) := by show _ ≤ _; have := HSz.out; simp; omega
      clear hy hc hb hkl hd
      go_wp2_with (at_builtin; refine wpList_app elem_str rfl _ _ rfl (w.heap.size + 1) (.slice A2 (1 + k) c2) (1 + k) (([47] :: keysE (es.take k)).map sv) rfl HOa.out (some ⟨_, 0, none⟩) 1 1 [.string (bs y.1)] rfl (sees_new _ _ _) rfl (by intro u hu; simp at hu; subst hu; rfl) (by omega) HSza.out ?_)
      intro v3 w3 hown hgr _
      obtain ⟨A3, c3, rfl, _, _⟩ := own_full hown
      have HB3 := Lib.hid (HBa.out.own HOa.out hgr HSza.out (Nat.le_refl _))
      have ho3 : w3.ownsRow (w.heap.size + 1) 9 1 (.slice A3 (1 + (k + 1)) c3) (1 + (k + 1)) (([47] :: keysE (es.take (k + 1))).map sv) := by rw [HD.out, ← List.cons_append, List.map_append]; exact hown
      have HO3 := Lib.hid ho3
      clear hown hgr ho3 t2 e0 e1 e2
      go_wp2_with fail
      go_roundw
      case rel => exact ⟨k + 1, A3, c3, by omega, by go_num, rfl, HO3, HB3⟩
      case measure => simp [intOf]; omega
    · obtain rfl : k = n := by omega
      have hO := HO.out
      rw [HN.out, List.take_length] at hO
      have HO2 := Lib.hid hO
      clear hO
      go_wp2_with fail
      go_ret
      have hl : ([47] :: keysE es).length = 1 + es.length := by unfold keysE; rw [List.length_cons, List.length_map]; omega
      refine ⟨A2, c2, by rw [hl, ← HN.out]; rfl, ?_, HBw.out⟩
      exact Sees.of_own HO2.out
end Go.Proofs.YtabecceojbeomaaGreatDoor
end

section
/- The contract of the law's same at a tree and the document's that have the same. Conditions: the tree's invariant; at most 1000 things. -/
namespace Go.Cat.Tree
open Go.RowKit Go.Cat Go.Cat.Dir Go.Proofs.YtabecceojbeomaaGreatDoor
theorem keys_full {es rs : List (Txt × El)} (h : ths es = fullR rs) : keysE es = [47] :: keysE rs := by
  rw [← keys_ths, h, ← keys_ths]; rfl
theorem len_full {es rs : List (Txt × El)} (h : ths es = fullR rs) : es.length = rs.length + 1 := by
  have := congrArg List.length h
  rw [ths_length, full_length] at this
  exact this
theorem fileB_full {rs : List (Txt × El)} (h : Inv (fullR rs)) {y : Txt × El} (hy : y ∈ rs) : fileB (fullR rs) y.1 = (y.2.1.b, !y.2.1.dir) := by
  unfold fileB
  rw [get_of_mem h.rise (full_mem hy)]
  simp only
  by_cases hd : y.2.1.dir = true
  · rw [if_pos hd, hd, h.dirb _ (full_mem hy) hd]; rfl
  · rw [if_neg hd]
    have : y.2.1.dir = false := by simpa using hd
    rw [this]; rfl
end Go.Cat.Tree
namespace Go.Proofs.YtabecceojbeomaaGreatDoor
open Go.RowKit Go.Cat Go.Cat.Dir Go.Cat.Tree Go.Maps
/-- What the law's same keeps. -/
structure LkS (w : World) (I J : Int) (A : Option Addr) (n c : Nat) (W : World) : Prop where
  bel : Below w.heap.size w W
  bx : W.heap[w.heap.size]? = some (.cells #[.int .i64 I, .int .i64 J, .slice A n c] 53 (0, 0))
section
variable {w W W' : World} {I J : Int} {A : Option Addr} {n c : Nat}
theorem LkS.below (h : LkS w I J A n c W) (hb : Below W.heap.size W W') : LkS w I J A n c W' := ⟨h.bel.trans (hb.mono h.bel.size), heap_below h.bx hb⟩
def LkP (w : World) (I J : Int) (A : Option Addr) (n c : Nat) (W : World) : Prop :=
  W.cell? ⟨w.heap.size, 0, none⟩ = some (.int .i64 I) ∧ W.cell? ⟨w.heap.size, 1, none⟩ = some (.int .i64 J) ∧ W.cell? ⟨w.heap.size, 2, none⟩ = some (.slice A n c) ∧ LkS w I J A n c W
theorem LkS.p (h : LkS w I J A n c W) : LkP w I J A n c W := ⟨cell_of_row _ _ 0 _ _ _ h.bx, cell_of_row _ _ 1 _ _ _ h.bx, cell_of_row _ _ 2 _ _ _ h.bx, h⟩
theorem LkP.next (h : LkP w I J A n c W) (hb : Below W.heap.size W W') : LkP w I J A n c W' := (h.2.2.2.below hb).p
end

set_option maxRecDepth 100000 in
set_option maxHeartbeats 4000000 in
theorem lsame_any (a : Nat) (x y : Int) (M : Nat) (es : List (Txt × El)) (A : Option Addr) (rs : List (Txt × El)) (c : Nat) (w : World) (h : TrAt w a x y M es) (hr : RT w A c rs) (he : ths es = fullR rs) (hi : Inv (fullR rs)) (hn : rs.length ≤ 900) :
    Calls Tryz.prog 23 #[.pointer (some ⟨a, 0, none⟩), .agg #[.int .i64 x, .int .i64 y, .slice A rs.length c]] w fun e w' => e = .returned (.bool true) ∧ Below w.heap.size w w' := by
  have hk : KeyB es := keyB_inv (by rw [he]; exact hi) (by rw [len_full he]; omega)
  have hks := keys_full he
  have hlen := len_full he
  have hkl : ([47] :: keysE rs).length = rs.length + 1 := by unfold keysE; rw [List.length_cons, List.length_map]
  obtain ⟨n, hnn⟩ : ∃ n, n = rs.length := ⟨_, rfl⟩
  have HNN := Lib.hid hnn
  obtain ⟨m, hm⟩ : ∃ m, m = es.length := ⟨_, rfl⟩
  have hmn : m = n + 1 := by rw [hm, hnn]; exact hlen
  obtain ⟨ks, hks2⟩ : ∃ ks, ks = [47] :: keysE rs := ⟨_, rfl⟩
  have hkm : ks.length = m := by rw [hks2, hkl, hmn, hnn]
  have q1 : ∀ U, LkP w x y A n c U → Calls Tryz.prog 18 #[.pointer (some ⟨a, 0, none⟩)] U fun e w' => ∃ A1 c1, e = .returned (.slice A1 m c1) ∧ Texts w' A1 ks ∧ Below U.heap.size U w' := fun U hU => by
    have := paths_any a x y M es U (h.below hU.2.2.2.bel) hk
    unfold ToldP at this
    rw [hks, ← hks2, ← hm] at this
    exact this
  have q2 : ∀ U, LkP w x y A n c U → Calls Tryz.prog 47 #[.agg #[.int .i64 x, .int .i64 y, .slice A n c]] U fun e w' => ∃ A1 c1, e = .returned (.slice A1 m c1) ∧ Texts w' A1 ks ∧ Below U.heap.size U w' := fun U hU => by
    have := rpaths_any x y A rs c U (hr.below hU.2.2.2.bel) (by omega)
    unfold ToldT at this
    rw [← hks2, hkm, ← hnn] at this
    exact this
  have q3 : ∀ U A1 A2 c1 c2, Texts U A1 ks → Texts U A2 ks → Calls Tryz.prog 30 #[.slice A1 m c1, .slice A2 m c2] U fun e w' => e = .returned (.bool true) ∧ Below U.heap.size U w' := fun U A1 A2 c1 c2 h1 h2 => by
    have := sametexts_any A1 A2 ks ks c1 c2 U h1 h2 (by rw [hkm]; omega)
    simp only [decide_true] at this
    rw [hkm] at this
    exact this
  have q4 : ∀ U, LkP w x y A n c U → Calls Tryz.prog 16 #[.pointer (some ⟨a, 0, none⟩)] U fun e w' => e = .returned (.int .i64 m) ∧ U = w' := fun U hU => by
    have := inodes_any a x y M es U (h.below hU.2.2.2.bel)
    rw [← hm] at this
    exact this
  obtain ⟨bv, hbv⟩ : ∃ bv, bv = blocksV (fullR rs) := ⟨_, rfl⟩
  have q5 : ∀ U, LkP w x y A n c U → Calls Tryz.prog 17 #[.pointer (some ⟨a, 0, none⟩)] U fun e w' => e = .returned (.int .i64 bv) ∧ Below U.heap.size U w' := fun U hU => by
    have := blocks_any a x y M es U (h.below hU.2.2.2.bel) hk
    unfold ToldN at this
    rw [he, ← hbv] at this
    exact this
  have q6 : ∀ U, LkP w x y A n c U → Calls Tryz.prog 48 #[.agg #[.int .i64 x, .int .i64 y, .slice A n c]] U fun e w' => e = .returned (.int .i64 bv) ∧ Below U.heap.size U w' := fun U hU => by
    have := rblocks_any x y A rs c U (hr.below hU.2.2.2.bel) hi (by omega)
    rw [← hbv, ← hnn] at this
    exact this
  have q7 : ∀ U z, LkS w x y A n c U → z ∈ rs → Calls Tryz.prog 13 #[.pointer (some ⟨a, 0, none⟩), .string (bs z.1)] U (ToldFl (z.2.1.b, !z.2.1.dir) U) := fun U z hU hz => by
    have := fil_any a x y M es z.1 U (h.below hU.bel) (full_abe hi hz).2 hk.f
    rw [he, fileB_full hi hz] at this
    exact this
  have d0 : IntKind.i64.wrap ((n : Int) + 1) = (m : Int) := (IntWalk.i64_in _ (by omega)).trans (by omega)
  have d1 : ((m : Int) != (m : Int)) = false := by simp
  have d2 : (bv != bv) = false := by simp
  have hn9 : n ≤ 900 := by omega
  have h0 : Below w.heap.size w (w.alloc (.cells #[.int .i64 x, .int .i64 y, .slice A n c] 53)) := (Below.refl _ _).alloc (Nat.le_refl _) _
  have HS0 : Hid (LkS w x y A n c (w.alloc (.cells #[.int .i64 x, .int .i64 y, .slice A n c] 53))) := ⟨h0, heap_alloc_new _ _⟩
  have hfit : ∀ z ∈ rs, z.2.1.b.length ≤ 512 := fun z hz => full_fit hi hz
  have Q1 := Lib.hid q1
  have Q2 := Lib.hid q2
  have Q3 := Lib.hid q3
  have Q4 := Lib.hid q4
  have Q5 := Lib.hid q5
  have Q6 := Lib.hid q6
  have Q7 := Lib.hid q7
  have HFit := Lib.hid hfit
  have HRT := Lib.hid hr
  have HMn := Lib.hid hmn
  rw [← hnn]
  clear q1 q2 q3 q4 q5 q6 q7 hfit hr hmn hkm hks2 hks hlen hkl hk hbv hm hnn hn hi he h h0
  go_enter Tryz.func23, Tryz.ntmps23
  go_upto_region 1 with (fail)
  generalize w.alloc (.cells #[.int .i64 x, .int .i64 y, .slice A n c] 53) = W0 at HS0 ⊢
  have HP0 := Lib.hid HS0.out.p
  obtain ⟨s0, s1, s2, _⟩ := HS0.out.p
  go_region_held3 (fun U => U.cell? ⟨w.heap.size, 0, none⟩ = some (.int .i64 x) ∧ U.cell? ⟨w.heap.size, 1, none⟩ = some (.int .i64 y) ∧ U.cell? ⟨w.heap.size, 2, none⟩ = some (.slice A n c) ∧ LkS w x y A n c U)
    (first | assumption | exact HP0.out | exact HP0.out.next ((Below.refl _ _).drew) | exact LkP.next (by assumption) hB6 | exact LkP.next (by assumption) hB5 | exact LkP.next (by assumption) hB3 | exact LkP.next (by assumption) hB2 | exact LkP.next (by assumption) hB1 | fail)
    (first
      | (go_at_call 18; refine (Q1.out _ (by assumption)).mono ?_; rintro e w1 ⟨A1, c1, rfl, hT1, hB1⟩)
      | (go_at_call 47; refine (Q2.out _ (by assumption)).mono ?_; rintro e w2 ⟨A2, c2, rfl, hT2, hB2⟩)
      | (go_at_call 30; refine (Q3.out _ A1 A2 c1 c2 (Sees.below hT1 hB2) hT2).mono ?_; rintro e w3 ⟨rfl, hB3⟩)
      | (go_at_call 16; refine (Q4.out _ (by assumption)).mono ?_; rintro e w4 ⟨rfl, rfl⟩)
      | (go_at_call 17; refine (Q5.out _ (by assumption)).mono ?_; rintro e w5 ⟨rfl, hB5⟩)
      | (go_at_call 48; refine (Q6.out _ (by assumption)).mono ?_; rintro e w6 ⟨rfl, hB6⟩)
      | fail)
  all_goals
    rename_i FS0
    have FS : LkP w x y A n c _ := FS0
    have HS1 := Lib.hid FS.2.2.2
    clear FS FS0 hT1 hT2 hB1 hB2 hB3 hB5 hB6
    go_wp2_with fail
    go_loopw [5] (fun iv wr => ∃ k : Nat, k ≤ n ∧ iv = .int .i64 k ∧ Hid (LkS w x y A n c wr)) (fun iv _ => n - (intOf iv).toNat)
    case atStart => exact ⟨0, Nat.zero_le _, rfl, HS1⟩
    case round =>
      clear HS1 s0 s1 s2
      obtain ⟨k, hkn, rfl, HS⟩ := hrel
      obtain ⟨s0, s1, s2, _⟩ := HS.out.p
      by_cases hlt : k < n
      · have hkl : k < rs.length := by have := HNN.out; omega
        obtain ⟨z, hz⟩ : ∃ z, z = rs[k] := ⟨_, rfl⟩
        have hmem : z ∈ rs := by rw [hz]; exact List.getElem_mem _
        obtain ⟨b, off, rfl, hb, hc⟩ := HRT.out.at_ hkl hz
        have HC := Lib.hid hc
        obtain ⟨e0, e1, e2⟩ := hc wr HS.out.bel
        have hkI : (k : Int) < (n : Int) := by omega
        have hk0 : (0 : Int) ≤ (k : Int) := by omega
        have p1 := Q7.out wr z HS.out hmem
        unfold ToldFl at p1
        have P1 := Lib.hid p1
        obtain ⟨lb, hlb⟩ : ∃ lb, lb = z.2.1.b := ⟨_, rfl⟩
        have hl5 : lb.length ≤ 512 := by rw [hlb]; exact HFit.out z hmem
        have hE : Bytes w z.2.2.1 z.2.1.b := (HRT.out.all z hmem).1
        obtain ⟨d, hd⟩ : ∃ d, d = z.2.1.dir := ⟨_, rfl⟩
        rw [← hlb] at hE
        have t1 : ((!d) == d) = false := by cases d <;> rfl
        rw [← hd] at e1
        rw [← hlb] at e2
        have HLb := Lib.hid hlb
        have HD := Lib.hid hd
        have HE := Lib.hid hE
        have HL5 := Lib.hid hl5
        simp only [← hlb, ← hd] at p1
        have P1 := Lib.hid p1
        clear hz hmem hb hc hkl hlb hd hE hl5 p1
        go_wp2_with fail
        refine (P1.out).mono ?_
        rintro e w2 ⟨X, cX, rfl, hX, hB2⟩
        have HS2 := Lib.hid (HS.out.below hB2)
        have p2 := same8_any X z.2.2.1 lb.length lb.length cX z.2.2.2 lb lb w2 hX (HE.out.below HS2.out.bel) rfl rfl (by have := HL5.out; omega) (by have := HL5.out; omega)
        simp only [decide_true] at p2
        have P2 := Lib.hid p2
        clear hX hB2 p2 P1 s0 s1 s2 e0 e1 e2 HS
        obtain ⟨s0, s1, s2, _⟩ := HS2.out.p
        obtain ⟨e0, e1, e2⟩ := HC.out w2 HS2.out.bel
        rw [← HD.out] at e1
        rw [← HLb.out] at e2
        go_wp2_with fail
        refine (P2.out).mono ?_
        rintro e w3 ⟨rfl, q, rfl⟩
        have HS3 : Hid (LkS w x y (some ⟨b, off, none⟩) n c (w2.drewN q)) := HS2.out.below (below_drewN (Below.refl _ _) q)
        clear P2 s0 s1 s2 e0 e1 e2 HS2
        go_wp2_with fail
        go_roundw
        case rel => exact ⟨k + 1, by omega, by go_num, HS3⟩
        case measure => simp [intOf]; omega
      · obtain rfl : k = n := by omega
        have HF := Lib.hid HS.out.bel
        go_wp2_with fail
        go_ret
        exact ⟨rfl, HF.out⟩
end Go.Proofs.YtabecceojbeomaaGreatDoor
end
