/- The walk of the law VersTrims. Condition: numbers within their kinds. -/
import Derived.Test.YtobndboogafjpaaVersTwo
import Derived.Test.YtobndboogafjpaaVersAwake
import Derived.Deep.RegionHeld3
import Derived.StillTailTactics
namespace Go.Proofs.Ytobndboogafjpaa
open Go.RowKit Go.Cat Go.Cat.Vers

/-- What a round of the loop needs: what the first Put leaves, and the contract of the second. -/
theorem trims_step {first seq : Int} {k g1 g2 base : Nat} {l : List Ver} {Rb Rc : Value} {wr W2 : World} {v : Ver} {x : UInt8} (hG : Grown first seq k l) (hT : TwoV base g1 g2 Rb Rc wr l l)
    (hv : v = ⟨first + (k : Int), seq + 1 + (x.toNat : Int), [x]⟩) (hW : W2 = (wr.alloc (.cells #[.int .u8 (x.toNat : Int)] 5)).alloc (.cells #[.int .u64 (first + (k : Int)), .int .u64 (seq + 1 + (x.toNat : Int)), .slice (some ⟨wr.heap.size, 0, none⟩) 1 1] 29))
    (hk : k ≤ 40) (f0 : 0 < first) (f1 : first ≤ 4611686018427387904) (hs0 : 0 ≤ seq) (hbase : base ≤ wr.heap.size) :
    Calls Try.prog 9 #[.pointer (some ⟨g1, 0, none⟩), .agg #[.int .u64 v.ver, .int .u64 v.seq, .slice (some ⟨wr.heap.size, 0, none⟩) 1 1]] W2 fun e w3 =>
      e = .returned (.int .i64 0) ∧ ∃ R3, Calls Try.prog 9 #[.pointer (some ⟨g2, 0, none⟩), .agg #[.int .u64 v.ver, .int .u64 v.seq, .slice (some ⟨wr.heap.size, 0, none⟩) 1 1]] w3 (fun e w4 =>
          e = .returned (.int .i64 0) ∧ ∃ R4, TwoV base g1 g2 R3 R4 w4 (l ++ [v]) (l ++ [v]) ∧ Below base w3 w4) ∧
        TwoV base g1 g2 R3 Rc w3 (l ++ [v]) l ∧ w3.cell? ⟨wr.heap.size + 1, 0, none⟩ = some (.int .u64 v.ver) ∧ w3.cell? ⟨wr.heap.size + 1, 1, none⟩ = some (.int .u64 v.seq) ∧
        w3.cell? ⟨wr.heap.size + 1, 2, none⟩ = some (.slice (some ⟨wr.heap.size, 0, none⟩) 1 1) ∧ Below base wr w3 := by
  obtain ⟨k0, k1, k2, k3, hsz, hB⟩ := two_boxes (w := wr) (a := #[.int .u8 (x.toNat : Int)]) (t := 5) (b := #[.int .u64 (first + (k : Int)), .int .u64 (seq + 1 + (x.toNat : Int)), .slice (some ⟨wr.heap.size, 0, none⟩) 1 1]) (u := 29) (Below.refl _ _)
  rw [← hW] at k0 k1 k2 k3 hsz hB
  have hl : l.length = k := hG.len
  have hx := x.toNat_lt
  have hvv : v.ver = first + (k : Int) := by rw [hv]
  have hvs : v.seq = seq + 1 + (x.toNat : Int) := by rw [hv]
  have hvd : v.data = [x] := by rw [hv]
  have hdl : v.data.length = 1 := by rw [hvd]; rfl
  have hlast : 0 < l.length → v.ver - 1 = (l.getLastD zero).ver ∧ (l.getLastD zero).seq < v.seq := fun h => by
    have := hG.last (by omega)
    omega
  have hb2 : Bytes W2 (some ⟨wr.heap.size, 0, none⟩) v.data := by
    rw [hvd]
    refine .inr ⟨_, 0, rfl, fun j u hu => ?_⟩
    rw [Nat.zero_add, k0]
    simpa [by8] using hu
  have hT2 := hT.below hB
  have hp := put_ok base g1 Rb l v (some ⟨wr.heap.size, 0, none⟩) 1 W2 hT2.one (by omega) (by omega) hb2 (by omega) (by omega) (by omega) hlast (by omega)
  rw [hdl] at hp
  refine hp.mono ?_
  rintro e w3 ⟨rfl, R3, h3, hn3, ht3⟩
  have hT3 := hT2.first h3 hn3 ht3
  have off : ∀ j, wr.heap.size ≤ j → ¬ Mine g1 Rb j := by
    rintro j hj (e | e)
    · have := hT.one.lt; omega
    · have := hold_row_lt hT.one _ e; omega
  have hB3 : Below base W2 w3 := mine_below hT2.one (by omega) ht3
  have keep : ∀ j i, wr.heap.size ≤ j → j < W2.heap.size → w3.cell? ⟨j, i, none⟩ = W2.cell? ⟨j, i, none⟩ := fun j i h1 h2 => World.cell?_of_block (ht3.block j h2 (off j h1))
  have hb3 : Bytes w3 (some ⟨wr.heap.size, 0, none⟩) v.data := by
    rw [hvd]
    refine .inr ⟨_, 0, rfl, fun j u hu => ?_⟩
    rw [keep _ _ (Nat.le_refl _) (by omega), Nat.zero_add, k0]
    simpa [by8] using hu
  refine ⟨rfl, R3, ?_, hT3, ?_, ?_, ?_, (hB.mono hbase).trans hB3⟩
  · have hp2 := put_ok base g2 Rc l v (some ⟨wr.heap.size, 0, none⟩) 1 w3 hT3.two (by omega) (by omega) hb3 (by omega) (by omega) (by omega) hlast (by have := ht3.size; omega)
    rw [hdl] at hp2
    refine hp2.mono ?_
    rintro e w4 ⟨rfl, R4, h4, hn4, ht4⟩
    exact ⟨rfl, R4, hT3.second h4 hn4 ht4, mine_below hT3.two (by have := ht3.size; omega) ht4⟩
  · rw [keep _ _ (by omega) hsz, k2, hvv]; rfl
  · rw [keep _ _ (by omega) hsz, k2, hvs]; rfl
  · rw [keep _ _ (by omega) hsz, k2]; rfl

set_option maxRecDepth 100000 in
theorem trims_main (first m0 m1 : Int) (A : Option Addr) (c : Nat) (gs : List UInt8) (w : World) (hg : Bytes w A gs) (f0 : 0 < first) (f1 : first ≤ 4611686018427387904) (hl : gs.length ≤ 40) (h0 : 0 ≤ m0) (h1 : m0 ≤ 18446744073709551615) (h2 : 0 ≤ m1) (h3 : m1 ≤ 18446744073709551615) :
    Calls Try.prog 3 #[.int .u64 first, .slice A gs.length c, .agg #[.int .u64 m0, .int .u64 m1]] w fun e w' => e = .returned (.bool true) ∧ Below w.heap.size w w' := by
  have d1 : (first == 0) = false := by simp; omega
  have d2 : decide (4611686018427387904 < first) = false := by simp; omega
  have d3 : decide ((40 : Int) < (gs.length : Int)) = false := by simp; omega
  go_enter Try.func3, Try.ntmps3
  go_wp2_with fail
  refine (new_any _).mono ?_
  rintro e w1 ⟨rfl, hb1, hB1⟩
  go_wp2_with fail
  refine (new_any _).mono ?_
  rintro e w2 ⟨rfl, hb2, hB2⟩
  go_wp2_with fail
  have hlt1 : w.heap.size + 1 < w1.heap.size := by simpa using hb1.lt
  have hT0 : TwoV (w.heap.size + 1) (w.heap.size + 1) w1.heap.size (.slice none 0 0) (.slice none 0 0) w2 [] [] :=
    ⟨by simpa using hb1.below hB2, HoldV.low_base hb2 (by omega), by omega, fun k hk => by cases hk⟩
  have hb0 : Below (w.heap.size + 1) (w.alloc (.cells #[.int .u64 m0, .int .u64 m1] 24)) w2 := (by simpa using hB1 : Below (w.heap.size + 1) _ w1).trans (hB2.mono (by omega))
  have HT0 := Lib.hid hT0
  clear hT0 hb1 hb2 hB1 hB2
  go_loopw [9, 10] (fun s i wr => ∃ (k : Nat) (seq : Int) (l : List Ver) (Rb Rc : Value), k ≤ gs.length ∧ i = .int .i64 k ∧ s = .int .u64 seq ∧ 0 ≤ seq ∧ seq ≤ 256 * k ∧ Hid (Grown first seq k l) ∧ Hid (TwoV (w.heap.size + 1) (w.heap.size + 1) w1.heap.size Rb Rc wr l l) ∧ Below (w.heap.size + 1) (w.alloc (.cells #[.int .u64 m0, .int .u64 m1] 24)) wr) (fun _ i _ => gs.length - (intOf i).toNat)
  case atStart => exact ⟨0, 0, [], _, _, Nat.zero_le _, rfl, rfl, by omega, by omega, Lib.hid Grown.none, HT0, hb0⟩
  case round =>
    obtain ⟨k, seq, l, Rb, Rc, hk, rfl, rfl, hs0, hs1, HG, HT, hbel⟩ := hrel
    have hbw : Below w.heap.size w wr := ((Below.refl _ _).alloc (Nat.le_refl _) _).trans (hbel.mono (by omega))
    by_cases hlt : k < gs.length
    · obtain ⟨b, off, rfl, _, hc⟩ := (hg.below hbw).at_ (by omega)
      have e1 : wr.cell? ⟨b, off + k, none⟩ = some (.int .u8 ((gs.getD k 0).toNat : Int)) := hc k hlt
      obtain ⟨x, hx⟩ : ∃ x, x = gs.getD k 0 := ⟨_, rfl⟩
      rw [← hx] at e1
      have hx1 := x.toNat_lt
      have hkI : (k : Int) < (gs.length : Int) := by omega
      have hk0 : (0 : Int) ≤ (k : Int) := by omega
      clear hc hx
      obtain ⟨v, hv⟩ : ∃ v : Ver, v = ⟨first + (k : Int), seq + 1 + (x.toNat : Int), [x]⟩ := ⟨_, rfl⟩
      obtain ⟨W2, hW2⟩ : ∃ W2, W2 = (wr.alloc (.cells #[.int .u8 (x.toNat : Int)] 5)).alloc (.cells #[.int .u64 (first + (k : Int)), .int .u64 (seq + 1 + (x.toNat : Int)), .slice (some ⟨wr.heap.size, 0, none⟩) 1 1] 29) := ⟨_, rfl⟩
      have hst := trims_step HG.out HT.out hv hW2 (by omega) (by omega) (by omega) (by omega) (by have := hbel.size; simp at this; omega)
      have HV := Lib.hid hv
      have HS := Lib.hid hst
      rw [hv] at HS
      rw [hW2] at HS
      clear hst hv hW2
      go_wp2_with fail
      refine (HS.out).mono ?_
      rintro e w3 ⟨rfl, R3, hk3, hT3, hk0, hk1, hk2, hB3⟩
      have HT3 := Lib.hid hT3
      have HK := Lib.hid hk3
      clear hT3 hk3
      go_wp2_with fail
      refine (HK.out).mono ?_
      rintro e w4 ⟨rfl, R4, hT4, hB4⟩
      have HT4 := Lib.hid hT4
      clear hT4
      go_wp2_with fail
      go_roundw
      case rel => exact ⟨k + 1, _, _, R3, R4, by omega, by go_num, rfl, by omega, by omega, Lib.hid (HG.out.next x _ (by omega)), HT4, (hbel.trans hB3).trans hB4⟩
      case measure => simp [intOf]; omega
    · obtain rfl : k = gs.length := by omega
      have hbx := heap_alloc_new w (.cells #[.int .u64 m0, .int .u64 m1] 24)
      have hby := (hbel.block w.heap.size (by omega)).trans hbx
      have c0 : wr.cell? ⟨w.heap.size, 0, none⟩ = some (.int .u64 m0) := cell_of_row wr _ 0 _ _ _ hby
      have c1 : wr.cell? ⟨w.heap.size, 1, none⟩ = some (.int .u64 m1) := cell_of_row wr _ 1 _ _ _ hby
      clear hbx hby
      have d4 : 0 ≤ m0 % (seq + 2) := Int.emod_nonneg _ (by omega)
      have d5 : m0 % (seq + 2) < 20000 := by have := Int.emod_lt_of_pos m0 (show 0 < seq + 2 by omega); omega
      have hbs : w.heap.size + 1 ≤ wr.heap.size := by have := hbel.size; simp at this; omega
      have hsm := HG.out.small hl
      have hri := HG.out.rise
      have HSm := Lib.hid hsm
      have HRi := Lib.hid hri
      clear hsm hri d3
      go_wp2_with fail
      generalize m0 % (seq + 2) = dn at d4 d5 ⊢
      refine (trim_any (w.heap.size + 1) (w.heap.size + 1) Rb l dn wr HT.out.one HSm.out HRi.out hbs).mono ?_
      rintro e w5 ⟨kc, hkc, rfl, R5, h5, hn5, ht5⟩
      have hT5 := HT.out.trimmed h5 hn5 ht5
      have hB5 : Below (w.heap.size + 1) wr w5 := mine_below HT.out.one hbs ht5
      have c2 : w5.cell? ⟨w.heap.size, 1, none⟩ = some (.int .u64 m1) := (hB5.cell (by simp)).trans c1
      obtain ⟨lb, hlb⟩ : ∃ lb, lb = l.drop (kc - 1) := ⟨_, rfl⟩
      have q1 : atV lb ((lb.length : Int) - 1) = atV l ((l.length : Int) - 1) := by rw [hlb]; exact cut_last (cut_ok hkc)
      have hsb : Small lb := by rw [hlb]; exact HSm.out.cut _
      have hrb : Rising lb := by rw [hlb]; exact HRi.out.cut _
      rw [← hlb] at hT5
      have p1 := last_any _ lb w5 hT5.one.blk hsb
      obtain ⟨v0, hv0⟩ : ∃ v0, v0 = atV l ((l.length : Int) - 1) := ⟨_, rfl⟩
      rw [q1, ← hv0] at p1
      have HKc := Lib.hid hkc
      have HT5 := Lib.hid hT5
      have HLb := Lib.hid hlb
      have HSb := Lib.hid hsb
      have HRb := Lib.hid hrb
      have HV0 := Lib.hid hv0
      have P1 := Lib.hid p1
      have hB5w : Below w.heap.size w w5 := hbw.trans (hB5.mono (by omega))
      clear hkc hT5 hlb hsb hrb hv0 p1 q1 h5 hn5 ht5 c0 c1 hB5
      go_wp2_with fail
      refine (P1.out).mono ?_
      rintro e w6 ⟨A6, c6, rfl, ho6, hB6⟩
      have hd6 : Bytes w6 A6 v0.data := Sees.of_own ho6
      have p2 := last_any _ l w6 (HT5.out.two.below hB6).blk HSm.out
      rw [← HV0.out] at p2
      have P2 := Lib.hid p2
      clear p2 ho6
      go_wp2_with fail
      refine (P2.out).mono ?_
      rintro e w7 ⟨A7, c7, rfl, ho7, hB7⟩
      have p3 := vsame_any A6 A7 c6 c7 v0 v0 w7 (hd6.below hB7) (Sees.of_own ho7)
      rw [sameV_self] at p3
      have P3 := Lib.hid p3
      have hB7w := hB6.trans (hB7.mono hB6.size)
      clear p3 ho7 hd6 hB6 hB7
      go_wp2_with fail
      refine (P3.out).mono ?_
      rintro e w8 ⟨rfl, hB8⟩
      have hB8w := hB7w.trans (hB8.mono hB7w.size)
      have P4 := Lib.hid (cleanV_any _ lb dn w8 (HT5.out.one.below hB8w).blk HSb.out HRb.out)
      clear hB7w hB8
      go_wp2_with fail
      refine (P4.out).mono ?_
      rintro e w9 ⟨k9, hk9, A9, c9, rfl, ho9, hB9⟩
      have q9 : atV lb ((k9 : Int) - 1) = atV l ((kc : Int) - 1) := by rw [HLb.out] at hk9 ⊢; exact cut_clean HKc.out HKc.out (Int.le_refl _) hk9
      obtain ⟨v1, hv1⟩ : ∃ v1, v1 = atV l ((kc : Int) - 1) := ⟨_, rfl⟩
      rw [q9, ← hv1] at ho9 ⊢
      have hd9 : Bytes w9 A9 v1.data := Sees.of_own ho9
      have hB9w := hB8w.trans (hB9.mono hB8w.size)
      have P5 := Lib.hid (cleanV_any _ l dn w9 (HT5.out.two.below hB9w).blk HSm.out HRi.out)
      have HV1 := Lib.hid hv1
      clear hk9 q9 hv1 ho9 hB9 hB8w
      go_wp2_with fail
      refine (P5.out).mono ?_
      rintro e w10 ⟨k10, hk10, A10, c10, rfl, ho10, hB10⟩
      obtain rfl := hk10.uniq HKc.out
      rw [← HV1.out] at ho10 ⊢
      have p6 := vsame_any A9 A10 c9 c10 v1 v1 w10 (hd9.below hB10) (Sees.of_own ho10)
      rw [sameV_self] at p6
      have P6 := Lib.hid p6
      have hB10w := hB9w.trans (hB10.mono hB9w.size)
      clear hk10 p6 ho10 hd9 hB10 hB9w
      go_wp2_with fail
      refine (P6.out).mono ?_
      rintro e w11 ⟨rfl, hB11⟩
      have hB11w := hB10w.trans (hB11.mono hB10w.size)
      have p7 := dirty_any _ lb dn w11 (HT5.out.one.below hB11w).blk HSb.out
      rw [HLb.out, cut_dirty HKc.out] at p7
      obtain ⟨r1, hr1⟩ : ∃ r1, r1 = dirty l dn := ⟨_, rfl⟩
      rw [← hr1] at p7
      have P7 := Lib.hid p7
      have HR1 := Lib.hid hr1
      clear p7 hr1 hB11 hB10w
      go_wp2_with fail
      refine (P7.out).mono ?_
      rintro e w12 ⟨rfl, hB12⟩
      have hB12w := hB11w.trans (hB12.mono hB11w.size)
      have p8 := dirty_any _ l dn w12 (HT5.out.two.below hB12w).blk HSm.out
      rw [← HR1.out] at p8
      have P8 := Lib.hid p8
      clear p8 hB12 hB11w
      go_wp2_with fail
      refine (P8.out).mono ?_
      rintro e w13 ⟨rfl, hB13⟩
      have hB13w := hB12w.trans (hB13.mono hB12w.size)
      clear hB13 hB12w
      have m2 : 0 ≤ m1 % 1000 := Int.emod_nonneg _ (by omega)
      have P9 := Lib.hid (fun d => cleanV_any _ lb d w13 (HT5.out.one.below hB13w).blk HSb.out HRb.out)
      go_wp2_with fail
      generalize hla : dn + m1 % 1000 = la
      have hda : dn ≤ la := by omega
      clear hla
      refine (P9.out la).mono ?_
      rintro e w14 ⟨k14, hk14, A14, c14, rfl, ho14, hB14⟩
      rw [HLb.out] at hk14
      obtain ⟨v2, hv2⟩ : ∃ v2, v2 = atV lb ((k14 : Int) - 1) := ⟨_, rfl⟩
      rw [← hv2] at ho14 ⊢
      have hd14 : Bytes w14 A14 v2.data := Sees.of_own ho14
      have hB14w := hB13w.trans (hB14.mono hB13w.size)
      have P10 := Lib.hid (cleanV_any _ l la w14 (HT5.out.two.below hB14w).blk HSm.out HRi.out)
      have HK14 := Lib.hid hk14
      have HV2 := Lib.hid hv2
      clear hk14 hv2 ho14 hB14 P9 hB13w
      go_wp2_with fail
      refine (P10.out).mono ?_
      rintro e w15 ⟨k15, hk15, A15, c15, rfl, ho15, hB15⟩
      have q15 : atV l ((k15 : Int) - 1) = v2 := by rw [HV2.out, HLb.out]; exact (cut_clean HKc.out hk15 hda HK14.out).symm
      rw [q15] at ho15 ⊢
      have p11 := vsame_any A14 A15 c14 c15 v2 v2 w15 (hd14.below hB15) (Sees.of_own ho15)
      rw [sameV_self] at p11
      have P11 := Lib.hid p11
      have hB15w := hB14w.trans (hB15.mono hB14w.size)
      clear hk15 q15 p11 ho15 hd14 hB15 hB14w
      go_wp2_with fail
      refine (P11.out).mono ?_
      rintro e w16 ⟨rfl, hB16⟩
      have hB16w := hB15w.trans (hB16.mono hB15w.size)
      have p12 := dirty_any _ lb la w16 (HT5.out.one.below hB16w).blk HSb.out
      rw [HLb.out, cut_dirty HKc.out] at p12
      obtain ⟨r2, hr2⟩ : ∃ r2, r2 = dirty l la := ⟨_, rfl⟩
      rw [← hr2] at p12
      have P12 := Lib.hid p12
      have HR2 := Lib.hid hr2
      clear p12 hr2 hB16 hB15w
      go_wp2_with fail
      refine (P12.out).mono ?_
      rintro e w17 ⟨rfl, hB17⟩
      have hB17w := hB16w.trans (hB17.mono hB16w.size)
      have p13 := dirty_any _ l la w17 (HT5.out.two.below hB17w).blk HSm.out
      rw [← HR2.out] at p13
      have P13 := Lib.hid p13
      clear p13 hB17 hB16w
      go_wp2_with fail
      refine (P13.out).mono ?_
      rintro e w18 ⟨rfl, hB18⟩
      have hB18w := hB17w.trans (hB18.mono hB17w.size)
      have hb18 : w.heap.size + 1 ≤ w18.heap.size := by have := (HT5.out.below hB18w).one.low; have := (HT5.out.below hB18w).one.lt; omega
      have P14 := Lib.hid (trim_any (w.heap.size + 1) (w.heap.size + 1) R5 lb dn w18 (HT5.out.one.below hB18w) HSb.out HRb.out hb18)
      clear hB18 hB17w
      go_wp2_with fail
      refine (P14.out).mono ?_
      rintro e w19 ⟨k19, hk19, rfl, R6, _, _, ht19⟩
      rw [HLb.out] at hk19
      have q19 : k19 - 1 = 0 := cut_again HKc.out hk19
      rw [q19]
      have hB19 : Below (w.heap.size + 1) w18 w19 := mine_below (HT5.out.one.below hB18w) hb18 ht19
      have hfin := (hB5w.trans (hB18w.mono hB5w.size)).trans (hB19.mono (by omega))
      clear hk19 ht19 q19 hB19 hB18w
      go_wp2_with fail
      refine (awake_any w19).mono ?_
      rintro e w20 ⟨rfl, hB20⟩
      have hfin2 := hfin.trans (hB20.mono hfin.size)
      go_wp2_with fail
      go_ret
      exact ⟨rfl, hfin2⟩

theorem trims_out (first m0 m1 : Int) (A : Option Addr) (c : Nat) (gs : List UInt8) (w : World) (hm : gs.length ≤ maxLen) (h : first = 0 ∨ 4611686018427387904 < first ∨ 40 < gs.length) :
    Calls Try.prog 3 #[.int .u64 first, .slice A gs.length c, .agg #[.int .u64 m0, .int .u64 m1]] w fun e w' => e = .returned (.bool true) ∧ Below w.heap.size w w' := by
  unfold maxLen at hm
  have haw := awake_any (w.alloc (.cells #[.int .u64 m0, .int .u64 m1] 24))
  have HA := Lib.hid haw
  clear haw
  have fin : ∀ w', Below (w.alloc (.cells #[.int .u64 m0, .int .u64 m1] 24)).heap.size (w.alloc (.cells #[.int .u64 m0, .int .u64 m1] 24)) w' → Below w.heap.size w w' := fun w' h => ((Below.refl _ _).alloc (Nat.le_refl _) _).trans (h.mono (by simp))
  have HF := Lib.hid fin
  clear fin
  by_cases h0 : first = 0
  · have d1 : (first == 0) = true := by simpa using h0
    clear h h0
    go_enter Try.func3, Try.ntmps3
    go_wp2_with fail
    refine (HA.out).mono ?_
    rintro e w1 ⟨rfl, hB⟩
    have hB := HF.out _ hB
    go_wp2_with fail
    go_ret
    exact ⟨rfl, hB⟩
  · have d1 : (first == 0) = false := by simpa using h0
    by_cases h1 : 4611686018427387904 < first
    · have d2 : decide (4611686018427387904 < first) = true := by simpa using h1
      clear h h0 h1
      go_enter Try.func3, Try.ntmps3
      go_wp2_with fail
      refine (HA.out).mono ?_
      rintro e w1 ⟨rfl, hB⟩
      have hB := HF.out _ hB
      go_wp2_with fail
      go_ret
      exact ⟨rfl, hB⟩
    · have d2 : decide (4611686018427387904 < first) = false := by simpa using h1
      have d3 : decide ((40 : Int) < (gs.length : Int)) = true := by simp; omega
      clear h h0 h1
      go_enter Try.func3, Try.ntmps3
      go_wp2_with fail
      refine (HA.out).mono ?_
      rintro e w1 ⟨rfl, hB⟩
      have hB := HF.out _ hB
      go_wp2_with fail
      go_ret
      exact ⟨rfl, hB⟩

theorem trims_walk (first m0 m1 : Int) (A : Option Addr) (c : Nat) (gs : List UInt8) (w : World) (hg : Bytes w A gs) (hm : gs.length ≤ maxLen) (f0 : 0 ≤ first ∧ first ≤ 18446744073709551615) (h0 : 0 ≤ m0 ∧ m0 ≤ 18446744073709551615) (h1 : 0 ≤ m1 ∧ m1 ≤ 18446744073709551615) :
    Calls Try.prog 3 #[.int .u64 first, .slice A gs.length c, .agg #[.int .u64 m0, .int .u64 m1]] w fun e w' => e = .returned (.bool true) ∧ Below w.heap.size w w' := by
  by_cases h : first = 0 ∨ 4611686018427387904 < first ∨ 40 < gs.length
  · exact trims_out first m0 m1 A c gs w hm h
  · simp only [not_or] at h
    exact trims_main first m0 m1 A c gs w hg (by omega) (by omega) (by omega) h0.1 h0.2 h1.1 h1.2
end Go.Proofs.Ytobndboogafjpaa
