/- The walk of the law MoveOwn. No condition but the length. -/
import Derived.Test.YtgjhcmjkdjnjfaaMoveRefP
import Derived.Test.YtgjhcmjkdjnjfaaMoveSpoil
namespace Go.Cat.Move
theorem chunk_first {bs : List UInt8} (h : bs.length ≤ 1024) : chunkAt bs 0 = bs ∧ hasChunk bs 0 = true := by
  have hl := chunks_length bs
  unfold ccount at hl
  have h0 : 0 < (chunks bs).length := by omega
  have e := chunkAt_nat (bs := bs) (k := 0) h0
  refine ⟨?_, by unfold hasChunk; simp; omega⟩
  have e2 : (bs.drop (1024 * 0)).take 1024 = bs := by rw [Nat.mul_zero, List.drop_zero, List.take_of_length_le h]
  exact e.trans e2
theorem own1 {b : List UInt8} (h : b.length ≤ 1000) : takeIn (again 0) 3 0 2 b = (with1 (again 3) 2 b, [], false) := by
  have h1 : ¬ refuses (again 0) 3 0 2 b := by unfold refuses; simp only [again]; omega
  have h2 : first (again 0) 3 2 = again 3 := if_pos (by simp [turned, again])
  unfold takeIn
  rw [if_neg h1, h2, if_neg (by simp [again]), if_pos (by simp [again])]
theorem own2 {b : List UInt8} : takeIn (with1 (again 3) 2 b) 3 1 2 [] = (again 3, b, true) := by
  have h1 : ¬ refuses (with1 (again 3) 2 b) 3 1 2 [] := by simp [refuses, again, with1]
  have h2 : first (with1 (again 3) 2 b) 3 2 = with1 (again 3) 2 b := if_neg (by simp [turned, again, with1])
  unfold takeIn
  rw [if_neg h1, h2, if_neg (by simp [again, with1]), if_neg (by simp [again, with1])]
  simp [again, with1]
end Go.Cat.Move
namespace Go.Proofs.Ytgjhcmjkdjnjfaa
open Go.RowKit Go.Cat Go.Cat.Move

theorem grown_none {w w' : World} {B : Nat} (hg : w.grownBy w' none) (hB : B ≤ w.heap.size) : Below B w w' := (Below.refl _ _).grown hg hB (fun k hk => by cases hk)

set_option maxRecDepth 100000 in
set_option maxHeartbeats 4000000 in
theorem own_walk (A : Option Addr) (bs : List UInt8) (c : Nat) (w : World) (hb : Bytes w A bs) (hcm : bs.length ≤ maxLen) :
    Calls Try.prog 6 #[.slice A bs.length c] w fun e w' => e = .returned (.bool true) ∧ Below w.heap.size w w' := by
  unfold maxLen at hcm
  by_cases hlong : 1000 < bs.length
  · have d : decide ((1000 : Int) < (bs.length : Int)) = true := by simp; omega
    go_enter Try.func6, Try.ntmps6
    go_wp2_with fail
    refine (awake_any w).mono ?_
    rintro e w' ⟨rfl, hB⟩
    go_wp2_with fail
    go_ret
    exact ⟨rfl, hB⟩
  have d : decide ((1000 : Int) < (bs.length : Int)) = false := by simp; omega
  have hl : bs.length ≤ 1000 := by omega
  have HB := Lib.hid hb
  clear hlong hb
  go_enter Try.func6, Try.ntmps6
  go_wp2_with (at_builtin; refine wpList_app elem_u8 rfl (.const (.slice none 0 0)) (.tmp 25) rfl w.heap.size (.slice none 0 0) 0 [] rfl (World.ownsRow_nil _ _ _ _) A bs.length c (bs.map by8) rfl HB.out (by simp) (one_by8 _) (by omega) (Nat.le_refl _) ?_)
  intro v1 w1 hown1 hg1 _
  replace hown1 : w1.ownsRow w.heap.size 5 1 v1 bs.length (bs.map by8) := by simpa using hown1
  obtain ⟨A1, c1, rfl, _, _⟩ := own_full hown1
  have hB1 : Below w.heap.size w w1 := grown_none hg1 (Nat.le_refl _)
  have p1 := new_any 3 A1 bs c1 w1 (Sees.of_own hown1) (by omega)
  have P1 := Lib.hid p1
  have HO1 := Lib.hid hown1
  clear hown1 hg1 p1
  go_wp2_with fail
  refine (P1.out).mono ?_
  rintro e w2 ⟨rfl, hO2, hB2⟩
  have hB2w := hB1.trans (hB2.mono hB1.size)
  have hown2 := own_touch (K := fun _ => False) HO1.out (Tch.of_below hB2) fun _ _ h => h
  have HOu2 := Lib.hid hO2
  have HO2 := Lib.hid hown2
  clear hO2 hown2 hB1 hB2
  go_wp2_with fail
  refine (spoil_any w.heap.size A1 bs.length c1 bs w2 HO2.out).mono ?_
  rintro e w3 ⟨⟨v3, rfl⟩, ht3⟩
  have hO3 : OutV w1.heap.size 3 bs w1.heap.size w3 := HOu2.out.keep fun k cs t fr h1 h2 => ht3.block k (Array.getElem?_eq_some_iff.1 h2).1 fun e => by have := (HO1.out.lt k e).2; omega
  have hB3 : Below w.heap.size w2 w3 := ht3.below hB2w.size fun k e => (HO1.out.lt k e).1
  have hB3w := hB2w.trans hB3
  have p4 := part_any _ _ _ _ 0 _ hO3 (by omega)
  rw [(chunk_first (by omega : bs.length ≤ 1024)).1, (chunk_first (by omega : bs.length ≤ 1024)).2] at p4
  have P4 := Lib.hid p4
  have HO3 := Lib.hid hO3
  clear p4 hO3 ht3 hB3 hB2w
  go_wp2_with fail
  refine (P4.out).mono ?_
  rintro e w4 ⟨A4, c4, rfl, ho4, hB4⟩
  have HRow4 := Lib.hid ho4
  clear ho4
  go_wp2_with fail
  refine (spoil_any w3.heap.size A4 bs.length c4 bs w4 HRow4.out).mono ?_
  rintro e w5 ⟨⟨v5, rfl⟩, ht5⟩
  have hB5 : Below w3.heap.size w3 w5 := hB4.trans (ht5.below hB4.size fun k e => (HRow4.out.lt k e).1)
  have hB5w := hB3w.trans (hB5.mono hB3w.size)
  have p6 := part_any _ _ _ _ 0 _ (HO3.out.below hB5) (by omega)
  rw [(chunk_first (by omega : bs.length ≤ 1024)).1, (chunk_first (by omega : bs.length ≤ 1024)).2] at p6
  have P6 := Lib.hid p6
  clear p6 ht5 hB4 hB5 hB3w
  go_wp2_with fail
  refine (P6.out).mono ?_
  rintro e w6 ⟨A6, c6, rfl, ho6, hB6⟩
  have hq6 : Bytes w6 A6 bs := Sees.of_own ho6
  have HQ6 := Lib.hid hq6
  have hB6w := hB5w.trans (hB6.mono hB5w.size)
  clear ho6 hq6 hB6 hB5w
  go_wp2_with fail
  refine (begin_any w6).mono ?_
  rintro e w7 ⟨rfl, hx7, hB7⟩
  have hg7 := hx7.lt
  have hB7w := hB6w.trans (hB7.mono hB6w.size)
  have HX7 := Lib.hid hx7
  have HB7 := Lib.hid hB7
  clear hx7 hB7
  go_wp2_with (at_builtin; refine wpList_app elem_u8 rfl (.const (.slice none 0 0)) (.tmp 44) rfl w7.heap.size (.slice none 0 0) 0 [] rfl (World.ownsRow_nil _ _ _ _) A bs.length c (bs.map by8) rfl (HB.out.below hB7w) (by simp) (one_by8 _) (by omega) (Nat.le_refl _) ?_)
  intro v8 w8 hown8 hg8 _
  replace hown8 : w8.ownsRow w7.heap.size 5 1 v8 bs.length (bs.map by8) := by simpa using hown8
  obtain ⟨A8, c8, rfl, _, _⟩ := own_full hown8
  have hB8 : Below w7.heap.size w7 w8 := grown_none hg8 (Nat.le_refl _)
  have hx8 := HX7.out.below hB8
  have p9 := take_any w6.heap.size w6.heap.size _ (again 0) 3 0 2 A8 bs c8 w8 hx8 (Sees.of_own hown8) (by omega) (by simp [again]) (by simp [again]) (by have := hB8.size; omega) (by
    rintro k (rfl | h) o e
    · have hA8 : (Value.slice A8 bs.length c8).ownBlock = some w6.heap.size := by rw [e]; rfl
      have := (hown8.lt _ hA8).1
      omega
    · cases h)
  rw [own1 hl] at p9
  have P9 := Lib.hid p9
  have HO8 := Lib.hid hown8
  have HX8 := Lib.hid hx8
  have hB8w := hB7w.trans (hB8.mono hB7w.size)
  have HB8 := Lib.hid hB8
  clear p9 hown8 hg8 hx8 hB8
  go_wp2_with fail
  refine (P9.out).mono ?_
  rintro e w9 ⟨R9, A9, c9, rfl, hx9, _, hr9, ht9⟩
  have hown9 : w9.ownsRow w7.heap.size 5 1 (.slice A8 bs.length c8) bs.length (bs.map by8) := own_touch HO8.out ht9 fun k hk hm => by
    rcases hm with rfl | h
    · have := (HO8.out.lt _ hk).1; omega
    · cases h
  have hB69 : Below w6.heap.size w6 w9 := (HB7.out.trans (HB8.out.mono HB7.out.size)).trans (ht9.below (by have := HB8.out.size; omega) HX8.out.mine)
  have hB9w := hB6w.trans (hB69.mono hB6w.size)
  have HO9 := Lib.hid hown9
  have HX9 := Lib.hid hx9
  have HR9 := Lib.hid hr9
  have HB69 := Lib.hid hB69
  clear hown9 hx9 hr9 ht9 hB69
  go_wp2_with fail
  refine (spoil_any w7.heap.size A8 bs.length c8 bs w9 HO9.out).mono ?_
  rintro e w10 ⟨⟨v10, rfl⟩, ht10⟩
  have hx10 : InW w6.heap.size w6.heap.size R9 (with1 (again 3) 2 bs) w10 := HX9.out.touch ht10 (fun e => by have := (HO8.out.lt _ e).1; omega) fun k hk e => by
    have h1 := (HO8.out.lt _ e).2
    rcases HR9.out k hk with h | h
    · cases h
    · omega
  have hB610 : Below w6.heap.size w6 w10 := HB69.out.trans (ht10.below HB69.out.size fun k e => by have := (HO8.out.lt k e).1; omega)
  have p11 := take_any w6.heap.size w6.heap.size R9 (with1 (again 3) 2 bs) 3 1 2 none [] 0 w10 hx10 Sees.nil_ (by simp) (by simp [with1, again]) (by simp [with1, again]; omega) hB610.size (fun k _ o e => by cases e)
  rw [own2] at p11
  have P11 := Lib.hid p11
  have HX10 := Lib.hid hx10
  have HB610 := Lib.hid hB610
  clear p11 hx10 hB610 ht10
  go_wp2_with fail
  refine (P11.out).mono ?_
  rintro e w11 ⟨R11, A11, c11, rfl, _, ho11, _, ht11⟩
  have hcP : Bytes w11 A11 bs := Sees.of_own ho11
  have hB6P : Below w6.heap.size w6 w11 := HB610.out.trans (ht11.below HB610.out.size HX10.out.mine)
  have HCP := Lib.hid hcP
  have HB6P := Lib.hid hB6P
  have P14 := Lib.hid (part_nil 0 w11)
  clear hcP hB6P ho11 ht11
  go_wp2_with fail
  refine (P14.out).mono ?_
  rintro e wz ⟨A12, c12, rfl, ho12, hB12⟩
  clear ho12
  have hc11 : Bytes wz A11 bs := HCP.out.below hB12
  have hB611 : Below w6.heap.size w6 wz := HB6P.out.trans (hB12.mono HB6P.out.size)
  have hq11 : Bytes wz A6 bs := HQ6.out.below hB611
  have hB11w := hB6w.trans (hB611.mono hB6w.size)
  have hb11 : Bytes wz A bs := HB.out.below hB11w
  have p12 := same8_any A6 A bs.length bs.length c6 c bs bs wz hq11 hb11 rfl rfl (by omega) (by omega)
  have p13 := fun q => same8_any A11 A bs.length bs.length c11 c bs bs (wz.drewN q) hc11 hb11 rfl rfl (by omega) (by omega)
  rw [show decide (bs = bs) = true by simp] at p12
  have P12 := Lib.hid p12
  have P13 : Hid (∀ q, Calls Try.prog 14 #[.slice A11 bs.length c11, .slice A bs.length c] (wz.drewN q) fun e w' => e = .returned (.bool true) ∧ ∃ k, w' = (wz.drewN q).drewN k) := Lib.hid fun q => by
    have := p13 q
    rwa [show decide (bs = bs) = true by simp] at this
  have P15 := Lib.hid (wants_nil wz)
  have P16 := Lib.hid (take_nil 1 0 1 A bs.length c wz)
  have P17 := Lib.hid (at_nil wz)
  have P18 := Lib.hid (parts_nil wz)
  have P19 := Lib.hid (held_nil wz)
  clear p12 p13 hc11 hq11 hb11 hB611
  go_wp2_with fail
  refine (P15.out).mono ?_
  rintro e w12 ⟨rfl, rfl⟩
  go_wp2_with fail
  refine (P16.out).mono ?_
  rintro e w12 ⟨rfl, rfl⟩
  go_wp2_with fail
  refine (P17.out).mono ?_
  rintro e w12 ⟨rfl, rfl⟩
  go_wp2_with fail
  refine (P18.out).mono ?_
  rintro e w12 ⟨rfl, rfl⟩
  go_wp2_with fail
  refine (P19.out).mono ?_
  rintro e w12 ⟨rfl, rfl⟩
  go_wp2_with fail
  refine (P12.out).mono ?_
  rintro e w12 ⟨rfl, q1, rfl⟩
  go_wp2_with fail
  refine (P13.out q1).mono ?_
  rintro e w12 ⟨rfl, q2, rfl⟩
  go_wp2_with fail
  refine (awake_any _).mono ?_
  rintro e w12 ⟨rfl, hBf⟩
  have hfin : Below w.heap.size w w12 := hB11w.trans ((below_drewN (Below.refl w.heap.size wz) (q1 + q2)).trans (hBf.mono hB11w.size))
  go_wp2_with fail
  go_ret
  exact ⟨rfl, hfin⟩
end Go.Proofs.Ytgjhcmjkdjnjfaa
