/- The walk of the law DirsPaths: it answers true, whatever comes in. Condition: the library's variable MaxLen holds an int. -/
import Derived.Test.YtjilejmchaejiaaDoorDirUnder2
namespace Go.Cat.Dir
open Go.RowKit Go.Cat
theorem under_root {p : Txt} {a : List Txt} (h : splitV p = some a) : underV p [47] = true := by rw [under_some h split_root]; simp
theorem under_self {p : Txt} {a : List Txt} (h : splitV p = some a) : underV p p = true := by rw [under_some h h]; simp
theorem spe_zero {p : Txt} (h : spe p = 0) : ∃ a, splitV p = some a ∧ spl p = a := by
  cases hs : splitV p with
  | none => rw [(spl_none hs).2] at h; cases h
  | some a => exact ⟨a, rfl, (spl_some hs).1⟩
theorem spl_len (p : Txt) : (spl p).length ≤ 8 ∧ ∀ l ∈ spl p, nameP l := by
  cases hs : splitV p with
  | none => rw [(spl_none hs).1]; exact ⟨Nat.zero_le _, fun l h => by cases h⟩
  | some a => rw [(spl_some hs).1]; exact ⟨(split_some hs).2.1, (split_some hs).2.2.1⟩
theorem few_len {ls : List Txt} {n : Nat} (hn : ∀ j (hj : j < ls.length), j < n → ls[j].length ≤ 30) (hl : n = ls.length) : (ls.flatMap (fun l => 47 :: l)).length ≤ ls.length * 31 := by
  subst hl
  have h : ∀ l ∈ ls, l.length ≤ 30 := fun l hl => by
    obtain ⟨j, hj, rfl⟩ := List.getElem_of_mem hl
    exact hn j hj hj
  clear hn
  induction ls with
  | nil => exact Nat.le_refl _
  | cons a t ih =>
    have h1 := h a (List.mem_cons_self)
    have h2 := ih (fun l hl => h l (List.mem_cons_of_mem _ hl))
    rw [List.flatMap_cons, List.length_append, List.length_cons, List.length_cons]
    omega
theorem ex_above : abv [47, 97, 47, 98] = ([47, 97], [98]) ∧ abe [47, 97, 47, 98] = 0 := by decide +kernel
theorem ex_under : underV [47, 97, 47, 98] [47, 97] = true := by decide +kernel
theorem ex_not : underV [47, 97, 98] [47, 97] = false := by decide +kernel
end Go.Cat.Dir
namespace Go.Proofs.YtjilejmchaejiaaDoor
open Go.RowKit Go.Cat Go.Cat.Dir

/-- The library's variable holds an int. -/
def MaxL (m : Int) (w : World) : Prop := w.cell? ⟨0, 0, none⟩ = some (.int .i64 m)
theorem MaxL.below {m : Int} {w w' : World} (h : MaxL m w) (hB : Below w.heap.size w w') : MaxL m w' := (hB.cell (World.block_lt_of_cell? _ _ h)).trans h

set_option maxRecDepth 100000 in
theorem dawake_any (m : Int) (w : World) (hm : MaxL m w) : Calls Tryd.prog 7 #[] w fun e w' => e = .returned (.bool true) ∧ Below w.heap.size w w' := by
  have p1 := dabove_any [47, 97, 47, 98] m w (by decide) hm
  unfold ToldAb at p1
  rw [ex_above.1, ex_above.2] at p1
  have p2 := fun W (h : MaxL m W) => dunder_any [47, 97, 47, 98] [47, 97] m W (by decide) (by decide) h
  have p3 := fun W (h : MaxL m W) => dunder_any [47, 97, 98] [47, 97] m W (by decide) (by decide) h
  rw [ex_under] at p2
  rw [ex_not] at p3
  have HM : Hid (MaxL m w) := hm
  have P1 := Lib.hid p1
  have P2 := Lib.hid p2
  have P3 := Lib.hid p3
  clear p1 p2 p3 hm
  go_enter Tryd.func7, Tryd.ntmps7
  go_wp2_with fail
  refine (P1.out).mono ?_
  rintro e w1 ⟨rfl, hB1⟩
  have t1 : (bs [47, 97]).toList = [47, 97] := bs_toList _
  have t2 : (bs [98]).toList = [98] := bs_toList _
  have HB1 := Lib.hid hB1
  have P2' := Lib.hid (P2.out w1 (HM.out.below hB1))
  clear hB1
  go_wp2_with fail
  refine (P2'.out).mono ?_
  rintro e w2 ⟨rfl, hB2⟩
  have hB2w := HB1.out.trans (hB2.mono HB1.out.size)
  have HB2 := Lib.hid hB2w
  have P3' := Lib.hid (P3.out w2 (HM.out.below hB2w))
  clear hB2 hB2w
  go_wp2_with fail
  refine (P3'.out).mono ?_
  rintro e w3 ⟨rfl, hB3⟩
  have HB3 := Lib.hid (HB2.out.trans (hB3.mono HB2.out.size))
  clear hB3
  go_wp2_with fail
  go_ret
  exact ⟨rfl, HB3.out⟩

/-- The law's end: the example. -/
theorem paths_far (p t : Txt) (A : Option Addr) (n c : Nat) (m : Int) (w : World) (hm : MaxL m w) (h : 200 < p.length ∨ 200 < t.length ∨ 20 < n) :
    Calls Tryd.prog 3 #[.string (bs p), .string (bs t), .slice A n c] w fun e w' => e = .returned (.bool true) ∧ Below w.heap.size w w' := by
  have P1 := Lib.hid (dawake_any m w hm)
  have hp := bs_size p
  have ht := bs_size t
  clear hm
  by_cases h1 : 200 < p.length
  · have d1 : (200 : Int) < ((bs p).size : Int) := by omega
    clear h h1 hp ht
    go_enter Tryd.func3, Tryd.ntmps3
    go_wp2_with fail
    refine (P1.out).mono ?_
    rintro e w1 ⟨rfl, hB1⟩
    go_wp2
    go_ret
    exact ⟨rfl, hB1⟩
  · have d1 : ((bs p).size : Int) ≤ 200 := by omega
    by_cases h2 : 200 < t.length
    · have d2 : (200 : Int) < ((bs t).size : Int) := by omega
      clear h h1 h2 hp ht
      go_enter Tryd.func3, Tryd.ntmps3
      go_wp2_with fail
      refine (P1.out).mono ?_
      rintro e w1 ⟨rfl, hB1⟩
      go_wp2
      go_ret
      exact ⟨rfl, hB1⟩
    · have d2 : ((bs t).size : Int) ≤ 200 := by omega
      have d3 : decide ((20 : Int) < (n : Int)) = true := by simp; omega
      have d3' : (20 : Int) < (n : Int) := by omega
      clear h h1 h2 hp ht
      go_enter Tryd.func3, Tryd.ntmps3
      go_wp2_with fail
      refine (P1.out).mono ?_
      rintro e w1 ⟨rfl, hB1⟩
      go_wp2
      go_ret
      exact ⟨rfl, hB1⟩

set_option maxRecDepth 100000 in
set_option maxHeartbeats 4000000 in
theorem paths_near (p t : Txt) (A : Option Addr) (ls : List Txt) (c : Nat) (m : Int) (w : World) (hm : MaxL m w) (hs : Texts w A ls) (hp : p.length ≤ 200) (ht : t.length ≤ 200) (hn : ls.length ≤ 20) :
    Calls Tryd.prog 3 #[.string (bs p), .string (bs t), .slice A ls.length c] w fun e w' => e = .returned (.bool true) ∧ Below w.heap.size w w' := by
  have hbp := bs_size p
  have hbt := bs_size t
  have d1 : ((bs p).size : Int) ≤ 200 := by omega
  have d2 : ((bs t).size : Int) ≤ 200 := by omega
  have p1 := fun W (h : MaxL m W) => dsplit_any p m W (by omega) h
  have p2 := fun W => rsplit_any p W (by omega)
  have p3 := fun W (h : MaxL m W) => dabove_any p m W (by omega) h
  have p4 := fun W => rabove_any p W (by omega)
  have p5 := fun A B c d W (h : Texts W A (spl p)) (h2 : Texts W B (spl p)) => sametexts_any A B (spl p) (spl p) c d W h h2 (by have := (spl_len p).1; omega)
  simp only [decide_true, eq_self] at p5
  have p6 := fun W (h : MaxL m W) => dunder_any p t m W (by omega) (by omega) h
  have p7 := fun W => runder_any p t W (by omega) (by omega)
  have hj0 := names_len (spl_len p).2
  have p10 := fun A c W (h : Texts W A (spl p)) => djoin_any A (spl p) c W h (by have := (spl_len p).1; omega) (by have := (spl_len p).1; omega)
  have p11 := fun W (h : MaxL m W) => dunder_any p [47] m W (by omega) (by decide) h
  have p12 := fun W (h : MaxL m W) => dunder_any p p m W (by omega) (by omega) h
  have hz : spe p = 0 → joinV (spl p) = p ∧ underV p [47] = true ∧ underV p p = true := fun h => by
    obtain ⟨a, h1, h2⟩ := spe_zero h
    exact ⟨by rw [h2]; exact (split_some h1).1, under_root h1, under_self h1⟩
  unfold ToldSp at p1 p2
  unfold ToldAb at p3 p4
  have h8 := (spl_len p).1
  obtain ⟨sp, hsp⟩ : ∃ sp, sp = spl p := ⟨_, rfl⟩
  obtain ⟨er, her⟩ : ∃ er, er = spe p := ⟨_, rfl⟩
  obtain ⟨x1, hx1⟩ : ∃ x1, x1 = (abv p).1 := ⟨_, rfl⟩
  obtain ⟨x2, hx2⟩ : ∃ x2, x2 = (abv p).2 := ⟨_, rfl⟩
  obtain ⟨ae, hae⟩ : ∃ ae, ae = abe p := ⟨_, rfl⟩
  obtain ⟨V, hV⟩ : ∃ V, V = underV p t := ⟨_, rfl⟩
  rw [← hsp] at p1 p2 p5 p10 hz h8
  rw [← her] at p1 p2 hz
  rw [← hx1, ← hx2, ← hae] at p3 p4
  rw [← hV] at p6 p7
  obtain ⟨n1, hn1⟩ : ∃ n1, n1 = sp.length := ⟨_, rfl⟩
  rw [← hn1] at p1 p2 p5 p10
  obtain ⟨n, hnn⟩ : ∃ n, n = ls.length := ⟨_, rfl⟩
  rw [← hnn] at hn ⊢
  have d3 : decide ((20 : Int) < (n : Int)) = false := by simp; omega
  have d3' : (n : Int) ≤ 20 := by omega
  have e1 : (er != er) = false := by simp
  have e2 : (ae != ae) = false := by simp
  have e3 : (V != V) = false := by cases V <;> rfl
  have P1 := Lib.hid p1
  have P2 := Lib.hid p2
  have P3 := Lib.hid p3
  have P4 := Lib.hid p4
  have P5 := Lib.hid p5
  have P6 := Lib.hid p6
  have P7 := Lib.hid p7
  have P10 := Lib.hid p10
  have P11 := Lib.hid p11
  have P12 := Lib.hid p12
  have HZ := Lib.hid hz
  have HM : Hid (MaxL m w) := hm
  have HS := Lib.hid hs
  have HN := Lib.hid hnn
  have PA := Lib.hid (fun W (h : MaxL m W) => dawake_any m W h)
  clear hbp hbt p1 p2 p3 p4 p5 p6 p7 p10 p11 p12 hj0 hz h8 hsp her hx1 hx2 hae hV hn1 hnn hm hs hp ht
  go_enter Tryd.func3, Tryd.ntmps3
  go_wp2_with fail
  go_loop [7] (fun iv' => ∃ k : Nat, k ≤ n ∧ iv' = .int .i64 k ∧ Hid (∀ j (hj : j < ls.length), j < k → ls[j].length ≤ 30)) (fun iv' => n - (intOf iv').toNat)
  case atStart => exact ⟨0, Nat.zero_le _, rfl, fun j _ h => absurd h (Nat.not_lt_zero j)⟩
  case round =>
    obtain ⟨k, hk, rfl, HA⟩ := hrel
    by_cases hlt : k < n
    · have t1 : decide ((k : Int) < (n : Int)) = true := by simp; omega
      have hkl : k < ls.length := by rw [← HN.out]; exact hlt
      obtain ⟨b, off, hA, hbl, hc⟩ := Texts.at_ HS.out hkl
      obtain ⟨l, hl⟩ : ∃ l, l = ls[k] := ⟨_, rfl⟩
      rw [← hl] at hc
      have hsz := bs_size l
      have hkI : (k : Int) < (n : Int) := by omega
      have hk0 : (0 : Int) ≤ (k : Int) := by omega
      subst hA
      by_cases h30 : l.length ≤ 30
      · have t2 : ((bs l).size : Int) ≤ 30 := by omega
        have hall : ∀ j (hj : j < ls.length), j < k + 1 → ls[j].length ≤ 30 := fun j hj hjk => by
          by_cases e : j = k
          · subst e; rw [← hl]; exact h30
          · exact HA.out j hj (by omega)
        have HA2 := Lib.hid hall
        clear hl hall hkl hbl h30 hsz
        go_wp2_with fail
        go_round
        case rel => exact ⟨k + 1, by omega, by go_num, HA2.out⟩
        case measure => simp [intOf]; omega
      · have t2 : (30 : Int) < ((bs l).size : Int) := by omega
        clear hl hkl hbl h30 hsz
        go_wp2_with fail
        refine (PA.out w HM.out).mono ?_
        rintro e w9 ⟨rfl, hB9⟩
        go_wp2
        go_ret
        exact ⟨rfl, hB9⟩
    · obtain rfl : k = n := by omega
      have t1 : decide ((k : Int) < (k : Int)) = false := by simp
      have hjl := few_len HA.out HN.out
      have p8 := fun W (h : Texts W A ls) => djoin_any A ls c W h (by have := HN.out; omega) (by have := HN.out; omega)
      have p9 := fun W (h : Texts W A ls) => rjoin_any A ls c W h (by have := HN.out; omega) (by have := HN.out; omega)
      rw [← HN.out] at p8 p9
      obtain ⟨J, hJ⟩ : ∃ J, J = joinV ls := ⟨_, rfl⟩
      rw [← hJ] at p8 p9
      have P8 := Lib.hid p8
      have P9 := Lib.hid p9
      have P1' := Lib.hid (P1.out w HM.out)
      clear hjl p8 p9 hJ P1
      go_wp2_with fail
      refine (P1'.out).mono ?_
      rintro e w1 ⟨A1, c1, rfl, ht1, _, _, hB1⟩
      have HB1 := Lib.hid hB1
      have HT1 := Lib.hid ht1
      have P2' := Lib.hid (P2.out w1)
      clear hB1 ht1 P1' P2
      go_wp2_with fail
      refine (P2'.out).mono ?_
      rintro e w2 ⟨A2, c2, rfl, ht2, _, _, hB2⟩
      have HT1b := Lib.hid (HT1.out.below hB2)
      have hB2w := HB1.out.trans (hB2.mono HB1.out.size)
      have HB2 := Lib.hid hB2w
      have HT2 := Lib.hid ht2
      have P3' := Lib.hid (P3.out w2 (HM.out.below hB2w))
      clear hB2 hB2w ht2 P2' P3 HT1 HB1
      go_wp2_with fail
      refine (P3'.out).mono ?_
      rintro e w3 ⟨rfl, hB3⟩
      have HT1c := Lib.hid (HT1b.out.below hB3)
      have HT2c := Lib.hid (HT2.out.below hB3)
      have HB3 := Lib.hid (HB2.out.trans (hB3.mono HB2.out.size))
      have P4' := Lib.hid (P4.out w3)
      clear hB3 P3' P4 HT1b HT2 HB2
      go_wp2_with fail
      refine (P4'.out).mono ?_
      rintro e w4 ⟨rfl, hB4⟩
      have HT1d := Lib.hid (HT1c.out.below hB4)
      have HT2d := Lib.hid (HT2c.out.below hB4)
      have HB4 := Lib.hid (HB3.out.trans (hB4.mono HB3.out.size))
      have P5' := Lib.hid (P5.out A1 A2 c1 c2 w4 HT1d.out HT2d.out)
      clear hB4 P4' P5 HT1c HT2c HB3
      go_wp2_with fail
      refine (P5'.out).mono ?_
      rintro e w5 ⟨rfl, hB5⟩
      have HT1e := Lib.hid (HT1d.out.below hB5)
      have hB5w := HB4.out.trans (hB5.mono HB4.out.size)
      have HB5 := Lib.hid hB5w
      have P6' := Lib.hid (P6.out w5 (HM.out.below hB5w))
      clear hB5 hB5w P5' P6 HT1d HT2d HB4
      go_wp2_with fail
      refine (P6'.out).mono ?_
      rintro e w6 ⟨rfl, hB6⟩
      have HT1f := Lib.hid (HT1e.out.below hB6)
      have HB6 := Lib.hid (HB5.out.trans (hB6.mono HB5.out.size))
      have P7' := Lib.hid (P7.out w6)
      clear hB6 P6' P7 HT1e HB5
      go_wp2_with fail
      refine (P7'.out).mono ?_
      rintro e w7 ⟨rfl, hB7⟩
      have HT1g := Lib.hid (HT1f.out.below hB7)
      have hB7w := HB6.out.trans (hB7.mono HB6.out.size)
      have HB7 := Lib.hid hB7w
      have P8' := Lib.hid (P8.out w7 (HS.out.below hB7w))
      clear hB7 hB7w P7' P8 HT1f HB6
      go_wp2_with fail
      refine (P8'.out).mono ?_
      rintro e w8 ⟨rfl, hB8⟩
      have HT1h := Lib.hid (HT1g.out.below hB8)
      have hB8w := HB7.out.trans (hB8.mono HB7.out.size)
      have HB8 := Lib.hid hB8w
      have P9' := Lib.hid (P9.out w8 (HS.out.below hB8w))
      clear hB8 hB8w P8' P9 HT1g HB7
      go_wp2_with fail
      refine (P9'.out).mono ?_
      rintro e w9 ⟨rfl, rfl⟩
      clear P9'
      by_cases h0 : er = 0
      · have t2 : (er != 0) = false := by simpa using h0
        obtain ⟨z1, z2, z3⟩ := HZ.out h0
        have P10' := Lib.hid (P10.out A1 c1 w8 HT1h.out)
        rw [z1] at P10'
        have P11' := Lib.hid (P11.out)
        rw [z2] at P11'
        have P12' := Lib.hid (P12.out)
        rw [z3] at P12'
        clear h0 z1 z2 z3 P10 P11 P12
        go_wp2_with fail
        refine (P10'.out).mono ?_
        rintro e w10 ⟨rfl, hB10⟩
        have hB10w := HB8.out.trans (hB10.mono HB8.out.size)
        have HB10 := Lib.hid hB10w
        have P11'' := Lib.hid (P11'.out w10 (HM.out.below hB10w))
        clear hB10 hB10w P10' P11' HB8
        go_wp2_with fail
        refine (P11''.out).mono ?_
        rintro e w11 ⟨rfl, hB11⟩
        have hB11w := HB10.out.trans (hB11.mono HB10.out.size)
        have HB11 := Lib.hid hB11w
        have P12'' := Lib.hid (P12'.out w11 (HM.out.below hB11w))
        clear hB11 hB11w P11'' P12' HB10
        go_wp2_with fail
        refine (P12''.out).mono ?_
        rintro e w12 ⟨rfl, hB12⟩
        have hB12w := HB11.out.trans (hB12.mono HB11.out.size)
        have HB12 := Lib.hid hB12w
        have PA' := Lib.hid (PA.out w12 (HM.out.below hB12w))
        clear hB12 hB12w P12'' HB11
        go_wp2_with fail
        refine (PA'.out).mono ?_
        rintro e w13 ⟨rfl, hB13⟩
        have HF := Lib.hid (HB12.out.trans (hB13.mono HB12.out.size))
        clear hB13
        go_wp2_with fail
        go_ret
        exact ⟨rfl, HF.out⟩
      · have t2 : (er != 0) = true := by simpa using h0
        have PA' := Lib.hid (PA.out w8 (HM.out.below HB8.out))
        clear h0
        go_wp2_with fail
        refine (PA'.out).mono ?_
        rintro e w13 ⟨rfl, hB13⟩
        have HF := Lib.hid (HB8.out.trans (hB13.mono HB8.out.size))
        clear hB13
        go_wp2_with fail
        go_ret
        exact ⟨rfl, HF.out⟩

theorem paths_walk (p t : Txt) (A : Option Addr) (ls : List Txt) (c : Nat) (m : Int) (w : World) (hm : MaxL m w) (hs : Texts w A ls) :
    Calls Tryd.prog 3 #[.string (bs p), .string (bs t), .slice A ls.length c] w fun e w' => e = .returned (.bool true) ∧ Below w.heap.size w w' := by
  by_cases h : 200 < p.length ∨ 200 < t.length ∨ 20 < ls.length
  · exact paths_far p t A ls.length c m w hm h
  · exact paths_near p t A ls c m w hm hs (by omega) (by omega) (by omega)
end Go.Proofs.YtjilejmchaejiaaDoor
