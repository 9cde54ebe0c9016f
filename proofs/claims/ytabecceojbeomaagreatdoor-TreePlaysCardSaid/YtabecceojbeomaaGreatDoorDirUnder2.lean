/- The contracts of dirs.Under and of the reference's. Condition: paths below 2^32 bytes; the library's variable MaxLen holds an int. -/
import Derived.Test.YtabecceojbeomaaGreatDoorDirUnder
namespace Go.Cat.Dir
open Go.RowKit Go.Cat
theorem under_none1 {p t : Txt} (h : splitV p = none) : underV p t = false := by unfold underV; rw [h]
theorem under_none2 {p t : Txt} (h : splitV t = none) : underV p t = false := by unfold underV; rw [h]; cases splitV p <;> rfl
theorem under_some {p t : Txt} {a b : List Txt} (h : splitV p = some a) (h2 : splitV t = some b) : underV p t = decide (b.length ≤ a.length ∧ a.take b.length = b) := by unfold underV; rw [h, h2]
end Go.Cat.Dir
namespace Go.Proofs.YtabecceojbeomaaGreatDoor
open Go.RowKit Go.Cat Go.Cat.Dir

set_option maxRecDepth 100000 in
set_option maxHeartbeats 2000000 in
theorem dunder_any (p t : Txt) (m : Int) (w : World) (hp : p.length < 4294967281) (ht : t.length < 4294967281) (hm : w.cell? ⟨0, 0, none⟩ = some (.int .i64 m)) :
    Calls Tryz.prog 73 #[.string (bs p), .string (bs t)] w fun e w' => e = .returned (.bool (underV p t)) ∧ Below w.heap.size w w' := by
  have P1 := Lib.hid (dsplit_any p m w hp hm)
  have P2 := Lib.hid (fun W (hB : Below w.heap.size w W) => dsplit_any t m W ht ((hB.cell (World.block_lt_of_cell? _ _ hm)).trans hm))
  obtain ⟨V, hV⟩ : ∃ V, V = underV p t := ⟨_, rfl⟩
  rw [← hV]
  clear hp ht hm
  unfold ToldSp at P1 P2
  cases hs : splitV p with
  | none =>
    obtain ⟨h1, h2⟩ := spl_none hs
    rw [under_none1 hs] at hV
    subst hV
    rw [h1, h2] at P1
    obtain ⟨er, her⟩ : ∃ er, er = spe t := ⟨_, rfl⟩
    obtain ⟨n2, hn2⟩ : ∃ n2, n2 = (spl t).length := ⟨_, rfl⟩
    rw [← her, ← hn2] at P2
    clear hs h1 h2 her hn2
    go_enter Tryz.func73, Tryz.ntmps73
    go_wp2_with fail
    refine (P1.out).mono ?_
    rintro e w1 ⟨A1, c1, rfl, _, _, _, hB1⟩
    have P2' := Lib.hid (P2.out w1 hB1)
    have HB1 := Lib.hid hB1
    clear hB1 P1 P2
    go_wp2_with fail
    refine (P2'.out).mono ?_
    rintro e w2 ⟨A2, c2, rfl, _, _, _, hB2⟩
    have HB2 := Lib.hid (HB1.out.trans (hB2.mono HB1.out.size))
    clear hB2
    go_wp2_with fail
    go_ret
    exact ⟨rfl, HB2.out⟩
  | some a =>
    obtain ⟨h1, h2⟩ := spl_some hs
    rw [h1, h2] at P1
    cases hs2 : splitV t with
    | none =>
      obtain ⟨h3, h4⟩ := spl_none hs2
      rw [under_none2 hs2] at hV
      subst hV
      rw [h3, h4] at P2
      obtain ⟨n1, hn1⟩ : ∃ n1, n1 = a.length := ⟨_, rfl⟩
      rw [← hn1] at P1
      clear hs h1 h2 hs2 h3 h4 hn1
      go_enter Tryz.func73, Tryz.ntmps73
      go_wp2_with fail
      refine (P1.out).mono ?_
      rintro e w1 ⟨A1, c1, rfl, _, _, _, hB1⟩
      have P2' := Lib.hid (P2.out w1 hB1)
      have HB1 := Lib.hid hB1
      clear hB1 P1 P2
      go_wp2_with fail
      refine (P2'.out).mono ?_
      rintro e w2 ⟨A2, c2, rfl, _, _, _, hB2⟩
      have HB2 := Lib.hid (HB1.out.trans (hB2.mono HB1.out.size))
      clear hB2
      go_wp2_with fail
      go_ret
      exact ⟨rfl, HB2.out⟩
    | some b =>
      obtain ⟨h3, h4⟩ := spl_some hs2
      rw [under_some hs hs2] at hV
      rw [h3, h4] at P2
      have ha8 := (split_some hs).2.1
      have hb8 := (split_some hs2).2.1
      obtain ⟨n1, hn1⟩ : ∃ n1, n1 = a.length := ⟨_, rfl⟩
      obtain ⟨n2, hn2⟩ : ∃ n2, n2 = b.length := ⟨_, rfl⟩
      have pe := fun A B c d W (h : Texts W A (a.take n2)) (h2 : Texts W B b) => eqtexts_any A B (a.take n2) b c d W h h2 (by rw [List.length_take]; omega) (by omega)
      rw [← hn1] at P1 hV
      rw [← hn2] at P2 hV
      by_cases hle : n2 ≤ n1
      · have hl : (a.take n2).length = n2 := by rw [List.length_take]; omega
        have hV2 : V = decide (a.take n2 = b) := by rw [hV]; simp [hle]
        rw [hl, ← hn2, ← hV2] at pe
        have PE := Lib.hid pe
        have t1 : decide ((n2 : Int) ≤ (n1 : Int)) = true := by simp; omega
        have hle0 : (0 : Int) ≤ (n2 : Int) := by omega
        have hleI : (n2 : Int) ≤ (n1 : Int) := by omega
        clear hs h1 h2 hs2 h3 h4 hn1 hn2 hV hV2 pe hl ha8 hb8
        go_enter Tryz.func73, Tryz.ntmps73
        go_wp2_with fail
        refine (P1.out).mono ?_
        rintro e w1 ⟨A1, c1, rfl, ht1, hc1, hm1, hB1⟩
        have P2' := Lib.hid (P2.out w1 hB1)
        have HB1 := Lib.hid hB1
        have HT1 := Lib.hid ht1
        have hcc : (n2 : Int) ≤ (c1 : Int) := by omega
        have hcc' : n2 ≤ c1 := by omega
        unfold maxLen at hm1
        clear hB1 ht1 P1 P2
        go_wp2_with fail
        refine (P2'.out).mono ?_
        rintro e w2 ⟨A2, c2, rfl, ht2, _, _, hB2⟩
        have HB2 := Lib.hid (HB1.out.trans (hB2.mono HB1.out.size))
        have PE' := Lib.hid (PE.out A1 A2 c1 c2 w2 (Texts.take_ (HT1.out.below hB2) n2) ht2)
        clear hB2 ht2 PE
        go_wp2_with fail
        refine (PE'.out).mono ?_
        rintro e w3 ⟨rfl, hB3⟩
        have HB3 := Lib.hid (HB2.out.trans (hB3.mono HB2.out.size))
        clear hB3
        go_wp2_with fail
        go_ret
        exact ⟨rfl, HB3.out⟩
      · have hV2 : V = false := by rw [hV]; simp [hle]
        subst hV2
        have t1 : decide ((n2 : Int) ≤ (n1 : Int)) = false := by simp; omega
        have hltI : (n1 : Int) < (n2 : Int) := by omega
        clear hs h1 h2 hs2 h3 h4 hn1 hn2 hV pe ha8 hb8 hle
        go_enter Tryz.func73, Tryz.ntmps73
        go_wp2_with fail
        refine (P1.out).mono ?_
        rintro e w1 ⟨A1, c1, rfl, _, _, _, hB1⟩
        have P2' := Lib.hid (P2.out w1 hB1)
        have HB1 := Lib.hid hB1
        clear hB1 P1 P2
        go_wp2_with fail
        refine (P2'.out).mono ?_
        rintro e w2 ⟨A2, c2, rfl, _, _, _, hB2⟩
        have HB2 := Lib.hid (HB1.out.trans (hB2.mono HB1.out.size))
        clear hB2
        go_wp2_with fail
        go_ret
        exact ⟨rfl, HB2.out⟩
set_option maxRecDepth 100000 in
set_option maxHeartbeats 2000000 in
theorem runder_any (p t : Txt) (w : World) (hp : p.length < 4294967281) (ht : t.length < 4294967281) :
    Calls Tryz.prog 65 #[.string (bs p), .string (bs t)] w fun e w' => e = .returned (.bool (underV p t)) ∧ Below w.heap.size w w' := by
  have P1 := Lib.hid (rsplit_any p w hp)
  have P2 := Lib.hid (fun W (_ : Below w.heap.size w W) => rsplit_any t W ht)
  obtain ⟨V, hV⟩ : ∃ V, V = underV p t := ⟨_, rfl⟩
  rw [← hV]
  clear hp ht
  unfold ToldSp at P1 P2
  cases hs : splitV p with
  | none =>
    obtain ⟨h1, h2⟩ := spl_none hs
    rw [under_none1 hs] at hV
    subst hV
    rw [h1, h2] at P1
    obtain ⟨er, her⟩ : ∃ er, er = spe t := ⟨_, rfl⟩
    obtain ⟨n2, hn2⟩ : ∃ n2, n2 = (spl t).length := ⟨_, rfl⟩
    rw [← her, ← hn2] at P2
    clear hs h1 h2 her hn2
    go_enter Tryz.func65, Tryz.ntmps65
    go_wp2_with fail
    refine (P1.out).mono ?_
    rintro e w1 ⟨A1, c1, rfl, _, _, _, hB1⟩
    have P2' := Lib.hid (P2.out w1 hB1)
    have HB1 := Lib.hid hB1
    clear hB1 P1 P2
    go_wp2_with fail
    refine (P2'.out).mono ?_
    rintro e w2 ⟨A2, c2, rfl, _, _, _, hB2⟩
    have HB2 := Lib.hid (HB1.out.trans (hB2.mono HB1.out.size))
    clear hB2
    go_wp2_with fail
    go_ret
    exact ⟨rfl, HB2.out⟩
  | some a =>
    obtain ⟨h1, h2⟩ := spl_some hs
    rw [h1, h2] at P1
    cases hs2 : splitV t with
    | none =>
      obtain ⟨h3, h4⟩ := spl_none hs2
      rw [under_none2 hs2] at hV
      subst hV
      rw [h3, h4] at P2
      obtain ⟨n1, hn1⟩ : ∃ n1, n1 = a.length := ⟨_, rfl⟩
      rw [← hn1] at P1
      clear hs h1 h2 hs2 h3 h4 hn1
      go_enter Tryz.func65, Tryz.ntmps65
      go_wp2_with fail
      refine (P1.out).mono ?_
      rintro e w1 ⟨A1, c1, rfl, _, _, _, hB1⟩
      have P2' := Lib.hid (P2.out w1 hB1)
      have HB1 := Lib.hid hB1
      clear hB1 P1 P2
      go_wp2_with fail
      refine (P2'.out).mono ?_
      rintro e w2 ⟨A2, c2, rfl, _, _, _, hB2⟩
      have HB2 := Lib.hid (HB1.out.trans (hB2.mono HB1.out.size))
      clear hB2
      go_wp2_with fail
      go_ret
      exact ⟨rfl, HB2.out⟩
    | some b =>
      obtain ⟨h3, h4⟩ := spl_some hs2
      rw [under_some hs hs2] at hV
      rw [h3, h4] at P2
      have ha8 := (split_some hs).2.1
      have hb8 := (split_some hs2).2.1
      obtain ⟨n1, hn1⟩ : ∃ n1, n1 = a.length := ⟨_, rfl⟩
      obtain ⟨n2, hn2⟩ : ∃ n2, n2 = b.length := ⟨_, rfl⟩
      have pe := fun A B c d W (h : Texts W A (a.take n2)) (h2 : Texts W B b) => sametexts_any A B (a.take n2) b c d W h h2 (by rw [List.length_take]; omega)
      rw [← hn1] at P1 hV
      rw [← hn2] at P2 hV
      by_cases hle : n2 ≤ n1
      · have hl : (a.take n2).length = n2 := by rw [List.length_take]; omega
        have hV2 : V = decide (a.take n2 = b) := by rw [hV]; simp [hle]
        rw [hl, ← hn2, ← hV2] at pe
        have PE := Lib.hid pe
        have t1 : decide ((n2 : Int) ≤ (n1 : Int)) = true := by simp; omega
        have hle0 : (0 : Int) ≤ (n2 : Int) := by omega
        have hleI : (n2 : Int) ≤ (n1 : Int) := by omega
        clear hs h1 h2 hs2 h3 h4 hn1 hn2 hV hV2 pe hl ha8 hb8
        go_enter Tryz.func65, Tryz.ntmps65
        go_wp2_with fail
        refine (P1.out).mono ?_
        rintro e w1 ⟨A1, c1, rfl, ht1, hc1, hm1, hB1⟩
        have P2' := Lib.hid (P2.out w1 hB1)
        have HB1 := Lib.hid hB1
        have HT1 := Lib.hid ht1
        have hcc : (n2 : Int) ≤ (c1 : Int) := by omega
        have hcc' : n2 ≤ c1 := by omega
        unfold maxLen at hm1
        clear hB1 ht1 P1 P2
        go_wp2_with fail
        refine (P2'.out).mono ?_
        rintro e w2 ⟨A2, c2, rfl, ht2, _, _, hB2⟩
        have HB2 := Lib.hid (HB1.out.trans (hB2.mono HB1.out.size))
        have PE' := Lib.hid (PE.out A1 A2 c1 c2 w2 (Texts.take_ (HT1.out.below hB2) n2) ht2)
        clear hB2 ht2 PE
        go_wp2_with fail
        refine (PE'.out).mono ?_
        rintro e w3 ⟨rfl, hB3⟩
        have HB3 := Lib.hid (HB2.out.trans (hB3.mono HB2.out.size))
        clear hB3
        go_wp2_with fail
        go_ret
        exact ⟨rfl, HB3.out⟩
      · have hV2 : V = false := by rw [hV]; simp [hle]
        subst hV2
        have t1 : decide ((n2 : Int) ≤ (n1 : Int)) = false := by simp; omega
        have hltI : (n1 : Int) < (n2 : Int) := by omega
        clear hs h1 h2 hs2 h3 h4 hn1 hn2 hV pe ha8 hb8 hle
        go_enter Tryz.func65, Tryz.ntmps65
        go_wp2_with fail
        refine (P1.out).mono ?_
        rintro e w1 ⟨A1, c1, rfl, _, _, _, hB1⟩
        have P2' := Lib.hid (P2.out w1 hB1)
        have HB1 := Lib.hid hB1
        clear hB1 P1 P2
        go_wp2_with fail
        refine (P2'.out).mono ?_
        rintro e w2 ⟨A2, c2, rfl, _, _, _, hB2⟩
        have HB2 := Lib.hid (HB1.out.trans (hB2.mono HB1.out.size))
        clear hB2
        go_wp2_with fail
        go_ret
        exact ⟨rfl, HB2.out⟩
end Go.Proofs.YtabecceojbeomaaGreatDoor
