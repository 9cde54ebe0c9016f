/- The contract of the reference's Split. Condition: a path below 2^32 bytes. -/
import Derived.Test.YtabecceojbeomaaGreatDoorDirSplit
import Derived.Test.YtabecceojbeomaaGreatDoorDirRName
import Derived.Laws.Concat
import Derived.Laws.Strings
namespace Go.Cat.Dir
open Go.RowKit Go.Cat
theorem pieces_app_slash (b : Txt) : ∀ a : Txt, pieces (a ++ 47 :: b) = pieces a ++ pieces b
  | [] => by rw [List.nil_append, pieces_slash]; rfl
  | c :: a => by
    have ih := pieces_app_slash b a
    by_cases h : c = 47
    · subst h
      rw [List.cons_append, pieces_slash, pieces_slash, ih]; rfl
    · obtain ⟨p, ps, h1, h2⟩ := pieces_other (t := a) h
      obtain ⟨q, qs, h3, h4⟩ := pieces_other (t := a ++ 47 :: b) h
      rw [List.cons_append, h4, h2]
      rw [h1, h3] at ih
      injection ih with e1 e2
      rw [e1, e2]; rfl
/-- Where the reference stands: names that are done, the one at work. -/
def StS (t : Txt) (k : Nat) (done : List Txt) (cur : Txt) : Prop := (∀ l ∈ done, nameP l) ∧ ((k ≤ t.length ∧ pieces (t.take k) = done ++ [cur]) ∨ (k = t.length + 1 ∧ done = pieces t)) ∧ done.length ≤ k ∧ cur.length ≤ k
theorem StS.start (t : Txt) : StS t 0 [] [] := ⟨fun l h => (by cases h), .inl ⟨Nat.zero_le _, rfl⟩, Nat.le_refl _, Nat.le_refl _⟩
theorem StS.letter {t : Txt} {k : Nat} {done : List Txt} {cur : Txt} (h : StS t k done cur) (hk : k < t.length) (h47 : t[k] ≠ 47) : StS t (k + 1) done (cur ++ [t[k]]) := by
  obtain ⟨h1, h2, h3, h4⟩ := h
  rcases h2 with ⟨_, h2⟩ | ⟨h2, _⟩
  · obtain ⟨ps, p, e1, e2⟩ := pieces_snoc h47 (t.take k)
    rw [h2] at e1
    have := List.append_inj' e1 rfl
    obtain ⟨rfl, e3⟩ := this
    injection e3 with e3
    subst e3
    refine ⟨h1, .inl ⟨by omega, ?_⟩, by omega, by rw [List.length_append]; simp; omega⟩
    rw [List.take_succ_eq_append_getElem hk, e2]
  · omega
theorem StS.slash {t : Txt} {k : Nat} {done : List Txt} {cur : Txt} (h : StS t k done cur) (hk : k < t.length) (h47 : t[k] = 47) (hn : nameP cur) : StS t (k + 1) (done ++ [cur]) [] := by
  obtain ⟨h1, h2, h3, h4⟩ := h
  rcases h2 with ⟨_, h2⟩ | ⟨h2, _⟩
  · refine ⟨fun l hl => ?_, .inl ⟨by omega, ?_⟩, by rw [List.length_append]; simp; omega, by simp⟩
    · rcases List.mem_append.1 hl with h | h
      · exact h1 l h
      · rw [List.mem_singleton.1 h]; exact hn
    · rw [List.take_succ_eq_append_getElem hk, h47, pieces_snoc_slash, h2]
  · omega
theorem StS.last {t : Txt} {done : List Txt} {cur : Txt} (h : StS t t.length done cur) (hn : nameP cur) : StS t (t.length + 1) (done ++ [cur]) [] := by
  obtain ⟨h1, h2, h3, h4⟩ := h
  rcases h2 with ⟨_, h2⟩ | ⟨h2, _⟩
  · refine ⟨fun l hl => ?_, .inr ⟨rfl, ?_⟩, by rw [List.length_append]; simp; omega, by simp⟩
    · rcases List.mem_append.1 hl with h | h
      · exact h1 l h
      · rw [List.mem_singleton.1 h]; exact hn
    · rw [List.take_length] at h2; exact h2.symm
  · omega
theorem StS.bad {t : Txt} {k : Nat} {done : List Txt} {cur : Txt} (h : StS t k done cur) (hk : k ≤ t.length) (h47 : ∀ hk : k < t.length, t[k] = 47) (hn : ¬ nameP cur) (ht : t ≠ []) : splitV (47 :: t) = none := by
  obtain ⟨h1, h2, h3, h4⟩ := h
  rcases h2 with ⟨_, h2⟩ | ⟨h2, _⟩
  · refine split_bad ht fun ⟨_, h5⟩ => hn (h5 cur ?_)
    by_cases hlt : k < t.length
    · have e : t = t.take k ++ 47 :: t.drop (k + 1) := by
        rw [← h47 hlt, List.getElem_cons_drop, List.take_append_drop]
      rw [e, pieces_app_slash, h2]
      simp
    · have : k = t.length := by omega
      subst this
      rw [List.take_length] at h2
      rw [h2]
      simp
  · omega
theorem StS.done_ {t : Txt} {done : List Txt} {cur : Txt} (h : StS t (t.length + 1) done cur) (ht : t ≠ []) : if done.length ≤ 8 then splitV (47 :: t) = some done else splitV (47 :: t) = none := by
  obtain ⟨h1, h2, h3, h4⟩ := h
  rcases h2 with ⟨h2, _⟩ | ⟨_, h2⟩
  · omega
  · subst h2
    split
    · rename_i h; exact split_ok ht ⟨h, h1⟩
    · rename_i h; exact split_bad ht (fun ⟨h5, _⟩ => h h5)
theorem bs_push (cur t : Txt) (k : Nat) (hk : k < t.length) : bs cur ++ (bs (47 :: t)).extract (k + 1) (k + 1 + 1) = bs (cur ++ [t[k]]) := by
  apply ByteArray.ext
  apply Array.ext'
  simp only [ByteArray.data_append, ByteArray.data_extract, Array.toList_append, Array.toList_extract]
  show cur ++ List.extract (47 :: t) (k + 1) (k + 1 + 1) = cur ++ [t[k]]
  congr 1
  rw [List.extract_eq_take_drop, show k + 1 + 1 - (k + 1) = 1 by omega, List.drop_succ_cons, List.drop_eq_getElem_cons hk]
  rfl
end Go.Cat.Dir
namespace Go.Proofs.YtabecceojbeomaaGreatDoor
open Go.RowKit Go.Cat Go.Cat.Dir

theorem info_str : (Tryz.prog.info? 9).map (fun i => (i.zero, i.size, i.bytes)) = some (some (.string ByteArray.empty), 1, 16) := by kernel_rfl
theorem own_texts {w w' : World} {base n : Nat} {e : TypeId} {v : Value} {xs : List Value} (h : w.ownsRow base e 1 v n xs) (hb : Below w.heap.size w w') : w'.ownsRow base e 1 v n xs := by
  refine ⟨h.1, ?_⟩
  rcases h.2 with h2 | ⟨g, cap, cur, hv, hg, hh, r⟩
  · exact .inl h2
  · exact .inr ⟨g, cap, cur, hv, hg, (hb.block g (Array.getElem?_eq_some_iff.1 hh).1).trans hh, r⟩
theorem elem_str : Elem Tryz.prog 34 9 (.string ByteArray.empty) 1 16 := ⟨Tryz.underlying34, info_str, rfl, by decide, by decide⟩

set_option maxRecDepth 100000 in
set_option maxHeartbeats 2000000 in
theorem rsplit_path (t : Txt) (w : World) (ht : t ≠ []) (hp : t.length < 4294967280) :
    Calls Tryz.prog 66 #[.string (bs (47 :: t))] w (ToldSp (47 :: t) w) := by
  obtain ⟨s, hs⟩ : ∃ s, s = bs (47 :: t) := ⟨_, rfl⟩
  have hsz : s.size = t.length + 1 := by rw [hs, bs_size]; rfl
  have h0 : s[0]'(by omega) = 47 := by subst hs; rfl
  have hl : s.toList = 47 :: t := by rw [hs]; exact bs_toList _
  have d1 : (s.toList == [47]) = false := by rw [hl]; simpa using ht
  have d1' : ¬ s.toList = [47] := by rw [hl]; simpa using ht
  have d2 : ¬ s = ByteArray.empty := fun e => by rw [e] at hsz; simp at hsz
  have d3 : ((s.size : Int) == 0) = false := by rw [beq_eq_false_iff_ne]; omega
  have d4 : 0 < s.size := by omega
  have d5 : ((47 : Int) != 47) = false := by simp
  have d6 : ((s[0]'d4).toNat : Int) = 47 := by rw [h0]; rfl
  rw [← hs]
  have HS := Lib.hid hs
  have HSz := Lib.hid hsz
  have HT := Lib.hid ht
  clear hs hsz hl h0 ht
  go_enter Tryz.func66, Tryz.ntmps66
  go_wp2_with fail
  go_loopw [4, 5, 6] (fun ov nv iv wr => ∃ (k : Nat) (done : List Txt) (cur : Txt) (A : Option Addr) (n c : Nat), k ≤ t.length + 1 ∧ n ≤ k ∧ iv = .int .i64 ((k : Int) + 1) ∧ nv = .string (bs cur) ∧ ov = .slice A n c ∧ Hid (n = done.length) ∧ Hid (StS t k done cur) ∧ Hid (wr.ownsRow w.heap.size 9 1 (.slice A n c) n (done.map sv)) ∧ Hid (Below w.heap.size w wr)) (fun _ _ iv _ => t.length + 2 - (intOf iv).toNat)
  case atStart => exact ⟨0, [], [], none, 0, 0, Nat.zero_le _, Nat.le_refl _, rfl, rfl, rfl, rfl, StS.start t, World.ownsRow_nil _ _ _ _, Below.refl _ _⟩
  case round =>
    obtain ⟨k, done, cur, A, n, c, hk, hnk, rfl, rfl, rfl, HN, HSt, HO, HB⟩ := hrel
    by_cases hlt : k < t.length + 1
    · have t1 : decide ((k : Int) + 1 ≤ (s.size : Int)) = true := by have := HSz.out; simp; omega
      by_cases hin : k < t.length
      · have t2 : decide ((k : Int) + 1 < (s.size : Int)) = true := by have := HSz.out; simp; omega
        have hks : k + 1 < s.size := by have := HSz.out; omega
        have hksI : (k : Int) + 1 < (s.size : Int) := by omega
        have hk0 : (0 : Int) ≤ (k : Int) + 1 := by omega
        have hkn : ((k : Int) + 1).toNat = k + 1 := by omega
        obtain ⟨x, hx⟩ : ∃ x, x = t[k] := ⟨_, rfl⟩
        have hget : s[k + 1]'hks = x := by have := HS.out; subst this; rw [hx]; rfl
        by_cases h47 : x = 47
        · have t3 : ((x.toNat : Int) != 47) = false := by rw [h47]; rfl
          have hst := fun h : nameP cur => HSt.out.slash hin (by rw [← hx]; exact h47) h
          have hbad := fun h : ¬ nameP cur => HSt.out.bad (by omega) (fun _ => by rw [← hx]; exact h47) h HT.out
          have HStep := Lib.hid hst
          have HBad := Lib.hid hbad
          have P1 := Lib.hid (rname_any cur wr)
          have hx7 : (x.toNat : Int) = 47 := by rw [h47]; rfl
          clear hx hst hbad h47
          cases hnm : nameB cur with
          | false =>
            have hf := HBad.out ((nameB_not cur).1 hnm)
            have HF := Lib.hid hf
            rw [hnm] at P1
            clear hf hnm
            go_wp2_with fail
            refine (P1.out).mono ?_
            rintro e w1 ⟨rfl, rfl⟩
            go_wp2_with fail
            go_ret2
            exact ToldSp.no HF.out HB.out
          | true =>
            have hs2 := HStep.out ((nameB_iff cur).1 hnm)
            have HS2 := Lib.hid hs2
            rw [hnm] at P1
            have hb1 : Below wr.heap.size wr (wr.alloc (.cells #[.string (bs cur)] 9)) := (Below.refl _ _).alloc (Nat.le_refl _) _
            have HO1 := Lib.hid (own_texts HO.out hb1)
            have HB1 := Lib.hid (HB.out.trans (hb1.mono HB.out.size))
            have hsz1 : w.heap.size ≤ (wr.alloc (.cells #[.string (bs cur)] 9)).heap.size := Nat.le_trans HB.out.size hb1.size
            clear hs2 hnm hb1
            go_wp2_with fail
            refine (P1.out).mono ?_
            rintro e w1 ⟨rfl, rfl⟩
            go_wp2_with (at_builtin; refine wpList_app elem_str rfl _ _ rfl w.heap.size (.slice A n c) n (done.map sv) rfl HO1.out (some ⟨_, 0, none⟩) 1 1 [.string (bs cur)] rfl (sees_new _ _ _) rfl (by intro u hu; simp at hu; subst hu; rfl) (by omega) hsz1 ?_)
            intro v2 w2 hown hgr _
            obtain ⟨A2, c2, rfl, _, _⟩ := own_full hown
            have HB2 := Lib.hid (HB1.out.own HO1.out hgr hsz1 (Nat.le_refl _))
            have ho2 : w2.ownsRow w.heap.size 9 1 (.slice A2 (n + 1) c2) (n + 1) ((done ++ [cur]).map sv) := by rw [List.map_append]; exact hown
            have HO2 := Lib.hid ho2
            have HN2 : Hid (n + 1 = (done ++ [cur]).length) := by show _ = _; rw [List.length_append, HN.out]; rfl
            clear hown hgr ho2
            go_wp2_with fail
            go_roundw
            case rel => exact ⟨k + 1, done ++ [cur], [], A2, n + 1, c2, by omega, by omega, by go_num, rfl, rfl, HN2.out, HS2.out, HO2.out, HB2.out⟩
            case measure => simp [intOf]; omega
        · have t3 : ((x.toNat : Int) != 47) = true := by rw [bne_iff_ne]; intro e; exact h47 (UInt8.toNat_inj.1 (by simp; omega))
          have hnx : ¬ (x.toNat : Int) = 47 := by simpa using t3
          have hst := HSt.out.letter hin (by rw [← hx]; exact h47)
          have hpush := bs_push cur t k hin
          rw [← hx] at hst hpush
          rw [← HS.out] at hpush
          have hcur : (bs cur).size ≤ 4294967295 := by rw [bs_size]; have := HSt.out.2.2.2; omega
          have hsum : ¬ 9223372036854775807 < (bs cur).size + (min (k + 1 + 1) s.size - (k + 1)) := by omega
          have HStep := Lib.hid hst
          have HPush := Lib.hid hpush
          clear hx hst hpush h47
          go_wp2_with fail
          go_roundw
          case rel => exact ⟨k + 1, done, cur ++ [x], A, n, c, by omega, by omega, by go_num, by rw [HPush.out], rfl, HN.out, HStep.out, HO.out, HB.out⟩
          case measure => simp [intOf]; omega
      · have t2 : decide ((k : Int) + 1 < (s.size : Int)) = false := by have := HSz.out; simp; omega
        have hkk : k = t.length := by omega
        have hst := fun h : nameP cur => (show StS t (t.length + 1) (done ++ [cur]) [] from StS.last (by rw [← hkk]; exact HSt.out) h)
        have hbad := fun h : ¬ nameP cur => HSt.out.bad (by omega) (fun h => absurd h hin) h HT.out
        rw [← hkk] at hst
        have HStep := Lib.hid hst
        have HBad := Lib.hid hbad
        have P1 := Lib.hid (rname_any cur wr)
        clear hst hbad hkk
        cases hnm : nameB cur with
        | false =>
          have hf := HBad.out ((nameB_not cur).1 hnm)
          have HF := Lib.hid hf
          rw [hnm] at P1
          clear hf hnm
          go_wp2_with fail
          refine (P1.out).mono ?_
          rintro e w1 ⟨rfl, rfl⟩
          go_wp2_with fail
          go_ret2
          exact ToldSp.no HF.out HB.out
        | true =>
          have hs2 := HStep.out ((nameB_iff cur).1 hnm)
          have HS2 := Lib.hid hs2
          rw [hnm] at P1
          have hb1 : Below wr.heap.size wr (wr.alloc (.cells #[.string (bs cur)] 9)) := (Below.refl _ _).alloc (Nat.le_refl _) _
          have HO1 := Lib.hid (own_texts HO.out hb1)
          have HB1 := Lib.hid (HB.out.trans (hb1.mono HB.out.size))
          have hsz1 : w.heap.size ≤ (wr.alloc (.cells #[.string (bs cur)] 9)).heap.size := Nat.le_trans HB.out.size hb1.size
          clear hs2 hnm hb1
          go_wp2_with fail
          refine (P1.out).mono ?_
          rintro e w1 ⟨rfl, rfl⟩
          go_wp2_with (at_builtin; refine wpList_app elem_str rfl _ _ rfl w.heap.size (.slice A n c) n (done.map sv) rfl HO1.out (some ⟨_, 0, none⟩) 1 1 [.string (bs cur)] rfl (sees_new _ _ _) rfl (by intro u hu; simp at hu; subst hu; rfl) (by omega) hsz1 ?_)
          intro v2 w2 hown hgr _
          obtain ⟨A2, c2, rfl, _, _⟩ := own_full hown
          have HB2 := Lib.hid (HB1.out.own HO1.out hgr hsz1 (Nat.le_refl _))
          have ho2 : w2.ownsRow w.heap.size 9 1 (.slice A2 (n + 1) c2) (n + 1) ((done ++ [cur]).map sv) := by rw [List.map_append]; exact hown
          have HO2 := Lib.hid ho2
          have HN2 : Hid (n + 1 = (done ++ [cur]).length) := by show _ = _; rw [List.length_append, HN.out]; rfl
          clear hown hgr ho2
          go_wp2_with fail
          go_roundw
          case rel => exact ⟨k + 1, done ++ [cur], [], A2, n + 1, c2, by omega, by omega, by go_num, rfl, rfl, HN2.out, HS2.out, HO2.out, HB2.out⟩
          case measure => simp [intOf]; omega
    · obtain rfl : k = t.length + 1 := by omega
      have t1 : decide (((t.length + 1 : Nat) : Int) + 1 ≤ (s.size : Int)) = false := by have := HSz.out; simp; omega
      have t1' : ¬ (((t.length + 1 : Nat) : Int) + 1 ≤ (s.size : Int)) := by simpa using t1
      have hdone := HSt.out.done_ HT.out
      obtain ⟨A', c', he, hc1, hc2⟩ := own_full HO.out
      injection he with e1 e2 e3
      subst e1 e3
      have HC1 := Lib.hid hc1
      have HC2 := Lib.hid hc2
      rw [← HN.out] at hdone
      clear e2 hc1 hc2
      by_cases h8 : n ≤ 8
      · have t2 : decide ((8 : Int) < (n : Int)) = false := by simp; omega
        rw [if_pos h8] at hdone
        have HF := Lib.hid (spl_some hdone)
        clear hdone h8
        go_wp2_with fail
        go_ret2
        unfold ToldSp
        rw [HF.out.1, HF.out.2, ← HN.out]
        exact ⟨A, c, rfl, Sees.of_own HO.out, HC1.out, HC2.out, HB.out⟩
      · have t2 : decide ((8 : Int) < (n : Int)) = true := by simp; omega
        rw [if_neg h8] at hdone
        have HF := Lib.hid hdone
        clear hdone h8
        go_wp2_with fail
        go_ret2
        exact ToldSp.no HF.out HB.out

theorem rsplit_any (p : Txt) (w : World) (hp : p.length < 4294967281) :
    Calls Tryz.prog 66 #[.string (bs p)] w (ToldSp p w) := by
  by_cases hs : ∃ t, p = 47 :: t
  · obtain ⟨t, rfl⟩ := hs
    by_cases ht : t = []
    · subst ht
      obtain ⟨s, hse⟩ : ∃ s, s = bs [47] := ⟨_, rfl⟩
      have hsz : s.size = 1 := by rw [hse, bs_size]; rfl
      have d1 : s.toList = [47] := by rw [hse]; exact bs_toList _
      have d2 : ¬ s = ByteArray.empty := fun e => by rw [e] at hsz; simp at hsz
      have d3 : ((s.size : Int) == 0) = false := by rw [beq_eq_false_iff_ne]; omega
      have d4 : 0 < s.size := by omega
      have h0 : s[0]'d4 = 47 := by subst hse; rfl
      have d5 : ((47 : Int) != 47) = false := by simp
      have d6 : ((s[0]'d4).toNat : Int) = 47 := by rw [h0]; rfl
      rw [← hse]
      clear hse hsz hp h0
      go_enter Tryz.func66, Tryz.ntmps66
      go_wp2_with fail
      go_ret2
      exact ToldSp.root (Below.refl _ _)
    · exact rsplit_path t w ht (by rw [List.length_cons] at hp; omega)
  · cases p with
    | nil =>
      go_enter Tryz.func66, Tryz.ntmps66
      go_wp2_with fail
      go_ret2
      exact ToldSp.no split_nil (Below.refl _ _)
    | cons c r =>
      have hc : c ≠ 47 := fun e => hs ⟨r, by rw [e]⟩
      have hv : splitV (c :: r) = none := split_no hc
      obtain ⟨s, hse⟩ : ∃ s, s = bs (c :: r) := ⟨_, rfl⟩
      have hsz : s.size = r.length + 1 := by rw [hse, bs_size]; rfl
      have d2 : ¬ s = ByteArray.empty := fun e => by rw [e] at hsz; simp at hsz
      have d3 : ((s.size : Int) == 0) = false := by rw [beq_eq_false_iff_ne]; omega
      have d4 : 0 < s.size := by omega
      have h0 : s[0]'d4 = c := by subst hse; rfl
      have d5 : ((c.toNat : Int) != 47) = true := by rw [bne_iff_ne]; intro e; exact hc (UInt8.toNat_inj.1 (by simp; omega))
      have d5' : ¬ (c.toNat : Int) = 47 := by simpa using d5
      rw [← hse]
      have HV := Lib.hid hv
      clear hs hc hv hsz hse hp
      go_enter Tryz.func66, Tryz.ntmps66
      go_wp2_with fail
      go_ret2
      exact ToldSp.no HV.out (Below.refl _ _)
end Go.Proofs.YtabecceojbeomaaGreatDoor
