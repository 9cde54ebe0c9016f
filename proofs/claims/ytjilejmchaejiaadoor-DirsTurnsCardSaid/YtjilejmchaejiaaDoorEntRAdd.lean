/- The contract of the reference's Add. Condition: at most 1000000 entries. -/
import Derived.Test.YtjilejmchaejiaaDoorEntAdd
namespace Go.Cat.Dir
open Go.RowKit Go.Cat
theorem tw_eq {α : Type} {p : α → Bool} : ∀ {l : List α} {k : Nat}, k ≤ l.length → (∀ j (hj : j < l.length), j < k → p l[j] = true) → (∀ hk : k < l.length, p l[k] = false) → l.takeWhile p = l.take k ∧ l.dropWhile p = l.drop k
  | [], k, hk, _, _ => by simp
  | a :: l, 0, _, _, h => by
    have := h (by simp)
    simp only [List.getElem_cons_zero] at this
    rw [List.takeWhile_cons, List.dropWhile_cons, this]
    simp
  | a :: l, k + 1, hk, ha, h => by
    have h0 := ha 0 (by simp) (by omega)
    simp only [List.getElem_cons_zero] at h0
    have ih := tw_eq (p := p) (l := l) (k := k) (by simpa using hk) (fun j hj hjk => by
      have := ha (j + 1) (by simpa using hj) (by omega)
      simpa using this) (fun hk' => by
      have := h (by simpa using hk')
      simpa using this)
    rw [List.takeWhile_cons, List.dropWhile_cons, h0]
    simp [ih]
theorem ins_at {l : List Ent} {e : Ent} {k : Nat} (hk : k ≤ l.length) (ha : ∀ j (hj : j < l.length), j < k → Op.bytesLess l[j].1 e.1 = true) (h : ∀ hk : k < l.length, Op.bytesLess l[k].1 e.1 = false) : insE l e = l.take k ++ [e] ++ l.drop k := by
  obtain ⟨h1, h2⟩ := tw_eq (p := fun y : Ent => Op.bytesLess y.1 e.1) hk ha h
  unfold insE
  rw [h1, h2, List.append_assoc]
  rfl
theorem own_dNe {w : World} {base size n : Nat} {e : TypeId} {v : Value} {xs : List Value} (h : w.ownsRow base e size v n xs) (q : Nat) : (w.drewN q).ownsRow base e size v n xs := h
/-- The tail of a slice of entries. -/
theorem tail_sees {w : World} {ad : Addr} {l : List Ent} {k c : Nat} (hk : k ≤ l.length) (h : Sees w (some ad) (erows l)) : ∃ A2 : Addr, (if c = k then some ad else some (ad.add (k * 2))) = some A2 ∧ (c ≠ k ∨ l.length = k → Sees w (some A2) (erows (l.drop k))) := by
  by_cases hn : l.length = k
  · have e : erows (l.drop k) = [] := by rw [List.drop_of_length_le (by omega)]; rfl
    by_cases hc : c = k
    · exact ⟨ad, by rw [if_pos hc], fun _ => by rw [e]; exact .inl rfl⟩
    · exact ⟨ad.add (k * 2), by rw [if_neg hc], fun _ => by rw [e]; exact .inl rfl⟩
  · rcases h with h | ⟨b, off, hA, hc⟩
    · have := congrArg List.length h
      rw [flat_length entC_len] at this
      simp only [List.length_nil] at this
      omega
    · injection hA with hA
      subst hA
      by_cases hck : c = k
      · exact ⟨_, by rw [if_pos hck], fun h => by omega⟩
      · refine ⟨⟨b, off + k * 2, none⟩, by rw [if_neg hck, Addr.add_lit], fun _ => .inr ⟨b, off + k * 2, rfl, fun j u hu => ?_⟩⟩
        have e1 : erows l = erows (l.take k) ++ erows (l.drop k) := by rw [← List.flatMap_append, List.take_append_drop]
        have e2 : (erows (l.take k)).length = k * 2 := by rw [flat_length entC_len, List.length_take, Nat.min_eq_left hk]
        have := hc (k * 2 + j) u (by rw [e1, List.getElem?_append_right (by omega), e2, Nat.add_sub_cancel_left]; exact hu)
        rw [Nat.add_assoc]
        exact this
end Go.Cat.Dir
namespace Go.Proofs.YtjilejmchaejiaaDoor
open Go.RowKit Go.Cat Go.Cat.Dir

set_option maxRecDepth 100000 in
set_option maxHeartbeats 4000000 in
theorem radd_any (A : Option Addr) (l : List Ent) (c : Nat) (x : Txt) (y : Int) (w : World) (hs : Sees w A (erows l)) (hn : l.length ≤ 1000000) (hlc : l.length ≤ c) (_hcm : c ≤ 9223372036854775807) :
    Calls Tryd.prog 31 #[.slice A l.length c, .agg #[.string (bs x), .int .i64 y]] w (ToldV (addE l (x, y)) w) := by
  obtain ⟨W0, hW0⟩ : ∃ W0, W0 = w.alloc (.cells #[.string (bs x), .int .i64 y] 54) := ⟨_, rfl⟩
  obtain ⟨g, hg⟩ : ∃ g, g = w.heap.size := ⟨_, rfl⟩
  have h0 : BoxE g x y 54 w W0 := by rw [hg, hW0]; exact BoxE.new _ _ _ _
  have p1 := fun W (h : Below w.heap.size w W) => rcheck_any A l c W (hs.below h) hn
  have p4 := fun W (h : Below w.heap.size w W) => rfind_any A l c x W (hs.below h) (by omega)
  unfold ToldF at p4
  have e1 : checkE l ≠ 0 → addE l (x, y) = ([], checkE l) := add_err (e := (x, y))
  have e2 : checkE l = 0 → nameB x = false → addE l (x, y) = ([], 18) := add_name (e := (x, y))
  have e3 : checkE l = 0 → nameB x = true → nodeB y = false → addE l (x, y) = ([], 4) := add_form (e := (x, y))
  have e4 : checkE l = 0 → nameB x = true → nodeB y = true → hasE l x = true → addE l (x, y) = ([], 8) := fun a b c d => add_there (e := (x, y)) a b c (of_decide_eq_true d)
  have e5 : checkE l = 0 → nameB x = true → nodeB y = true → hasE l x = false → l.length = 32 → addE l (x, y) = ([], 17) := fun a b c d e => add_big (e := (x, y)) a b c (of_decide_eq_false d) (by omega)
  have e6 : checkE l = 0 → nameB x = true → nodeB y = true → hasE l x = false → l.length ≠ 32 → addE l (x, y) = (insE l (x, y), 0) := fun a b c d e => add_ok (e := (x, y)) a b c (of_decide_eq_false d) (by have := (check_zero a).1; omega)
  have e7 : (insE l (x, y)).length = l.length + 1 := ins_length l (x, y)
  have e8 := fun (k : Nat) (hk : k ≤ l.length) (ha : ∀ j (hj : j < l.length), j < k → Op.bytesLess l[j].1 x = true) (h : ∀ hk : k < l.length, Op.bytesLess l[k].1 x = false) => ins_at (e := (x, y)) hk ha h
  obtain ⟨F, hF⟩ : ∃ F, F = addE l (x, y) := ⟨_, rfl⟩
  rw [← hF] at e1 e2 e3 e4 e5 e6 ⊢
  obtain ⟨I, hI⟩ : ∃ I, I = insE l (x, y) := ⟨_, rfl⟩
  rw [← hI] at e6 e7 e8
  obtain ⟨V, hV⟩ : ∃ V, V = checkE l := ⟨_, rfl⟩
  rw [← hV] at p1 e1 e2 e3 e4 e5 e6
  obtain ⟨z, hz⟩ : ∃ z, z = findE l x := ⟨_, rfl⟩
  obtain ⟨b, hb⟩ : ∃ b, b = hasE l x := ⟨_, rfl⟩
  rw [← hz, ← hb] at p4
  rw [← hb] at e4 e5 e6
  have p2 := fun W => rname_any x W
  obtain ⟨n, hnn⟩ : ∃ n, n = l.length := ⟨_, rfl⟩
  have HN := Lib.hid hnn
  have HS := Lib.hid hs
  rw [← hnn] at p1 p4 e5 e6 e7 hn hlc ⊢
  have P1 := Lib.hid p1
  have P2 := Lib.hid p2
  have P4 := Lib.hid p4
  have E1 := Lib.hid e1
  have E2 := Lib.hid e2
  have E3 := Lib.hid e3
  have E4 := Lib.hid e4
  have E5 := Lib.hid e5
  have E6 := Lib.hid e6
  have E7 := Lib.hid e7
  have E8 := Lib.hid e8
  have H0 := Lib.hid h0
  have HW0 := Lib.hid hW0
  clear p1 p2 p4 e1 e2 e3 e4 e5 e6 e7 e8 hF hI hV hz hnn hs h0 hW0 hb
  go_enter Tryd.func31, Tryd.ntmps31
  go_upto_region 1 with (fail)
  rw [← HW0.out, ← hg]
  clear hg
  have P1' := Lib.hid (P1.out W0 H0.out.bel)
  go_wp2_with fail
  refine (P1'.out).mono ?_
  rintro e w1 ⟨rfl, hB1⟩
  have H1 := Lib.hid (H0.out.below (hB1.mono (Nat.le_refl _)))
  clear hB1 P1' HW0 H0
  obtain ⟨c0, c1⟩ := H1.out.cells
  by_cases hv : V = 0
  · have dv : (V != 0) = false := by simpa using hv
    cases hnm : nameB x with
    | false =>
      have hE := E2.out hv hnm
      subst hE
      have P2' := Lib.hid (P2.out w1)
      rw [hnm] at P2'
      clear hv hnm
      go_wp2_with fail
      refine (P2'.out).mono ?_
      rintro e w2 ⟨rfl, rfl⟩
      go_wp2_with fail
      go_ret2
      exact ToldV.none_ H1.out.bel
    | true =>
      have P2' := Lib.hid (P2.out w1)
      rw [hnm] at P2'
      go_wp2_with fail
      refine (P2'.out).mono ?_
      rintro e w2 ⟨rfl, rfl⟩
      clear P2'
      cases hnd : nodeB y with
      | false =>
        have hE := E3.out hv hnm hnd
        subst hE
        have hy := (nodeB_not y).1 hnd
        clear hv hnm hnd
        by_cases hy1 : y < 1
        · have d1 : decide (y < 1) = true := by simpa using hy1
          clear hy hy1
          go_wp2_with fail
          go_ret2
          exact ToldV.none_ H1.out.bel
        · have d1 : decide (y < 1) = false := by simpa using hy1
          have d2 : decide (65535 < y) = true := by simp; omega
          clear hy hy1
          go_wp2_with fail
          go_ret2
          exact ToldV.none_ H1.out.bel
      | true =>
        have hy := (nodeB_iff y).1 hnd
        have d1 : decide (y < 1) = false := by simp; omega
        have d2 : decide (65535 < y) = false := by simp; omega
        have P4' := Lib.hid (P4.out w1 H1.out.bel)
        clear hy
        go_wp2_with fail
        refine (P4'.out).mono ?_
        rintro e w4 ⟨rfl, hB4⟩
        have H4 := Lib.hid (H1.out.below hB4)
        clear hB4 c0 c1 P4' d1 d2
        cases hbb : b with
        | true =>
          have hE := E4.out hv hnm hnd hbb
          subst hE
          clear hv hnm hnd hbb
          go_wp2_with fail
          go_ret2
          exact ToldV.none_ H4.out.bel
        | false =>
          by_cases h32 : n = 32
          · have d32 : ((n : Int) == 32) = true := by rw [beq_iff_eq]; omega
            have d32' : (n == 32) = true := by simpa using h32
            have hE := E5.out hv hnm hnd hbb h32
            subst hE
            clear hv hnm hnd hbb h32
            go_wp2_with fail
            go_ret2
            exact ToldV.none_ H4.out.bel
          · have d32 : ((n : Int) == 32) = false := by rw [beq_eq_false_iff_ne]; omega
            have d32' : (n == 32) = false := by simpa using h32
            have hE := E6.out hv hnm hnd hbb h32
            subst hE
            clear hv hnm hnd hbb h32
            go_wp2_with fail
            go_loopw [9, 10] (fun ov iv wr => ∃ (k : Nat) (A2 : Option Addr) (c2 : Nat), k ≤ n ∧ iv = .int .i64 k ∧ ov = .slice A2 k c2 ∧ Hid (∀ j (hj : j < l.length), j < k → Op.bytesLess l[j].1 x = true) ∧ Hid (wr.ownsRow w4.heap.size 54 2 (.slice A2 k c2) k (erows (l.take k))) ∧ Hid (Below w4.heap.size w4 wr)) (fun _ iv _ => n - (intOf iv).toNat)
            case atStart => exact ⟨0, none, 0, Nat.zero_le _, rfl, rfl, fun j _ h => absurd h (Nat.not_lt_zero j), World.ownsRow_nil _ _ _ _, Below.refl _ _⟩
            case round =>
              obtain ⟨k, A2, c2, hk, rfl, rfl, HA, HO, HB⟩ := hrel
              have Hr := Lib.hid (H4.out.below HB.out)
              obtain ⟨c0, c1⟩ := Hr.out.cells
              have hend : (∀ hk : k < l.length, Op.bytesLess l[k].1 x = false) → I = l.take k ++ [(x, y)] ++ l.drop k := fun h => E8.out k (by rw [← HN.out]; exact hk) HA.out h
              have HEnd := Lib.hid hend
              clear hend
              by_cases hlt : k < n
              · have t1 : decide ((k : Int) < (n : Int)) = true := by simp; omega
                have hkl : k < l.length := by have := HN.out; omega
                obtain ⟨b0, off, hA, hbl, e0, e1⟩ := erows_at (HS.out.below Hr.out.bel) hkl
                have htk : l.take (k + 1) = l.take k ++ [l[k]] := List.take_succ_eq_append_getElem hkl
                have hstop : Op.bytesLess l[k].1 x = false → I = l.take k ++ [(x, y)] ++ l.drop k := fun h => HEnd.out fun _ => h
                have hgo : Op.bytesLess l[k].1 x = true → ∀ j (hj : j < l.length), j < k + 1 → Op.bytesLess l[j].1 x = true := fun h j hj hjk => by
                  by_cases e : j = k
                  · subst e; exact h
                  · exact HA.out j hj (by omega)
                obtain ⟨p, hp⟩ : ∃ p, p = l[k] := ⟨_, rfl⟩
                rw [← hp] at e0 e1 htk hstop hgo
                obtain ⟨u, v⟩ := p
                simp only at e0 e1 hstop hgo
                have HStop := Lib.hid hstop
                have HGo := Lib.hid hgo
                have hkI : (k : Int) < (n : Int) := by omega
                have hk0 : (0 : Int) ≤ (k : Int) := by omega
                have HTk := Lib.hid htk
                clear hstop hgo hp htk hkl hbl HEnd
                subst hA
                cases hls : Op.bytesLess u x with
                | true =>
                  have dl : Op.bytesLess (bs u).toList (bs x).toList = true := by rw [bs_toList, bs_toList]; exact hls
                  have HA2 := Lib.hid (HGo.out hls)
                  clear hls HStop
                  go_wp2_with fail
                  go_quiet (fail)
                  have HBq := Lib.hid (below_drewN HB.out nq)
                  have hsz : w4.heap.size ≤ ((wr.drewN nq).alloc (.cells #[.string (bs u), .int .i64 v] 54)).heap.size := by have := HB.out.size; simp; omega
                  have HSz := Lib.hid hsz
                  clear hsz
                  go_wp2_with (at_builtin; refine wpList_app elem_rent rfl (.tmp 53) (.tmp 58) rfl w4.heap.size (.slice A2 k c2) k (erows (l.take k)) rfl (World.ownsRow.alloc (own_dNe HO.out nq) _) (some ⟨_, 0, none⟩) 1 1 (entC (u, v)) rfl (sees_new _ _ _) rfl (one_entC _) (by omega) HSz.out ?_; intro v2 w2 hown hgr _; obtain ⟨A4, c4, rfl, _, _⟩ := own_full hown)
                  have ho2 : w2.ownsRow w4.heap.size 54 2 (.slice A4 (k + 1) c4) (k + 1) (erows (l.take (k + 1))) := by rw [HTk.out, erows_snoc]; exact hown
                  have hb2 : Below w4.heap.size w4 w2 := (HBq.out.alloc HBq.out.size _).own (World.ownsRow.alloc (own_dNe HO.out nq) _) hgr HSz.out (Nat.le_refl _)
                  have HO2 := Lib.hid ho2
                  have HB2 := Lib.hid hb2
                  clear hown hgr ho2 hb2
                  go_wp2_with fail
                  go_roundw
                  case rel => exact ⟨k + 1, A4, c4, by omega, by go_num, rfl, HA2.out, HO2.out, HB2.out⟩
                  case measure => simp [intOf]; omega
                | false =>
                  have dl : Op.bytesLess (bs u).toList (bs x).toList = false := by rw [bs_toList, bs_toList]; exact hls
                  have HI := Lib.hid (HStop.out hls)
                  clear hls HGo HStop
                  go_wp2_with fail
                  go_quiet (fail)
                  have Hq := Lib.hid (H4.out.below (below_drewN HB.out nq))
                  have HOq := Lib.hid (own_dNe HO.out nq)
                  have HBq := Lib.hid (below_drewN HB.out nq)
                  obtain ⟨wq, hwq⟩ : ∃ wq, wq = wr.drewN nq := ⟨_, rfl⟩
                  rw [← hwq] at Hq HOq HBq ⊢
                  clear hwq c0 c1
                  obtain ⟨c0, c1⟩ := Hq.out.cells
                  have hsz : w4.heap.size ≤ (wq.alloc (.cells #[.string (bs x), .int .i64 y] 54)).heap.size := by have := HBq.out.size; simp; omega
                  have HSz := Lib.hid hsz
                  have htl : (erows (l.drop k)).length = (n - k) * 2 := by rw [flat_length entC_len, List.length_drop, HN.out]
                  have HTl := Lib.hid htl
                  have hto : ∀ u ∈ erows (l.drop k), u.oneCell' = true := fun u hu => by
                    obtain ⟨e, _, h⟩ := List.mem_flatMap.1 hu
                    exact one_entC e u h
                  have HTo := Lib.hid hto
                  have hts : ∀ W, Below w.heap.size w W → Sees W (some ⟨b0, off + k * 2, none⟩) (erows (l.drop k)) := fun W h => by
                    obtain ⟨A9, hA9, hT⟩ := tail_sees (c := c) (k := k) (by rw [← HN.out]; exact hk) (HS.out.below h)
                    rw [if_neg (by omega), Addr.add_lit] at hA9
                    rw [hA9]
                    exact hT (.inl (by omega))
                  have HTS := Lib.hid hts
                  clear hts
                  clear hsz htl hto
                  go_wp2_with (first
                    | (at_builtin; refine wpList_app elem_rent rfl (.tmp 62) (.tmp 64) rfl w4.heap.size (.slice A2 k c2) k (erows (l.take k)) rfl (World.ownsRow.alloc HOq.out _) (some ⟨_, 0, none⟩) 1 1 (entC (x, y)) rfl (sees_new _ _ _) rfl (one_entC _) (by omega) HSz.out ?_; intro v2 w2 hown hgr _; obtain ⟨A4, c4, rfl, _, _⟩ := own_full hown; have HO2 := Lib.hid hown; have HB2 := Lib.hid ((HBq.out.alloc HBq.out.size _).own (World.ownsRow.alloc HOq.out _) hgr HSz.out (Nat.le_refl _)); clear hown hgr)
                    | (at_builtin; refine wpList_app elem_rent rfl (.tmp 66) (.tmp 69) rfl w4.heap.size (.slice A4 (k + 1) c4) (k + 1) (erows (l.take k) ++ entC (x, y)) rfl HO2.out (some ⟨b0, off + k * 2, none⟩) (n - k) (c - k) (erows (l.drop k)) rfl (HTS.out w2 (H4.out.bel.trans (HB2.out.mono H4.out.bel.size))) HTl.out HTo.out (by omega) HB2.out.size ?_; intro v3 w3 hown hgr _; obtain ⟨A5, c5, rfl, _, _⟩ := own_full hown; have HO3 := Lib.hid hown; have HB3 := Lib.hid (HB2.out.own HO2.out hgr HB2.out.size (Nat.le_refl _)); clear hown hgr)
                    | fail)
                  go_ret2
                  refine ⟨A5, c5, ret_slice2 (by have h7 := E7.out; show k + 1 + (n - k) = I.length; omega), ?_, H4.out.bel.trans (HB3.out.mono H4.out.bel.size)⟩
                  have := ownN_sees HO3.out
                  show Sees _ _ (erows I)
                  rw [HI.out]
                  unfold erows
                  rw [List.flatMap_append, List.flatMap_append]
                  simpa using this
              · obtain rfl : k = n := by omega
                have t1 : decide ((k : Int) < (k : Int)) = false := by simp
                have hI := HEnd.out (fun hk => by have := HN.out; omega)
                have HI := Lib.hid hI
                have kk : k ≤ c := hlc
                clear hI HEnd
                go_wp2_with fail
                go_quiet (fail)
                cases A with
                | none =>
                  have Hq := Lib.hid (H4.out.below (below_drewN HB.out nq))
                  have HOq := Lib.hid (own_dNe HO.out nq)
                  have HBq := Lib.hid (below_drewN HB.out nq)
                  obtain ⟨wq, hwq⟩ : ∃ wq, wq = wr.drewN nq := ⟨_, rfl⟩
                  rw [← hwq] at Hq HOq HBq ⊢
                  clear hwq c0 c1
                  obtain ⟨c0, c1⟩ := Hq.out.cells
                  have hsz : w4.heap.size ≤ (wq.alloc (.cells #[.string (bs x), .int .i64 y] 54)).heap.size := by have := HBq.out.size; simp; omega
                  have HSz := Lib.hid hsz
                  have htl : (erows (l.drop k)).length = 0 * 2 := by rw [flat_length entC_len, List.length_drop, ← HN.out, Nat.sub_self]
                  have HTl := Lib.hid htl
                  have hto : ∀ u ∈ erows (l.drop k), u.oneCell' = true := fun u hu => by
                    obtain ⟨e, _, h⟩ := List.mem_flatMap.1 hu
                    exact one_entC e u h
                  have HTo := Lib.hid hto
                  have hts : ∀ (A9 : Option Addr) W, Sees W A9 (erows (l.drop k)) := fun A9 W => by
                    rw [List.drop_of_length_le (by rw [← HN.out]; exact Nat.le_refl _)]
                    exact .inl rfl
                  have HTS := Lib.hid hts
                  clear hts
                  clear hsz htl hto
                  go_wp2_with (first
                    | (at_builtin; refine wpList_app elem_rent rfl (.tmp 62) (.tmp 64) rfl w4.heap.size (.slice A2 k c2) k (erows (l.take k)) rfl (World.ownsRow.alloc HOq.out _) (some ⟨_, 0, none⟩) 1 1 (entC (x, y)) rfl (sees_new _ _ _) rfl (one_entC _) (by omega) HSz.out ?_; intro v2 w2 hown hgr _; obtain ⟨A4, c4, rfl, _, _⟩ := own_full hown; have HO2 := Lib.hid hown; have HB2 := Lib.hid ((HBq.out.alloc HBq.out.size _).own (World.ownsRow.alloc HOq.out _) hgr HSz.out (Nat.le_refl _)); clear hown hgr)
                    | (at_builtin; refine wpList_app elem_rent rfl (.tmp 66) (.tmp 69) rfl w4.heap.size (.slice A4 (k + 1) c4) (k + 1) (erows (l.take k) ++ entC (x, y)) rfl HO2.out _ 0 _ (erows (l.drop k)) rfl (HTS.out _ w2) HTl.out HTo.out (by omega) HB2.out.size ?_; intro v3 w3 hown hgr _; obtain ⟨A5, c5, rfl, _, _⟩ := own_full hown; have HO3 := Lib.hid hown; have HB3 := Lib.hid (HB2.out.own HO2.out hgr HB2.out.size (Nat.le_refl _)); clear hown hgr)
                    | fail)
                  go_ret2
                  refine ⟨A5, c5, ret_slice2 (by have h7 := E7.out; show k + 1 + 0 = I.length; omega), ?_, H4.out.bel.trans (HB3.out.mono H4.out.bel.size)⟩
                  have := ownN_sees HO3.out
                  show Sees _ _ (erows I)
                  rw [HI.out]
                  unfold erows
                  rw [List.flatMap_append, List.flatMap_append]
                  simpa using this
                | some ad =>
                  by_cases hck : c = k
                  · have Hq := Lib.hid (H4.out.below (below_drewN HB.out nq))
                    have HOq := Lib.hid (own_dNe HO.out nq)
                    have HBq := Lib.hid (below_drewN HB.out nq)
                    obtain ⟨wq, hwq⟩ : ∃ wq, wq = wr.drewN nq := ⟨_, rfl⟩
                    rw [← hwq] at Hq HOq HBq ⊢
                    clear hwq c0 c1
                    obtain ⟨c0, c1⟩ := Hq.out.cells
                    have hsz : w4.heap.size ≤ (wq.alloc (.cells #[.string (bs x), .int .i64 y] 54)).heap.size := by have := HBq.out.size; simp; omega
                    have HSz := Lib.hid hsz
                    have htl : (erows (l.drop k)).length = 0 * 2 := by rw [flat_length entC_len, List.length_drop, ← HN.out, Nat.sub_self]
                    have HTl := Lib.hid htl
                    have hto : ∀ u ∈ erows (l.drop k), u.oneCell' = true := fun u hu => by
                      obtain ⟨e, _, h⟩ := List.mem_flatMap.1 hu
                      exact one_entC e u h
                    have HTo := Lib.hid hto
                    have hts : ∀ (A9 : Option Addr) W, Sees W A9 (erows (l.drop k)) := fun A9 W => by
                      rw [List.drop_of_length_le (by rw [← HN.out]; exact Nat.le_refl _)]
                      exact .inl rfl
                    have HTS := Lib.hid hts
                    clear hts
                    clear hsz htl hto
                    go_wp2_with (first
                      | (at_builtin; refine wpList_app elem_rent rfl (.tmp 62) (.tmp 64) rfl w4.heap.size (.slice A2 k c2) k (erows (l.take k)) rfl (World.ownsRow.alloc HOq.out _) (some ⟨_, 0, none⟩) 1 1 (entC (x, y)) rfl (sees_new _ _ _) rfl (one_entC _) (by omega) HSz.out ?_; intro v2 w2 hown hgr _; obtain ⟨A4, c4, rfl, _, _⟩ := own_full hown; have HO2 := Lib.hid hown; have HB2 := Lib.hid ((HBq.out.alloc HBq.out.size _).own (World.ownsRow.alloc HOq.out _) hgr HSz.out (Nat.le_refl _)); clear hown hgr)
                      | (at_builtin; refine wpList_app elem_rent rfl (.tmp 66) (.tmp 69) rfl w4.heap.size (.slice A4 (k + 1) c4) (k + 1) (erows (l.take k) ++ entC (x, y)) rfl HO2.out _ 0 _ (erows (l.drop k)) rfl (HTS.out _ w2) HTl.out HTo.out (by omega) HB2.out.size ?_; intro v3 w3 hown hgr _; obtain ⟨A5, c5, rfl, _, _⟩ := own_full hown; have HO3 := Lib.hid hown; have HB3 := Lib.hid (HB2.out.own HO2.out hgr HB2.out.size (Nat.le_refl _)); clear hown hgr)
                      | fail)
                    go_ret2
                    refine ⟨A5, c5, ret_slice2 (by have h7 := E7.out; show k + 1 + 0 = I.length; omega), ?_, H4.out.bel.trans (HB3.out.mono H4.out.bel.size)⟩
                    have := ownN_sees HO3.out
                    show Sees _ _ (erows I)
                    rw [HI.out]
                    unfold erows
                    rw [List.flatMap_append, List.flatMap_append]
                    simpa using this
                  · have Hq := Lib.hid (H4.out.below (below_drewN HB.out nq))
                    have HOq := Lib.hid (own_dNe HO.out nq)
                    have HBq := Lib.hid (below_drewN HB.out nq)
                    obtain ⟨wq, hwq⟩ : ∃ wq, wq = wr.drewN nq := ⟨_, rfl⟩
                    rw [← hwq] at Hq HOq HBq ⊢
                    clear hwq c0 c1
                    obtain ⟨c0, c1⟩ := Hq.out.cells
                    have hsz : w4.heap.size ≤ (wq.alloc (.cells #[.string (bs x), .int .i64 y] 54)).heap.size := by have := HBq.out.size; simp; omega
                    have HSz := Lib.hid hsz
                    have htl : (erows (l.drop k)).length = 0 * 2 := by rw [flat_length entC_len, List.length_drop, ← HN.out, Nat.sub_self]
                    have HTl := Lib.hid htl
                    have hto : ∀ u ∈ erows (l.drop k), u.oneCell' = true := fun u hu => by
                      obtain ⟨e, _, h⟩ := List.mem_flatMap.1 hu
                      exact one_entC e u h
                    have HTo := Lib.hid hto
                    have hts : ∀ (A9 : Option Addr) W, Sees W A9 (erows (l.drop k)) := fun A9 W => by
                      rw [List.drop_of_length_le (by rw [← HN.out]; exact Nat.le_refl _)]
                      exact .inl rfl
                    have HTS := Lib.hid hts
                    clear hts
                    clear hsz htl hto
                    go_wp2_with (first
                      | (at_builtin; refine wpList_app elem_rent rfl (.tmp 62) (.tmp 64) rfl w4.heap.size (.slice A2 k c2) k (erows (l.take k)) rfl (World.ownsRow.alloc HOq.out _) (some ⟨_, 0, none⟩) 1 1 (entC (x, y)) rfl (sees_new _ _ _) rfl (one_entC _) (by omega) HSz.out ?_; intro v2 w2 hown hgr _; obtain ⟨A4, c4, rfl, _, _⟩ := own_full hown; have HO2 := Lib.hid hown; have HB2 := Lib.hid ((HBq.out.alloc HBq.out.size _).own (World.ownsRow.alloc HOq.out _) hgr HSz.out (Nat.le_refl _)); clear hown hgr)
                      | (at_builtin; refine wpList_app elem_rent rfl (.tmp 66) (.tmp 69) rfl w4.heap.size (.slice A4 (k + 1) c4) (k + 1) (erows (l.take k) ++ entC (x, y)) rfl HO2.out _ 0 _ (erows (l.drop k)) rfl (HTS.out _ w2) HTl.out HTo.out (by omega) HB2.out.size ?_; intro v3 w3 hown hgr _; obtain ⟨A5, c5, rfl, _, _⟩ := own_full hown; have HO3 := Lib.hid hown; have HB3 := Lib.hid (HB2.out.own HO2.out hgr HB2.out.size (Nat.le_refl _)); clear hown hgr)
                      | fail)
                    go_ret2
                    refine ⟨A5, c5, ret_slice2 (by have h7 := E7.out; show k + 1 + 0 = I.length; omega), ?_, H4.out.bel.trans (HB3.out.mono H4.out.bel.size)⟩
                    have := ownN_sees HO3.out
                    show Sees _ _ (erows I)
                    rw [HI.out]
                    unfold erows
                    rw [List.flatMap_append, List.flatMap_append]
                    simpa using this
  · have dv : (V != 0) = true := by simpa using hv
    have hE := E1.out hv
    subst hE
    clear hv
    go_wp2_with fail
    go_ret2
    exact ToldV.none_ H1.out.bel
end Go.Proofs.YtjilejmchaejiaaDoor
