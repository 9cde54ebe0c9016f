/- The walk of the law VersOwn, where the version is put. -/
import Derived.Test.YtobndboogafjpaaVersOwnS
namespace Go.Proofs.Ytobndboogafjpaa
open Go.RowKit Go.Cat Go.Cat.Vers

set_option maxRecDepth 100000 in
set_option maxHeartbeats 4000000 in
theorem own_walk_b (x y : Ver) (A B : Option Addr) (c d : Nat) (w : World) (hx : Bytes w A x.data) (hy : Bytes w B y.data) (h1 : x.data.length ≤ 2048) (h2 : 0 < x.ver) (h3 : 0 < x.seq) (h4 : x.ver < 18446744073709551616) (hn : y.data.length ≤ maxLen) :
    Calls Try.prog 5 #[vv x A c, vv y B d] w fun e w' => e = .returned (.bool true) ∧ Below w.heap.size w w' := by
  have d1 : decide ((2048 : Int) < (x.data.length : Int)) = false := by simp; omega
  have d2 : (x.ver == 0) = false := by simp; omega
  have d3 : (x.seq == 0) = false := by simp; omega
  obtain ⟨k0, k1, k2, k3, hsz, hB0⟩ := two_boxes (w := w) (a := #[.int .u64 x.ver, .int .u64 x.seq, .slice A x.data.length c]) (b := #[.int .u64 y.ver, .int .u64 y.seq, .slice B y.data.length d]) (t := 40) (u := 40) (Below.refl _ _)
  have hS : OwnS w.heap.size x y A B c d w ((w.alloc (.cells #[.int .u64 x.ver, .int .u64 x.seq, .slice A x.data.length c] 40)).alloc (.cells #[.int .u64 y.ver, .int .u64 y.seq, .slice B y.data.length d] 40)) :=
    ⟨(k0 0).trans rfl, (k0 1).trans rfl, (k0 2).trans rfl, (k2 0).trans rfl, (k2 1).trans rfl, (k2 2).trans rfl, hB0⟩
  have HS := Lib.hid hS
  have HN : Hid (y.data.length ≤ 9223372036854775807) := Lib.hid hn
  clear k0 k1 k2 k3 hsz hB0 hS hn
  go_enter Try.func5, Try.ntmps5
  go_wp2_with (at_builtin; refine wpList_app elem_u8 rfl (.const (.slice none 0 0)) (.tmp 37) rfl w.heap.size (.slice none 0 0) 0 [] rfl (World.ownsRow_nil _ _ _ _) A x.data.length c (x.data.map by8) rfl ((hx.alloc _).alloc _) (by simp) (one_by8 _) (by omega) (by simp; omega) ?_)
  intro v1 w1 hown1 hg1 hnb
  have hS1 := HS.out.next ((Below.refl _ _).grown hg1 (Nat.le_refl _) (fun k hk => by cases hk))
  obtain ⟨A1, c1, rfl, _, _⟩ := own_full hown1
  have HS1 := Lib.hid hS1
  have HO1 := Lib.hid hown1
  clear hS1 hown1 hg1 HS
  go_wp2_with fail
  refine (new_any w1).mono ?_
  rintro e w2 ⟨rfl, hh2, hB2⟩
  have hS2 := HS1.out.next hB2
  have hO2 := own_below HO1.out hB2
  obtain ⟨a1, a2, a3, a4, a5, a6, hBel2⟩ := hS2
  have hput := put_ok w1.heap.size w1.heap.size _ [] x A1 c1 w2 hh2 (by simp) h1 (Sees.of_own hO2) h2 h3 h4 (by simp) hB2.size
  have HP := Lib.hid hput
  have HO2 := Lib.hid hO2
  have HH2 := Lib.hid hh2
  have HB2 := Lib.hid hB2
  clear hput hO2 hh2 hB2
  go_wp2_with fail
  refine (HP.out).mono ?_
  rintro e w3 ⟨rfl, R3, hh3, _, ht3⟩
  have hlt1 : w.heap.size + 1 < w1.heap.size := World.block_lt_of_cell? _ _ HS1.out.2.2.2.1
  have hB3 : Below w1.heap.size w2 w3 := ht3.below HB2.out.size fun k hk => (HH2.out.mine k hk).1
  have hS3 := (HS1.out.next HB2.out).nextB hB3 hlt1
  have hO3 : w3.ownsRow w.heap.size 5 1 (.slice A1 x.data.length c1) x.data.length (x.data.map by8) := own_touch HO2.out ht3 fun k hk hm => by have a := (HO1.out.lt k hk).2; have b := (HH2.out.mine k hm).1; omega
  have HS3 := Lib.hid hS3
  have HH3 := Lib.hid hh3
  have HO3 := Lib.hid hO3
  have HNb := Lib.hid hnb
  clear hS3 hh3 ht3 hB3 hO3 hnb a1 a2 a3 a4 a5 a6
  go_wp2_with fail
  refine (spoil_any w.heap.size A1 x.data.length c1 x.data w3 HO3.out).mono ?_
  rintro e w4 ⟨⟨v4, rfl⟩, ht4⟩
  have hK4 : ∀ k, (Value.slice A1 x.data.length c1).ownBlock = some k → w.heap.size + 1 + 1 ≤ k ∧ k < w1.heap.size := fun k hk => by
    refine ⟨?_, (HO1.out.lt k hk).2⟩
    rcases HNb.out with h | h
    · rw [hk] at h; cases h
    · rw [hk] at h; injection h with h; omega
  have hl3 : w.heap.size + 1 < w3.heap.size := World.block_lt_of_cell? _ _ HS3.out.2.2.2.1
  have hS4 := HS3.out.nextB (ht4.below (B := w.heap.size + 1 + 1) hl3 fun k hk => (hK4 k hk).1) (by omega)
  have hh4 : HoldV w1.heap.size w1.heap.size R3 w4 [x] := HH3.out.touch ht4 (fun hk => by have := (hK4 _ hk).2; omega) (fun k hk hk2 => by have a := (hK4 k hk2).2; have b := (HH3.out.mine k (.inr hk)).1; omega) (fun k _ _ hb _ hk2 => by have a := (hK4 k hk2).2; omega)
  have HS4 := Lib.hid hS4
  have HH4 := Lib.hid hh4
  clear hS4 hh4 ht4 hK4
  have hsm : Small [x] := ⟨by simp, by intro v hv; simp at hv; rw [hv]; omega⟩
  have HSm := Lib.hid hsm
  have hfd := field_ver2
  clear hsm
  go_wp2_with fail
  refine (last_any _ [x] w4 HH4.out.blk HSm.out).mono ?_
  rintro e w5 ⟨A5, c5, rfl, ho5, hB5⟩
  have HO5 := Lib.hid ho5
  clear ho5
  go_wp2_with fail
  refine (spoil_any w4.heap.size A5 _ c5 _ w5 HO5.out).mono ?_
  rintro e w6 ⟨⟨v6, rfl⟩, ht6⟩
  have hB6 : Below w4.heap.size w4 w6 := hB5.trans (ht6.below hB5.size fun k hk => (HO5.out.lt k hk).1)
  have HS6 := Lib.hid (HS4.out.next hB6)
  have hh6 := HH4.out.below hB6
  have HH6 := Lib.hid hh6
  clear hh6 hB6 ht6 hB5
  have q1 := HS6.out.2.1
  have hri : Rising [x] := fun i j hij hj => by simp at hj; omega
  have HRi := Lib.hid hri
  clear hri
  go_wp2_with fail
  refine (cleanV_any _ [x] x.seq w6 HH6.out.blk HSm.out HRi.out).mono ?_
  rintro e w7 ⟨k7, _, A7, c7, rfl, ho7, hB7⟩
  have HO7 := Lib.hid ho7
  clear ho7
  go_wp2_with fail
  refine (spoil_any w6.heap.size A7 _ c7 _ w7 HO7.out).mono ?_
  rintro e w8 ⟨⟨v8, rfl⟩, ht8⟩
  have hB8 : Below w6.heap.size w6 w8 := hB7.trans (ht8.below hB7.size fun k hk => (HO7.out.lt k hk).1)
  have HS8 := Lib.hid (HS6.out.next hB8)
  have hh8 := HH6.out.below hB8
  have HH8 := Lib.hid hh8
  clear hh8 hB8 ht8 hB7 q1
  have q0 := HS8.out.1
  have hpo : ∀ v ∈ [x], 0 < v.ver := by intro v hv; simp at hv; rw [hv]; exact h2
  have HPo := Lib.hid hpo
  clear hpo
  go_wp2_with fail
  refine (pick_any _ [x] x.ver 0 w8 HH8.out.blk HSm.out HRi.out HPo.out).mono ?_
  rintro e w9 ⟨v9, _, A9, c9, rfl, ho9, hB9⟩
  have HO9 := Lib.hid ho9
  clear ho9
  go_wp2_with fail
  refine (spoil_any w8.heap.size A9 _ c9 _ w9 HO9.out).mono ?_
  rintro e w10 ⟨⟨v10, rfl⟩, ht10⟩
  have hB10 : Below w8.heap.size w8 w10 := hB9.trans (ht10.below hB9.size fun k hk => (HO9.out.lt k hk).1)
  have HS10 := Lib.hid (HS8.out.next hB10)
  have hh10 := HH8.out.below hB10
  have HH10 := Lib.hid hh10
  clear hh10 hB10 ht10 hB9 q0
  go_wp2_with fail
  refine (list_any _ [x] w10 HH10.out.blk HSm.out).mono ?_
  rintro e w11 ⟨rs, A11, c11, rfl, hrs, hrow, hds, hB11⟩
  obtain ⟨r, rfl⟩ : ∃ r, rs = [r] := by
    match rs, hrs with
    | [r], _ => exact ⟨r, rfl⟩
  have hr1 : r.1 = x := by simpa using hrs
  obtain ⟨gb, hA11⟩ : ∃ gb, A11 = some ⟨gb, 0, none⟩ := by
    rcases hrow.2 with ⟨_, h0⟩ | ⟨gb, cap, cur, hv, _⟩
    · simp at h0
    · injection hv with hA _ _
      exact ⟨gb, hA⟩
  subst hA11
  have hcl : w11.cell? ⟨gb, 2, none⟩ = some (.slice r.2.1 r.1.data.length r.2.2) := by
    rw [hrow.cellAt (g := gb) 2 (by simp)]; rfl
  have hds0 := hds r (by simp)
  rw [hr1] at hcl
  unfold OwnD at hds0
  rw [hr1] at hds0
  have HD0 := Lib.hid hds0
  have HR1 := Lib.hid hr1
  clear hrs hrow hds hr1 hds0
  go_wp2_with fail
  go_loopw [9] (fun i wr => (i = .int .i64 0 ∧ wr = w11) ∨ (i = .int .i64 1 ∧ Below w10.heap.size w10 wr)) (fun i _ => 1 - (intOf i).toNat)
  case atStart => exact .inl ⟨rfl, rfl⟩
  case round =>
    rcases hrel with ⟨rfl, rfl⟩ | ⟨rfl, hB12⟩
    · go_wp2_with fail
      refine (spoil_any w10.heap.size r.2.1 _ r.2.2 _ _ HD0.out).mono ?_
      rintro e w12 ⟨⟨v12, rfl⟩, ht12⟩
      have hB12 := hB11.trans (ht12.below hB11.size fun k hk => (HD0.out.lt k hk).1)
      clear ht12 hcl
      go_wp2_with fail
      go_roundw
      case rel => exact .inr ⟨rfl, hB12⟩
      case measure => simp [intOf]
    · have hS12 := HS10.out.next hB12
      have hh12 := HH10.out.below hB12
      have HS12 := Lib.hid hS12
      have HH12 := Lib.hid hh12
      clear hS12 hh12 hcl
      go_wp2_with fail
      have hxb : ∀ w', Below w.heap.size w w' → Bytes w' A x.data := fun w' h => hx.below h
      have hyb : ∀ w', Below w.heap.size w w' → Bytes w' B y.data := fun w' h => hy.below h
      obtain ⟨r0, hr0⟩ : ∃ r0, r0 = sameV x y := ⟨_, rfl⟩
      have HR0 := Lib.hid hr0
      obtain ⟨G, hG⟩ : ∃ G, G = w1.heap.size := ⟨_, rfl⟩
      obtain ⟨H, hH⟩ : ∃ H, H = w.heap.size := ⟨_, rfl⟩
      rw [← hH] at HS12 hxb hyb ⊢
      rw [← hG] at HH12 ⊢
      have HH := Lib.hid hH
      have HXb := Lib.hid hxb
      have HYb := Lib.hid hyb
      have HM : Hid (x.data.length ≤ 9223372036854775807) := Lib.hid (by omega)
      clear hH hG hxb hyb hr0 HS1 HO1 HS3 HH3 HO3 HS4 HH4 HO5 HS6 HH6 HO7 HS8 HH8 HO9 HS10 HH10 HD0 HR1 HNb HP HO2 HH2 HB2
      go_region_held3 (fun w' => w'.cell? ⟨H, 0, none⟩ = some (.int .u64 x.ver) ∧ w'.cell? ⟨H, 1, none⟩ = some (.int .u64 x.seq) ∧ w'.cell? ⟨H, 2, none⟩ = some (.slice A x.data.length c) ∧
          w'.cell? ⟨H + 1, 0, none⟩ = some (.int .u64 y.ver) ∧ w'.cell? ⟨H + 1, 1, none⟩ = some (.int .u64 y.seq) ∧ w'.cell? ⟨H + 1, 2, none⟩ = some (.slice B y.data.length d) ∧ Below H w w')
        (first | exact OwnS.next HS12.out ((Below.refl _ _).drew) | exact OwnS.next (by assumption) hOx | exact OwnS.next (by assumption) hOy | exact OwnS.next (by assumption) hVs | exact OwnS.next (by assumption) hRs | exact OwnS.next (by assumption) hAw | exact OwnS.next (by assumption) hLa | exact OwnS.next (by assumption) hLi | fail)
        (first
          | (go_at_call 12; refine (last_any _ [x] _ (HH12.out.blk.below (Below.refl _ _).drew) HSm.out).mono ?_; rintro e wLa ⟨AL, cL, rfl, hoL, hLa⟩)
          | (go_at_call 21; refine (like_any AL A cL c x x _ (Sees.of_own hoL) (HXb.out _ (OwnS.bel (by assumption))) HM.out HM.out).mono ?_; rw [sameV_self]; rintro e wLi ⟨rfl, hLi⟩)
          | (go_at_call 16; refine (ours_any A c x _).mono ?_; rintro e wOx ⟨rfl, hOx⟩)
          | (go_at_call 16; refine (ours_any B d y _).mono ?_; rintro e wOy ⟨rfl, hOy⟩)
          | (go_at_call 11; refine (vsame_any A B c d x y _ (HXb.out _ (OwnS.bel (by assumption))) (HYb.out _ (OwnS.bel (by assumption)))).mono ?_; rw [← HR0.out]; rintro e wVs ⟨rfl, hVs⟩)
          | (go_at_call 27; refine (rsame_any A B c d x y _ (HXb.out _ (OwnS.bel (by assumption))) (HYb.out _ (OwnS.bel (by assumption))) HM.out HN.out).mono ?_; rw [← HR0.out]; rintro e wRs ⟨rfl, hRs⟩)
          | (go_at_call 7; refine (awake_any _).mono ?_; rintro e wAw ⟨rfl, hAw⟩)
          | fail)
      all_goals
        rename_i FS
        have hfin := OwnS.bel FS
        clear FS
        rw [HH.out] at hfin
        go_wp2_with fail
        go_ret
        exact ⟨rfl, hfin⟩
end Go.Proofs.Ytobndboogafjpaa
