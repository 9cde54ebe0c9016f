/- The contracts of the reference's Set and Take. Condition: a slice of at most 4096 bytes. -/
import Derived.Test.YtddmffdnookdlaaBitsTake
import Derived.Test.YtddmffdnookdlaaApp
namespace Go.Proofs.Ytddmffdnookdlaa
open Go.RowKit Go.Cat Go.Cat.Bits

theorem elem_int : Elem Try.prog 24 3 (.int .i64 0) 1 8 := ⟨Try.underlying24, info_int, rfl, by decide, by decide⟩
theorem elem_u8 : Elem Try.prog 22 5 (.int .u8 0) 1 1 := ⟨Try.underlying22, info_u8, rfl, by decide, by decide⟩
theorem one_i64 (l : List Int) : ∀ u ∈ l.map i64, u.oneCell' = true := by intro u hu; simp [i64] at hu; obtain ⟨a, _, rfl⟩ := hu; rfl
theorem one_by8 (l : List UInt8) : ∀ u ∈ l.map by8, u.oneCell' = true := by intro u hu; simp [by8] at hu; obtain ⟨a, _, rfl⟩ := hu; rfl

theorem rset_any (A : Option Addr) (m c : Nat) (bs : List UInt8) (n i : Int) (on : Bool) (w : World) (hb : Bytes w A bs) (hn : m = bs.length) (hm : bs.length ≤ 4096) (h63 : i ≤ 9223372036854775807) :
    Calls Try.prog 20 #[.slice A m c, .int .i64 n, .int .i64 i, .bool on] w fun e w' => ∃ out z A' c', SetTo bs n i on out z ∧ e = .returned (.tuple #[.slice A' out.length c', .int .i64 z]) ∧ Bytes w' A' out ∧ Below w.heap.size w w' := by
  subst hn
  by_cases h : FitsP bs n
  · have h0 := h.lo
    have h1 := h.hi
    by_cases hi0 : i < 0
    · go_enter Try.func20, Try.ntmps20
      go_wp2_with (go_at_call 17; refine (rfits_yes hb rfl hm h).mono ?_; rintro e w' ⟨rfl, rfl⟩)
      go_ret2
      exact ⟨[], 20, none, 0, .inr (.inl ⟨h, .inl hi0, rfl, rfl⟩), rfl, Bytes.nil_, Below.refl _ _⟩
    · by_cases hin : n ≤ i
      · have hd : decide (i < 0) = false := by simpa using hi0
        go_enter Try.func20, Try.ntmps20
        go_wp2_with (go_at_call 17; refine (rfits_yes hb rfl hm h).mono ?_; rintro e w' ⟨rfl, rfl⟩)
        go_ret2
        exact ⟨[], 20, none, 0, .inr (.inl ⟨h, .inr hin, rfl, rfl⟩), rfl, Bytes.nil_, Below.refl _ _⟩
      · obtain ⟨k, rfl⟩ := Int.eq_ofNat_of_zero_le (by omega : 0 ≤ i)
        have hd : decide ((k : Int) < 0) = false := by simp
        have hkI : (k : Int) < n := by omega
        have hhad := had_yes h
        obtain ⟨H, hH⟩ : ∃ H, H = had bs n := ⟨_, rfl⟩
        have hHl := had_le bs n
        rw [← hH] at hHl
        have hwl := wo_le H (k : Int)
        have hwin : ∀ z ∈ wo H (k : Int), 0 ≤ z ∧ z < n := by
          intro z hz
          have := (mem_wo.1 hz).1
          rw [hH, hhad] at this
          obtain ⟨j, rfl, h3, _⟩ := mem_nums.1 this
          omega
        have hmem : ∀ j : Nat, j < n.toNat → ((j : Int) ∈ H ↔ bit bs j = true) := by
          intro j hj
          rw [hH, hhad, mem_nums]
          constructor
          · rintro ⟨q, hq, _, h4⟩
            obtain rfl : j = q := by omega
            exact h4
          · intro h4; exact ⟨j, rfl, hj, h4⟩
        have hlist := fun (c : Nat) => rlist_any A bs.length c bs n w hb rfl hm
        rw [← hH] at hlist
        have HLi := Lib.hid hlist
        have HM := Lib.hid hmem
        have HI := Lib.hid hwin
        clear hhad hH hlist hmem hwin hi0 hin
        go_enter Try.func20, Try.ntmps20
        go_wp2_with (go_at_call 17; refine (rfits_yes hb rfl hm h).mono ?_; rintro e w' ⟨rfl, rfl⟩)
        refine (HLi.out _).mono ?_
        rintro e w1 ⟨v1, rfl, hown1, hbel1⟩
        obtain ⟨A1, c1, rfl, hs1⟩ := own_form hown1
        have hi1 : Ints w1 A1 H := hs1
        clear hs1 hown1
        go_wp2_with fail
        refine (without_any A1 _ _ H (k : Int) w1 hi1 rfl (by omega)).mono ?_
        rintro e w2 ⟨v2, rfl, hown2, hbel2⟩
        have hB2 : Below w.heap.size w w2 := hbel1.trans (hbel2.mono hbel1.size)
        obtain ⟨A2, c2, rfl, hs2⟩ := own_form hown2
        obtain ⟨W, hW⟩ : ∃ W, W = wo H (k : Int) := ⟨_, rfl⟩
        rw [← hW] at hown2 hs2 hwl ⊢
        have HW := Lib.hid hW
        have hsz1 := hbel1.size
        have hsz2 := hbel2.size
        clear hW hbel2 hbel1 hi1
        cases on
        · go_wp2_with fail
          refine (of_any A2 _ _ W n w2 hs2 rfl (by omega) h0 h1 (by rw [HW.out]; exact HI.out)).mono ?_
          rintro e w3 ⟨out, hrep, rfl, hb3, hbel3⟩
          have hB3 := hB2.trans (hbel3.mono hB2.size)
          go_wp2
          go_ret2
          refine ⟨out, 0, _, _, .inr (.inr ⟨h, by omega, hkI, hrep.congr fun j hj => ?_, rfl⟩), ret_slice2 hrep.1.symm, hb3, hB3⟩
          simp only [Int.toNat_natCast]
          by_cases hjk : j = k
          · subst hjk
            have : ¬ ((j : Int) ∈ W) := by rw [HW.out, mem_wo]; simp
            simp [this]
          · rw [if_neg hjk, Bool.eq_iff_iff, decide_eq_true_iff, HW.out, mem_wo, HM.out j hj]
            exact ⟨fun h => h.1, fun h => ⟨h, by omega⟩⟩
        · go_wp2_with (at_builtin; refine wpList_app elem_int rfl _ _ rfl w1.heap.size _ _ _ rfl (hown2.alloc _) _ _ _ [.int .i64 (k : Int)] rfl (sees_new _ [.int .i64 (k : Int)] _) rfl ?c1 ?c2 ?c3 ?_)
          case c1 => intro u hu; simp at hu; subst hu; rfl
          case c2 => omega
          case c3 => simp; omega
          intro v3 w3 hown3 hg3 _
          have hB3 : Below w.heap.size w w3 := (hB2.alloc hB2.size _).own (hown2.alloc _) hg3 (by simp; omega) hsz1
          obtain ⟨A3, c3, rfl, hs3⟩ := own_form hown3
          have hi3 : Ints w3 A3 (W ++ [(k : Int)]) := by unfold Ints; rw [List.map_append]; exact hs3
          clear hown3 hg3 hs3 hB2 hs2 hown2
          have hlen3 : W.length + 1 = (W ++ [(k : Int)]).length := by simp
          have HL3 := Lib.hid hlen3
          clear hlen3
          go_wp2_with fail
          refine (of_any A3 _ _ (W ++ [(k : Int)]) n w3 hi3 HL3.out (by simp; omega) h0 h1 ?hin).mono ?_
          case hin =>
            intro z hz
            rcases List.mem_append.1 hz with hz | hz
            · rw [HW.out] at hz; exact HI.out z hz
            · obtain rfl : z = (k : Int) := by simpa using hz
              omega
          rintro e w4 ⟨out, hrep, rfl, hb4, hbel4⟩
          have hB4 := hB3.trans (hbel4.mono hB3.size)
          go_wp2
          go_ret2
          refine ⟨out, 0, _, _, .inr (.inr ⟨h, by omega, hkI, hrep.congr fun j hj => ?_, rfl⟩), ret_slice2 hrep.1.symm, hb4, hB4⟩
          simp only [Int.toNat_natCast]
          by_cases hjk : j = k
          · subst hjk
            simp
          · rw [if_neg hjk, Bool.eq_iff_iff, decide_eq_true_iff, List.mem_append, HW.out, mem_wo, HM.out j hj]
            constructor
            · rintro (h | h)
              · exact h.1
              · exfalso; have : (j : Int) = (k : Int) := by simpa using h
                omega
            · exact fun h => .inl ⟨h, by omega⟩
  · go_enter Try.func20, Try.ntmps20
    go_wp2_with (go_at_call 17; refine (rfits_not hb rfl hm h).mono ?_; rintro e w' ⟨rfl, rfl⟩)
    go_ret2
    exact ⟨[], 4, none, 0, .inl ⟨h, rfl, rfl⟩, rfl, Bytes.nil_, Below.refl _ _⟩

theorem rtake_any (A : Option Addr) (m c : Nat) (bs : List UInt8) (n k : Int) (w : World) (hb : Bytes w A bs) (hn : m = bs.length) (hm : bs.length ≤ 4096) :
    Calls Try.prog 9 #[.slice A m c, .int .i64 n, .int .i64 k] w fun e w' => ∃ out got z A' c' B d, TakeTo bs n k out got z ∧ e = .returned (.tuple #[.slice A' out.length c', .slice B got.length d, .int .i64 z]) ∧ Bytes w' A' out ∧ Ints w' B got ∧ Below w.heap.size w w' := by
  subst hn
  by_cases h : FitsP bs n
  · have h0 := h.lo
    have h1 := h.hi
    by_cases hk0 : k < 0
    · go_enter Try.func9, Try.ntmps9
      go_wp2_with (go_at_call 17; refine (rfits_yes hb rfl hm h).mono ?_; rintro e w' ⟨rfl, rfl⟩)
      go_ret3
      exact ⟨[], [], 1, none, 0, none, 0, .inr (.inl ⟨h, hk0, rfl, rfl, rfl⟩), rfl, Bytes.nil_, Ints.nil_, Below.refl _ _⟩
    · obtain ⟨K, rfl⟩ := Int.eq_ofNat_of_zero_le (by omega : 0 ≤ k)
      obtain ⟨N, rfl⟩ := Int.eq_ofNat_of_zero_le h0
      clear hk0
      go_enter Try.func9, Try.ntmps9
      go_wp2_with (go_at_call 17; refine (rfits_yes hb rfl hm h).mono ?_; rintro e w' ⟨rfl, rfl⟩)
      go_loopw [9, 10] (fun v i wr => ∃ q : Nat, q ≤ N ∧ i = .int .i64 q ∧ wr.ownsRow w.heap.size 3 1 v (nums (fun j => !bit bs j) q).length ((nums (fun j => !bit bs j) q).map i64) ∧ Below w.heap.size w wr) (fun _ i _ => N - (intOf i).toNat)
      case atStart => exact ⟨0, Nat.zero_le _, rfl, World.ownsRow_nil _ _ _ _, Below.refl _ _⟩
      case round =>
        obtain ⟨q, hq, rfl, hown, hbel⟩ := hrel
        have hbr := hb.below hbel
        have hle := nums_le (fun j => !bit bs j) q
        obtain ⟨G, hG⟩ : ∃ G, G = nums (fun j => !bit bs j) q := ⟨_, rfl⟩
        rw [← hG] at hown hle
        have HG := Lib.hid hG
        clear hG
        by_cases hlt : q < N
        · rcases Bool.eq_false_or_eq_true (bit bs q) with hbt | hbt
          · have hh : Hid (hasB bs (q : Int) = true) := by show _ = _; simpa [hasB] using hbt
            have hx := nums_no (p := fun j => !bit bs j) (k := q) (by simp [hbt])
            rw [← HG.out] at hx
            have HX := Lib.hid hx
            clear hx hbt
            go_wp2_with (go_at_call 24; refine (rhas_true hbr rfl hm (by omega) hh.out).mono ?_; rintro e w' ⟨rfl, rfl⟩)
            go_roundw
            case rel => exact ⟨q + 1, by omega, by go_num, by rw [HX.out]; exact hown, hbel⟩
            case measure => simp [intOf]; omega
          · have hh : Hid (hasB bs (q : Int) = false) := by show _ = _; simpa [hasB] using hbt
            have hx := nums_yes (p := fun j => !bit bs j) (k := q) (by simp [hbt])
            rw [← HG.out] at hx
            have HX := Lib.hid hx
            clear hx hbt
            obtain ⟨V, C, rfl, _⟩ := own_form hown
            go_wp2_with (first
              | (go_at_call 24; refine (rhas_false hbr rfl hm (by omega) hh.out).mono ?_; rintro e w' ⟨rfl, rfl⟩)
              | (at_builtin; refine wpList_app elem_int rfl _ _ rfl w.heap.size _ _ _ rfl (hown.alloc _) _ _ _ [.int .i64 (q : Int)] rfl (sees_new _ [.int .i64 (q : Int)] _) rfl ?c1 ?c2 ?c3 ?_))
            case c1 => intro u hu; simp at hu; subst hu; rfl
            case c2 => omega
            case c3 => have := hbel.size; simp; omega
            intro v' w1 hown' hgrow _
            have hR : w1.ownsRow w.heap.size 3 1 v' (nums (fun j => !bit bs j) (q + 1)).length ((nums (fun j => !bit bs j) (q + 1)).map i64) := by rw [HX.out]; simpa [i64] using hown'
            have hB : Below w.heap.size w w1 := (hbel.alloc hbel.size _).own (hown.alloc _) hgrow (by have := hbel.size; simp; omega) (Nat.le_refl _)
            clear hown' hgrow hown hbr
            go_wp2
            go_roundw
            case rel => exact ⟨q + 1, by omega, by go_num, hR, hB⟩
            case measure => simp [intOf]; omega
        · obtain rfl : q = N := by omega
          have hGf : G = free bs (q : Int) := by rw [HG.out]; unfold free; simp
          have HF := Lib.hid hGf
          clear hGf hlt
          obtain ⟨V, C, rfl, hs⟩ := own_form hown
          by_cases hGK : G.length < K
          · go_wp2
            go_ret3
            exact ⟨[], [], 16, none, 0, none, 0, .inr (.inr (.inl ⟨h, by omega, by rw [← HF.out]; omega, rfl, rfl, rfl⟩)), rfl, Bytes.nil_, Ints.nil_, hbel⟩
          · obtain ⟨V', C', hv', hVC, hCm⟩ := own_full hown
            injection hv' with hv1 _ hv2
            subst hv1 hv2
            have hKI : (K : Int) ≤ (G.length : Int) := by omega
            have hKC : (K : Int) ≤ (C : Int) := by omega
            unfold maxLen at hCm
            have hGT : Ints wr V (G.take K) := Ints.take hs K
            have hTl : (G.take K).length = K := by rw [List.length_take]; omega
            have hHl := had_le bs (q : Int)
            have hhad := had_yes h
            have hmem : ∀ z ∈ had bs (q : Int) ++ G.take K, 0 ≤ z ∧ z < (q : Int) := by
              intro z hz
              rcases List.mem_append.1 hz with hz | hz
              · rw [hhad] at hz; obtain ⟨j, rfl, h3, _⟩ := mem_nums.1 hz; omega
              · have hz := List.mem_of_mem_take hz; rw [HG.out] at hz; obtain ⟨j, rfl, h3, _⟩ := mem_nums.1 hz; omega
            have hlen : ((had bs (q : Int)) ++ G.take K).length = (had bs (q : Int)).length + K := by rw [List.length_append, hTl]
            obtain ⟨T, hT⟩ : ∃ T, T = G.take K := ⟨_, rfl⟩
            obtain ⟨D, hD⟩ : ∃ D, D = had bs (q : Int) := ⟨_, rfl⟩
            have hlist := rlist_any A bs.length c bs (q : Int) wr.drew (show Bytes wr.drew A bs from hbr) rfl hm
            rw [← hT] at hGT hTl hmem hlen
            rw [← hD] at hHl hmem hlen hhad hlist
            have HT := Lib.hid hT
            have HTl := Lib.hid hTl
            have HM := Lib.hid hmem
            have HL := Lib.hid hlen
            have HD := Lib.hid hhad
            have HLi := Lib.hid hlist
            clear hT hTl hmem hlen hhad hD hlist
            go_wp2
            go_region_law (first
              | (go_simp; go_at_call 18; refine (HLi.out).mono ?_; rintro e w1 ⟨v1, rfl, hown1, hbel1⟩)
              | (refine step_app elem_int rfl (.tmp 36) (.tmp 39) rfl wr.heap.size v1 D.length (D.map i64) rfl hown1 V K C (T.map i64) rfl (Sees.below (w := wr) hGT (below_undrew hbel1)) (by simp [HTl.out]) (one_i64 _) (by omega) hbel1.size ?_; intro v2 w2 hown2 hg2 _; obtain ⟨A2, c2, rfl, hs2⟩ := own_form hown2; rw [← List.map_append] at hs2)
              | (go_simp; go_at_call 26; refine (of_any A2 _ _ (D ++ T) (q : Int) _ hs2 HL.out.symm (by rw [HL.out]; omega) h0 h1 HM.out).mono ?_; rintro e w3 ⟨out, hrep, rfl, hb3, hbel3⟩))
            go_wp2
            go_ret3
            have hB1 : Below w.heap.size w w1 := hbel.trans ((below_undrew hbel1).mono hbel.size)
            have hB2 : Below w.heap.size w w2 := hB1.own hown1 hg2 hB1.size hbel.size
            have hB3 : Below w.heap.size w w3 := hB2.trans (hbel3.mono hB2.size)
            have hTT : T = (free bs (q : Int)).take K := by rw [HT.out, HF.out]
            refine ⟨out, T, 0, some ⟨w2.heap.size, 0, none⟩, sz (q : Int), V, C, .inr (.inr (.inr ⟨h, by omega, by rw [← HF.out]; omega, by simpa using hTT, hrep.congr fun j hj => ?_, rfl⟩)), ?_, hb3, ?_, hB3⟩
            · have hj : j < q := by simpa using hj
              have : ((j : Int) ∈ D) ↔ bit bs j = true := by
                rw [HD.out, mem_nums]
                constructor
                · rintro ⟨r, hr, _, h4⟩
                  obtain rfl : j = r := by omega
                  exact h4
                · intro h4; exact ⟨j, rfl, by simpa using hj, h4⟩
              rw [Bool.eq_iff_iff, decide_eq_true_iff, List.mem_append, this]
              simp
            · rw [hrep.1, HTl.out]
              rfl
            · have hr1 := below_undrew hbel1
              have hr2 : Below wr.heap.size wr w2 := hr1.own hown1 hg2 hr1.size (Nat.le_refl _)
              exact Sees.below (w := wr) hGT (hr2.trans (hbel3.mono hr2.size))
  · go_enter Try.func9, Try.ntmps9
    go_wp2_with (go_at_call 17; refine (rfits_not hb rfl hm h).mono ?_; rintro e w' ⟨rfl, rfl⟩)
    go_ret3
    exact ⟨[], [], 4, none, 0, none, 0, .inl ⟨h, rfl, rfl, rfl⟩, rfl, Bytes.nil_, Ints.nil_, Below.refl _ _⟩
end Go.Proofs.Ytddmffdnookdlaa
