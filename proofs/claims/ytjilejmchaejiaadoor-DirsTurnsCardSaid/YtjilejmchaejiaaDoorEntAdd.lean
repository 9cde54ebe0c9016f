/- The contract of dirs.Add. Condition: at most 1000000 entries. -/
import Derived.Test.YtjilejmchaejiaaDoorEntSort
namespace Go.Cat.Dir
open Go.RowKit Go.Cat
theorem add_err {l : List Ent} {e : Ent} (h : checkE l ≠ 0) : addE l e = ([], checkE l) := if_pos h
theorem add_name {l : List Ent} {e : Ent} (h : checkE l = 0) (h1 : nameB e.1 = false) : addE l e = ([], 18) := by unfold addE; rw [if_neg (by rw [h]; simp), if_pos h1]
theorem add_form {l : List Ent} {e : Ent} (h : checkE l = 0) (h1 : nameB e.1 = true) (h2 : nodeB e.2 = false) : addE l e = ([], 4) := by unfold addE; rw [if_neg (by rw [h]; simp), if_neg (by rw [h1]; simp), if_pos h2]
theorem add_there {l : List Ent} {e : Ent} (h : checkE l = 0) (h1 : nameB e.1 = true) (h2 : nodeB e.2 = true) (h3 : ixE l e.1 < l.length) : addE l e = ([], 8) := by unfold addE; rw [if_neg (by rw [h]; simp), if_neg (by rw [h1]; simp), if_neg (by rw [h2]; simp), if_pos h3]
theorem add_big {l : List Ent} {e : Ent} (h : checkE l = 0) (h1 : nameB e.1 = true) (h2 : nodeB e.2 = true) (h3 : ¬ ixE l e.1 < l.length) (h4 : 32 ≤ l.length) : addE l e = ([], 17) := by unfold addE; rw [if_neg (by rw [h]; simp), if_neg (by rw [h1]; simp), if_neg (by rw [h2]; simp), if_neg h3, if_pos h4]
theorem add_ok {l : List Ent} {e : Ent} (h : checkE l = 0) (h1 : nameB e.1 = true) (h2 : nodeB e.2 = true) (h3 : ¬ ixE l e.1 < l.length) (h4 : ¬ 32 ≤ l.length) : addE l e = (insE l e, 0) := by unfold addE; rw [if_neg (by rw [h]; simp), if_neg (by rw [h1]; simp), if_neg (by rw [h2]; simp), if_neg h3, if_neg h4]
/-- The box of an entry. -/
structure BoxE (g : Nat) (x : Txt) (y : Int) (T : TypeId) (w wr : World) : Prop where
  at_ : g = w.heap.size
  xx : wr.heap[g]? = some (.cells #[.string (bs x), .int .i64 y] T (0, 0))
  bel : Below w.heap.size w wr
section
variable {g : Nat} {x : Txt} {y : Int} {T : TypeId} {w wr w1 : World}
theorem BoxE.new (w : World) (x : Txt) (y : Int) (T : TypeId) : BoxE w.heap.size x y T w (w.alloc (.cells #[.string (bs x), .int .i64 y] T)) := ⟨rfl, heap_alloc_new _ _, (Below.refl _ _).alloc (Nat.le_refl _) _⟩
theorem BoxE.lt (h : BoxE g x y T w wr) : g < wr.heap.size := (Array.getElem?_eq_some_iff.1 h.xx).1
theorem BoxE.below (h : BoxE g x y T w wr) (hb : Below wr.heap.size wr w1) : BoxE g x y T w w1 := ⟨h.at_, (hb.block _ h.lt).trans h.xx, h.bel.trans (hb.mono h.bel.size)⟩
theorem BoxE.cells (h : BoxE g x y T w wr) : wr.cell? ⟨g, 0, none⟩ = some (.string (bs x)) ∧ wr.cell? ⟨g, 1, none⟩ = some (.int .i64 y) := ⟨cell_of_row _ _ 0 _ _ _ h.xx, cell_of_row _ _ 1 _ _ _ h.xx⟩
end
end Go.Cat.Dir
namespace Go.Proofs.YtjilejmchaejiaaDoor
open Go.RowKit Go.Cat Go.Cat.Dir

set_option maxRecDepth 100000 in
set_option maxHeartbeats 4000000 in
theorem dadd_any (A : Option Addr) (l : List Ent) (c : Nat) (x : Txt) (y : Int) (w : World) (hs : Sees w A (erows l)) (hn : l.length ≤ 1000000) :
    Calls Tryd.prog 30 #[.slice A l.length c, .agg #[.string (bs x), .int .i64 y]] w (ToldV (addE l (x, y)) w) := by
  obtain ⟨W0, hW0⟩ : ∃ W0, W0 = w.alloc (.cells #[.string (bs x), .int .i64 y] 56) := ⟨_, rfl⟩
  obtain ⟨g, hg⟩ : ∃ g, g = w.heap.size := ⟨_, rfl⟩
  have h0 : BoxE g x y 56 w W0 := by rw [hg, hW0]; exact BoxE.new _ _ _ _
  have p1 := fun W (h : Below w.heap.size w W) => dcheck_any A l c W (hs.below h) hn
  have p4 := fun W (h : Below w.heap.size w W) => at_any A l c x W (hs.below h) (by omega)
  have p5 := fun W (h : Below w.heap.size w W) => clonee_any A l.length c l W (hs.below h) rfl hn
  have p6 := fun (hc : checkE l = 0) (hi : ¬ ixE l x < l.length) base A' c' W (h : base ≤ W.heap.size) (h2 : W.ownsRow base 56 2 (.slice A' (l.length + 1) c') (l.length + 1) (erows (l ++ [(x, y)]))) => sortent_any base A' l (x, y) c' W h2 h hn ((check_iff l).1 hc).2.2 (ix_none hi)
  unfold ToldAt at p4
  have e1 : checkE l ≠ 0 → addE l (x, y) = ([], checkE l) := add_err (e := (x, y))
  have e2 : checkE l = 0 → nameB x = false → addE l (x, y) = ([], 18) := add_name (e := (x, y))
  have e3 : checkE l = 0 → nameB x = true → nodeB y = false → addE l (x, y) = ([], 4) := add_form (e := (x, y))
  have e4 : checkE l = 0 → nameB x = true → nodeB y = true → ixE l x < l.length → addE l (x, y) = ([], 8) := add_there (e := (x, y))
  have e5 : checkE l = 0 → nameB x = true → nodeB y = true → ¬ ixE l x < l.length → 32 ≤ l.length → addE l (x, y) = ([], 17) := add_big (e := (x, y))
  have e6 : checkE l = 0 → nameB x = true → nodeB y = true → ¬ ixE l x < l.length → ¬ 32 ≤ l.length → addE l (x, y) = (insE l (x, y), 0) := add_ok (e := (x, y))
  have e7 : (insE l (x, y)).length = l.length + 1 := ins_length l (x, y)
  have e8 : erows (l ++ [(x, y)]) = erows l ++ entC (x, y) := erows_snoc l (x, y)
  obtain ⟨F, hF⟩ : ∃ F, F = addE l (x, y) := ⟨_, rfl⟩
  rw [← hF] at e1 e2 e3 e4 e5 e6 ⊢
  obtain ⟨I, hI⟩ : ∃ I, I = insE l (x, y) := ⟨_, rfl⟩
  rw [← hI] at e6 e7 p6
  obtain ⟨V, hV⟩ : ∃ V, V = checkE l := ⟨_, rfl⟩
  rw [← hV] at p1 p6 e1 e2 e3 e4 e5 e6
  have p7 : ixE l x < l.length → decide (0 ≤ atE l x) = true := fun h => by rw [at_yes h]; simp
  have p8 : ¬ ixE l x < l.length → decide (0 ≤ atE l x) = false := fun h => by rw [at_no h]; rfl
  obtain ⟨z, hz⟩ : ∃ z, z = atE l x := ⟨_, rfl⟩
  rw [← hz] at p4 p7 p8
  obtain ⟨b, hb⟩ : ∃ b, b = decide (ixE l x < l.length) := ⟨_, rfl⟩
  have hb1 : b = true → ixE l x < l.length := fun h => by rw [hb] at h; exact of_decide_eq_true h
  have hb2 : b = false → ¬ ixE l x < l.length := fun h => by rw [hb] at h; exact of_decide_eq_false h
  have p2 := fun W => name_any x W
  have p3 := fun W => node_any y W
  obtain ⟨n, hnn⟩ : ∃ n, n = l.length := ⟨_, rfl⟩
  have HN := Lib.hid hnn
  rw [← hnn] at p1 p4 p5 p6 p7 p8 e4 e5 e6 e7 hn hb1 hb2 ⊢
  have P1 := Lib.hid p1
  have P2 := Lib.hid p2
  have P3 := Lib.hid p3
  have P4 := Lib.hid p4
  have P5 := Lib.hid p5
  have P6 := Lib.hid p6
  have P7 := Lib.hid p7
  have P8 := Lib.hid p8
  have E1 := Lib.hid e1
  have E2 := Lib.hid e2
  have E3 := Lib.hid e3
  have E4 := Lib.hid e4
  have E5 := Lib.hid e5
  have E6 := Lib.hid e6
  have E7 := Lib.hid e7
  have E8 := Lib.hid e8
  have H0 := Lib.hid h0
  have HW0 := Lib.hid hW0
  have HB1 := Lib.hid hb1
  have HB2 := Lib.hid hb2
  have HG := Lib.hid hg
  clear p1 p2 p3 p4 p5 p6 p7 p8 e1 e2 e3 e4 e5 e6 e7 e8 hF hI hV hz hnn hs h0 hW0 hb hb1 hb2
  go_enter Tryd.func30, Tryd.ntmps30
  go_upto_region 1 with (fail)
  rw [← HW0.out, ← hg]
  clear hg
  have P1' := Lib.hid (P1.out W0 H0.out.bel)
  go_wp2_with fail
  refine (P1'.out).mono ?_
  rintro e w1 ⟨rfl, hB1⟩
  have H1 := Lib.hid (H0.out.below (hB1.mono (Nat.le_refl _)))
  clear hB1 P1' HW0 H0
  obtain ⟨c0, c1⟩ := H1.out.cells
  by_cases hv : V = 0
  · have dv : (V != 0) = false := by simpa using hv
    cases hnm : nameB x with
    | false =>
      have hE := E2.out hv hnm
      subst hE
      have P2' := Lib.hid (P2.out w1)
      rw [hnm] at P2'
      clear hv hnm
      go_wp2_with fail
      refine (P2'.out).mono ?_
      rintro e w2 ⟨rfl, hB2⟩
      have H2 := Lib.hid (H1.out.below hB2)
      clear hB2
      go_wp2_with fail
      go_ret2
      exact ToldV.none_ H2.out.bel
    | true =>
      have P2' := Lib.hid (P2.out w1)
      rw [hnm] at P2'
      go_wp2_with fail
      refine (P2'.out).mono ?_
      rintro e w2 ⟨rfl, hB2⟩
      have H2 := Lib.hid (H1.out.below hB2)
      clear hB2 c0 c1 P2'
      obtain ⟨c0, c1⟩ := H2.out.cells
      have P3' := Lib.hid (P3.out w2)
      cases hnd : nodeB y with
      | false =>
        rw [hnd] at P3'
        have hE := E3.out hv hnm hnd
        subst hE
        clear hv hnm hnd
        go_wp2_with fail
        refine (P3'.out).mono ?_
        rintro e w3 ⟨rfl, rfl⟩
        go_wp2_with fail
        go_ret2
        exact ToldV.none_ H2.out.bel
      | true =>
        rw [hnd] at P3'
        go_wp2_with fail
        refine (P3'.out).mono ?_
        rintro e w3 ⟨rfl, rfl⟩
        have P4' := Lib.hid (P4.out w2 H2.out.bel)
        clear P3'
        go_wp2_with fail
        refine (P4'.out).mono ?_
        rintro e w4 ⟨rfl, hB4⟩
        have H4 := Lib.hid (H2.out.below hB4)
        clear hB4 c0 c1 P4'
        obtain ⟨c0, c1⟩ := H4.out.cells
        cases hbb : b with
        | true =>
          have dz := P7.out (HB1.out hbb)
          have hE := E4.out hv hnm hnd (HB1.out hbb)
          subst hE
          clear hv hnm hnd hbb
          go_wp2_with fail
          go_ret2
          exact ToldV.none_ H4.out.bel
        | false =>
          have dz := P8.out (HB2.out hbb)
          by_cases h32 : 32 ≤ n
          · have d32 : decide ((32 : Int) ≤ (n : Int)) = true := by simp; omega
            have d32' : decide (32 ≤ n) = true := by simpa using h32
            have hE := E5.out hv hnm hnd (HB2.out hbb) h32
            subst hE
            clear hv hnm hnd hbb h32
            go_wp2_with fail
            go_ret2
            exact ToldV.none_ H4.out.bel
          · have d32 : decide ((32 : Int) ≤ (n : Int)) = false := by simp; omega
            have d32' : decide (32 ≤ n) = false := by simpa using h32
            have hE := E6.out hv hnm hnd (HB2.out hbb) h32
            subst hE
            have P6' := Lib.hid (P6.out hv (HB2.out hbb))
            have hlt4 := H4.out.lt
            have hlo := fun o => (World.cell?_alloc_lt w4.drew o ⟨g, 0, none⟩ hlt4).trans c0
            have hl1 := fun o => (World.cell?_alloc_lt w4.drew o ⟨g, 1, none⟩ hlt4).trans c1
            clear hv hnm hnd hbb h32 P6
            go_wp2_with fail
            go_region_law (first
              | (go_simp; go_at_call 58; refine (P5.out w4.drew H4.out.bel.drew).mono ?_; rintro e w5 ⟨A5, c5, rfl, ho5, hB5⟩; have H5 := Lib.hid (H4.out.below (below_undrew hB5)); obtain ⟨b0, b1⟩ := H5.out.cells; have HO5 := Lib.hid ho5; have HB5 := Lib.hid (below_undrew hB5); have HZ5 := Lib.hid (show w4.heap.size ≤ (w5.alloc (.cells #[.string (bs x), .int .i64 y] 56)).heap.size by have := (below_undrew hB5).size; simp; omega); clear ho5 hB5)
              | (refine step_app elem_ent rfl (.tmp 34) (.tmp 36) rfl w4.heap.size (.slice A5 n c5) n (erows l) rfl (World.ownsRow.alloc HO5.out _) (some ⟨_, 0, none⟩) 1 1 (entC (x, y)) rfl (sees_new _ _ _) rfl (one_entC _) (by omega) HZ5.out ?_; intro v6 w6 hown hgr _; obtain ⟨A6, c6, rfl, _, _⟩ := own_full hown; have HO6 := Lib.hid hown; have HB6 := Lib.hid ((HB5.out.alloc HB5.out.size _).own (World.ownsRow.alloc HO5.out _) hgr HZ5.out (Nat.le_refl _)); clear hown hgr)
              | (go_simp; go_at_call 58; refine (P5.out (w4.alloc (.cells #[.string (bs x), .int .i64 y] 56)).drew (H4.out.bel.alloc H4.out.bel.size _).drew).mono ?_; rintro e w5 ⟨A5, c5, rfl, ho5, hB5⟩; have HO5b := Lib.hid ho5; have HSeeb := Lib.hid ((sees_new w4 (entC (x, y)) 56).below (below_undrew hB5)); have HB5b := Lib.hid (((Below.refl w4.heap.size w4).alloc (Nat.le_refl _) (.cells #[.string (bs x), .int .i64 y] 56)).trans ((below_undrew hB5).mono (by simp))); have HZ5b := Lib.hid (show (w4.alloc (.cells #[.string (bs x), .int .i64 y] 56)).drew.heap.size ≤ w5.heap.size from hB5.size); clear ho5 hB5)
              | (refine step_app elem_ent rfl (.tmp 34) (.tmp 36) rfl (w4.alloc (.cells #[.string (bs x), .int .i64 y] 56)).drew.heap.size (.slice A5 n c5) n (erows l) rfl HO5b.out (some ⟨w4.heap.size, 0, none⟩) 1 1 (entC (x, y)) rfl HSeeb.out rfl (one_entC _) (by omega) HZ5b.out ?_; intro v6 w6 hown hgr _; obtain ⟨A6, c6, rfl, _, _⟩ := own_full hown; have HO6 := Lib.hid (own_mono hown (show w4.heap.size ≤ _ by simp)); have HB6 := Lib.hid (HB5b.out.own HO5b.out hgr HB5b.out.size (by simp)); clear hown hgr)
              | fail)
            all_goals
              rw [← E8.out] at HO6
              have P6'' := Lib.hid (P6'.out w4.heap.size A6 c6 w6 HB6.out.size HO6.out)
              clear P6' HO6
              go_wp2_with fail
              refine (P6''.out).mono ?_
              rintro e w7 ⟨rfl, hs7, hB7, hz7⟩
              have HS7 := Lib.hid hs7
              have HB7 := Lib.hid (H4.out.bel.trans ((HB6.out.trans hB7).mono H4.out.bel.size))
              clear hs7 hB7 hz7
              go_wp2_with fail
              go_ret2
              exact ⟨A6, c6, ret_slice2 E7.out.symm, HS7.out, HB7.out⟩
  · have dv : (V != 0) = true := by simpa using hv
    have hE := E1.out hv
    subst hE
    clear hv
    go_wp2_with fail
    go_ret2
    exact ToldV.none_ H1.out.bel
end Go.Proofs.YtjilejmchaejiaaDoor
