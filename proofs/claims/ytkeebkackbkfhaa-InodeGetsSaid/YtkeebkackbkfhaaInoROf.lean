/- The contract of the reference's Of. Condition: at most 1000000 blocks, each an int. -/
import Derived.Test.YtkeebkackbkfhaaInoTold
import Derived.Test.YtkeebkackbkfhaaInoExtW
import Derived.Deep.RegionWith
import Derived.Deep.DeepCutAuto
namespace Go.Proofs.Ytkeebkackbkfhaa
open Go.RowKit Go.Shelf Go.Cat Go.Cat.Ino

theorem info_rext : (Try.prog.info? 64).map (fun i => (i.zero, i.size, i.bytes)) = some (some (.agg #[.int .i64 0, .int .i64 0]), 2, 16) := by kernel_rfl
theorem elem_rext : Elem Try.prog 30 64 (.agg #[.int .i64 0, .int .i64 0]) 2 16 := ⟨Try.underlying30, info_rext, rfl, by decide, by decide⟩

theorem rof_bad (mode size : Int) (V : Value) (w : World) (h : mode ≠ 1 ∧ mode ≠ 2) :
    Calls Try.prog 10 #[.int .i64 mode, .int .i64 size, V] w fun e w' => e = .returned (.tuple #[iv 0 0 none 0 0, .int .i64 1]) ∧ Below w.heap.size w w' := by
  have d1 : (mode != 1) = true := by simpa using h.1
  have d2 : (mode != 2) = true := by simpa using h.2
  clear h
  go_enter Try.func10, Try.ntmps10
  go_wp2_with fail
  refine bodyPost_ret (ret_rii rfl (by rfl) (heap_alloc_new _ _)) rfl ?_
  exact ⟨rfl, (Below.refl _ _).alloc (Nat.le_refl _) _⟩

set_option maxRecDepth 100000 in
set_option maxHeartbeats 8000000 in
theorem rof_good (mode size : Int) (A : Option Addr) (zs : List Int) (c : Nat) (w : World) (hmo : mode = 1 ∨ mode = 2) (hb : Ints w A zs) (hz : ∀ z ∈ zs, -9223372036854775808 ≤ z ∧ z ≤ 9223372036854775807) (hl : zs.length ≤ 1000000) :
    Calls Try.prog 10 #[.int .i64 mode, .int .i64 size, .slice A zs.length c] w (ToldW (ofV mode size zs).1 (ofV mode size zs).2 w) := by
  obtain ⟨n, hn⟩ : ∃ n, n = zs.length := ⟨_, rfl⟩
  obtain ⟨V, hV⟩ : ∃ V, V = checkI mode size (exts zs) := ⟨_, rfl⟩
  have hle : (exts zs).length ≤ 1000000 := Nat.le_trans (exts_ok hz).len hl
  have p2 := fun A c W (h : Sees W A (erows (exts zs))) => richeck_any mode size A (exts zs) c W h (exts_in hz) hle
  rw [← hV] at p2
  have herr : V ≠ 0 → ofV mode size zs = ((0, 0, []), V) := fun h => by rw [hV] at h ⊢; exact ofV_err hmo h
  have hok : V = 0 → ofV mode size zs = ((mode, size, exts zs), 0) := fun h => by rw [hV] at h; exact ofV_ok hmo h
  have hex := extTo_ok hz
  rw [← hn] at hl hex ⊢
  have P2 := Lib.hid p2
  have HN := Lib.hid hn
  have HErr := Lib.hid herr
  have HOk := Lib.hid hok
  have HEx := Lib.hid hex
  have HI := Lib.hid hb
  clear hn hV hle p2 herr hok hb hz hex
  go_enter Try.func10, Try.ntmps10
  have hd : (mode != 1) = false ∨ ((mode != 1) = true ∧ (mode != 2) = false) := by
    rcases hmo with rfl | rfl
    · exact .inl rfl
    · exact .inr ⟨rfl, rfl⟩
  clear hmo
  rcases hd with d1 | ⟨d1, d2⟩
  all_goals
    go_wp2_with fail
    go_loopw [9] (fun iv' wr => ∃ (k m : Nat) (A2 : Option Addr) (c2 : Nat), k ≤ n ∧ iv' = .int .i64 k ∧ Hid ((extTo zs k).length = m) ∧ Hid (OfS w 32 64 mode size A2 m c2 (extTo zs k) wr)) (fun iv' _ => n - (intOf iv').toNat)
    case atStart => exact ⟨0, 0, none, 0, Nat.zero_le _, rfl, rfl, OfS.new _ _ _ _ _⟩
    case round =>
      obtain ⟨k, m, A2, c2, hk, rfl, HM, HS⟩ := hrel
      have x2 := cell_of_row wr _ 2 _ _ _ HS.out.xx
      have fx := frozen_of_row wr _ 2 _ _ HS.out.xx
      simp at x2
      have hsz := HS.out.lt
      have hxl : w.heap.size + 1 < wr.heap.size := by omega
      by_cases hlt : k < n
      · have t1 : decide ((k : Int) < (n : Int)) = true := by simp; omega
        have hkz : k < zs.length := by rw [← HN.out]; exact hlt
        obtain ⟨b, off, rfl, hbl, hc⟩ := HI.out.at_ (by omega)
        have e0 := (HS.out.bel.cell (p := ⟨b, off + k, none⟩) hbl).trans (hc k hkz)
        obtain ⟨y, hy⟩ : ∃ y, y = zs.getD k 0 := ⟨_, rfl⟩
        have hyk : y = zs[k] := by rw [hy]; simp [List.getD_eq_getElem?_getD, hkz]
        rw [← hy] at e0
        have hsucc := extTo_succ hkz
        rw [← hyk] at hsucc
        have hexk := HEx.out k (by omega)
        have hmk : m ≤ k := by have := hexk.len; rw [List.length_take] at this; have := HM.out; omega
        have hkI : (k : Int) < (n : Int) := by omega
        have hk0 : (0 : Int) ≤ (k : Int) := by omega
        obtain ⟨acc, hacc⟩ : ∃ acc, acc = extTo zs k := ⟨_, rfl⟩
        have hmm := HM.out
        have hss := HS.out
        rw [← hacc] at hsucc hmm hss hexk
        have HSucc := Lib.hid hsucc
        have HM' := Lib.hid hmm
        have HS' := Lib.hid hss
        have app : ¬ goesOn acc y → ∀ W1 A4 c4 w2, OfS w 32 64 mode size A2 m c2 acc W1 → w2.ownsRow (w.heap.size + 2) 64 2 (.slice A4 (m + 1) c4) (m + 1) (erows acc ++ ecells (y, 1)) → W1.grownBy w2 (Value.slice A2 m c2).ownBlock →
            Hid ((extTo zs (k + 1)).length = m + 1) ∧ Hid (OfS w 32 64 mode size A4 (m + 1) c4 (extTo zs (k + 1)) (w2.setCell ⟨w.heap.size + 1, 2, none⟩ (.slice A4 (m + 1) c4))) ∧ w2.cell? ⟨w.heap.size + 1, 2, none⟩ = some (.slice A2 m c2) ∧ w2.frozen? ⟨w.heap.size + 1, 2, none⟩ = false ∧ w.heap.size + 1 < w2.heap.size := fun hg W1 A4 c4 w2 h1 h2 h3 => by
          have e1 : extTo zs (k + 1) = acc ++ [(y, 1)] := by rw [HSucc.out, step_not hg]
          obtain ⟨f1, f2, f3, f4⟩ := h1.apped h2 h3
          refine ⟨?_, ?_, f2, f3, f4⟩
          · show _ = _; rw [e1, List.length_append, HM'.out]; rfl
          · show OfS _ _ _ _ _ _ _ _ _ _; rw [e1]; exact f1
        have HApp := Lib.hid app
        have hO1 := fun wq (h : OfS w 32 64 mode size A2 m c2 acc wq) => (h.below (((Below.refl wq.heap.size wq).drew).alloc (Nat.le_refl _) (.cells #[.int .i64 y, .int .i64 1] 64)))
        have HO1 := Lib.hid hO1
        have hsz2 : ∀ wq : World, w.heap.size + 1 < wq.heap.size → w.heap.size + 2 ≤ (wq.drew.alloc (.cells #[.int .i64 y, .int .i64 1] 64)).heap.size := fun wq h => by simp; omega
        have HSz2 := Lib.hid hsz2
        clear app hO1 hsz2 hmm hss hsucc HS HM
        by_cases hk1 : 0 < k
        · have hkp : k - 1 < zs.length := by omega
          have e1 := (HS'.out.bel.cell (p := ⟨b, off + (k - 1), none⟩) hbl).trans (hc (k - 1) hkp)
          obtain ⟨u, hu⟩ : ∃ u, u = zs.getD (k - 1) 0 := ⟨_, rfl⟩
          rw [← hu] at e1
          have hne' : zs.take k ≠ [] := by
            have h2 : (zs.take k).length = k := by rw [List.length_take]; omega
            intro e
            rw [e] at h2
            simp at h2
            omega
          have hne : acc ≠ [] := fun e => hne' ((ok_nil hexk).1 e)
          have hnl := next_last hexk hne hne'
          have hgl : (zs.take k).getLast hne' = u := by
            rw [List.getLast_eq_getElem, List.getElem_take, hu]
            simp [List.getD_eq_getElem?_getD, List.length_take, Nat.min_eq_left (Nat.le_of_lt hkz), hkp]
          rw [hgl] at hnl
          have hlr := hexk.right _ (List.mem_of_getElem? (last_at hne))
          have hm0 : 0 < m := by rw [← HM'.out]; exact List.length_pos_iff.2 hne
          obtain ⟨g, rfl, l0, l1, fr⟩ := own_last HS'.out.own HM'.out hm0
          obtain ⟨l, hll⟩ : ∃ l, l = (lastE acc).2 := ⟨_, rfl⟩
          have hl1 : 1 ≤ l := by rw [hll]; exact hlr.1
          have hl8 : l ≤ 8 := by rw [hll]; exact hlr.2
          rw [← hll] at l1
          have hmm1 : (1 : Int) ≤ (m : Int) := by omega
          have hkk1 : (1 : Int) ≤ (k : Int) := by omega
          have hgo : goesOn acc y ↔ y = wrap64 (u + 1) ∧ l < 8 := by
            unfold goesOn; rw [hnl, ← hll]; exact ⟨fun h => h.2, fun h => ⟨hne, h⟩⟩
          have HGo := Lib.hid hgo
          have HL := Lib.hid hll
          have HNe := Lib.hid hne
          have g1 : decide (0 < k) = true := by simpa using hk1
          have g1' : decide ((0 : Int) < (k : Int)) = true := by simpa using hk1
          clear hll hlr hne hne' hgo hexk hnl hgl hu hc hy hyk hkz hkp hacc l0
          by_cases hy : y = wrap64 (u + 1)
          · have t2 : (y == wrap64 (u + 1)) = true := by simpa using hy
            by_cases h8 : l < 8
            · have t3 : decide (l < 8) = true := by simpa using h8
              have hg := HGo.out.2 ⟨hy, h8⟩
              have hfin : ∀ W1, OfS w 32 64 mode size (some ⟨g, 0, none⟩) m c2 acc W1 → Hid ((extTo zs (k + 1)).length = m) ∧ Hid (OfS w 32 64 mode size (some ⟨g, 0, none⟩) m c2 (extTo zs (k + 1)) (W1.setCell ⟨g, (m - 1) * 2 + 1, none⟩ (.int .i64 (l + 1)))) := fun W1 h1 => by
                have e1 : extTo zs (k + 1) = bump acc := by rw [HSucc.out, step_yes hg]
                have := h1.bumped HNe.out HM'.out
                refine ⟨?_, ?_⟩
                · show _ = _; rw [e1, bump_length HNe.out]; exact HM'.out
                · show OfS _ _ _ _ _ _ _ _ _ _; rw [e1, HL.out]; exact this
              have HFin := Lib.hid hfin
              clear hy hg hfin
              go_wp2_with fail
              go_quiet (fail)
              obtain ⟨wq, hwq⟩ : ∃ wq, wq = wr.drewN nq := ⟨_, rfl⟩
              have hbq : Below wr.heap.size wr wq := by rw [hwq]; exact below_drewN (Below.refl _ _) _
              have HSq := Lib.hid (HS'.out.below hbq)
              have q2 := cell_of_row wq _ 2 _ _ _ HSq.out.xx
              have qf := frozen_of_row wq _ 2 _ _ HSq.out.xx
              simp at q2
              have qX : w.heap.size + 1 < wq.heap.size := by have := HSq.out.lt; omega
              have qb : b < wq.heap.size := Nat.lt_of_lt_of_le hbl (HSq.out.bel.size)
              have qe := (hbq.cell (p := ⟨b, off + k, none⟩) (Nat.lt_of_lt_of_le hbl HS'.out.bel.size)).trans e0
              have ql := (hbq.cell (p := ⟨g, (m - 1) * 2 + 1, none⟩) (World.block_lt_of_cell? _ _ l1)).trans l1
              have qfr : wq.frozen? ⟨g, (m - 1) * 2 + 1, none⟩ = false := HSq.out.own.frozenAt _
              rw [← hwq]
              clear hwq hbq x2 fx
              go_wp2_with fail
              have i1 : (0 : Int) ≤ (m : Int) - 1 := by omega
              have i2 : (m : Int) - 1 < (m : Int) := by omega
              have i3 : ((m : Int) - 1).toNat = m - 1 := by omega
              have i4 : IntKind.i64.wrap ((m : Int) - 1) = (m : Int) - 1 := IntWalk.i64_in _ (by omega)
              have i5 : IntKind.i64.wrap (l + 1) = l + 1 := IntWalk.i64_in _ (by omega)
              first | go_region_law (fail) | go_region_with (fail)
              all_goals
                go_wp2_with fail
                go_roundw
                case rel => exact ⟨k + 1, m, some ⟨g, 0, none⟩, c2, by omega, by go_num, (HFin.out _ HS'.out).1, (HFin.out _ (HSq.out.below (Below.refl _ _).drew)).2⟩
                case measure => simp [intOf]; omega
            · have t3 : decide (l < 8) = false := by simpa using h8
              have hg : ¬ goesOn acc y := fun h => h8 (HGo.out.1 h).2
              have HG := Lib.hid (HApp.out hg)
              clear hy hg
              go_wp2_with fail
              go_quiet (fail)
              obtain ⟨wq, hwq⟩ : ∃ wq, wq = wr.drewN nq := ⟨_, rfl⟩
              have hbq : Below wr.heap.size wr wq := by rw [hwq]; exact below_drewN (Below.refl _ _) _
              have HSq := Lib.hid (HS'.out.below hbq)
              have q2 := cell_of_row wq _ 2 _ _ _ HSq.out.xx
              have qf := frozen_of_row wq _ 2 _ _ HSq.out.xx
              simp at q2
              have qX : w.heap.size + 1 < wq.heap.size := by have := HSq.out.lt; omega
              have qb : b < wq.heap.size := Nat.lt_of_lt_of_le hbl (HSq.out.bel.size)
              have qe := (hbq.cell (p := ⟨b, off + k, none⟩) (Nat.lt_of_lt_of_le hbl HS'.out.bel.size)).trans e0
              have q3 := fun o => (World.cell?_alloc_lt wq o ⟨w.heap.size + 1, 2, none⟩ qX).trans q2
              have q4 := fun o => (World.cell?_alloc_lt wq.drew o ⟨w.heap.size + 1, 2, none⟩ qX).trans q2
              rw [← hwq]
              clear hwq hbq x2 fx
              go_wp2_with fail
              go_region_law (refine step_app elem_rext rfl (.tmp 71) (.tmp 77) rfl (w.heap.size + 2) (.slice (some ⟨g, 0, none⟩) m c2) m (erows acc) rfl (World.ownsRow.alloc HSq.out.own _) (some ⟨_, 0, none⟩) 1 1 (ecells (y, 1)) rfl (sees_new _ _ _) rfl (one_ecells _) (by omega) (HSz2.out _ qX) ?_; intro v2 w2 hown hgr _; obtain ⟨A4, c4, rfl, _, _⟩ := own_full hown; obtain ⟨F1, F2, F3, F4, F5⟩ := HG.out _ A4 c4 w2 (HO1.out _ HSq.out) hown hgr)
              all_goals
                go_wp2_with fail
                go_roundw
                case rel => exact ⟨k + 1, m + 1, A4, c4, by omega, by go_num, F1, F2⟩
                case measure => simp [intOf]; omega
          · have t2 : (y == wrap64 (u + 1)) = false := by simpa using hy
            have hg : ¬ goesOn acc y := fun h => hy (HGo.out.1 h).1
            have HG := Lib.hid (HApp.out hg)
            clear hy hg
            go_wp2_with fail
            go_quiet (fail)
            obtain ⟨wq, hwq⟩ : ∃ wq, wq = wr.drewN nq := ⟨_, rfl⟩
            have hbq : Below wr.heap.size wr wq := by rw [hwq]; exact below_drewN (Below.refl _ _) _
            have HSq := Lib.hid (HS'.out.below hbq)
            have q2 := cell_of_row wq _ 2 _ _ _ HSq.out.xx
            have qf := frozen_of_row wq _ 2 _ _ HSq.out.xx
            simp at q2
            have qX : w.heap.size + 1 < wq.heap.size := by have := HSq.out.lt; omega
            have qb : b < wq.heap.size := Nat.lt_of_lt_of_le hbl (HSq.out.bel.size)
            have qe := (hbq.cell (p := ⟨b, off + k, none⟩) (Nat.lt_of_lt_of_le hbl HS'.out.bel.size)).trans e0
            have q3 := fun o => (World.cell?_alloc_lt wq o ⟨w.heap.size + 1, 2, none⟩ qX).trans q2
            have q4 := fun o => (World.cell?_alloc_lt wq.drew o ⟨w.heap.size + 1, 2, none⟩ qX).trans q2
            rw [← hwq]
            clear hwq hbq x2 fx
            go_wp2_with fail
            go_region_law (refine step_app elem_rext rfl (.tmp 71) (.tmp 77) rfl (w.heap.size + 2) (.slice (some ⟨g, 0, none⟩) m c2) m (erows acc) rfl (World.ownsRow.alloc HSq.out.own _) (some ⟨_, 0, none⟩) 1 1 (ecells (y, 1)) rfl (sees_new _ _ _) rfl (one_ecells _) (by omega) (HSz2.out _ qX) ?_; intro v2 w2 hown hgr _; obtain ⟨A4, c4, rfl, _, _⟩ := own_full hown; obtain ⟨F1, F2, F3, F4, F5⟩ := HG.out _ A4 c4 w2 (HO1.out _ HSq.out) hown hgr)
            all_goals
              go_wp2_with fail
              go_roundw
              case rel => exact ⟨k + 1, m + 1, A4, c4, by omega, by go_num, F1, F2⟩
              case measure => simp [intOf]; omega
        · obtain rfl : k = 0 := by omega
          have g1 : decide (0 < 0) = false := by simp
          have e9 : wr.cell? ⟨b, off, none⟩ = some (.int .i64 y) := e0
          have hg : ¬ goesOn acc y := fun h => h.1 ((ok_nil hexk).2 (by simp))
          have HG := Lib.hid (HApp.out hg)
          clear hg hexk hc hy hyk hkz hacc
          go_wp2_with fail
          go_quiet (fail)
          obtain ⟨wq, hwq⟩ : ∃ wq, wq = wr.drewN nq := ⟨_, rfl⟩
          have hbq : Below wr.heap.size wr wq := by rw [hwq]; exact below_drewN (Below.refl _ _) _
          have HSq := Lib.hid (HS'.out.below hbq)
          have q2 := cell_of_row wq _ 2 _ _ _ HSq.out.xx
          have qf := frozen_of_row wq _ 2 _ _ HSq.out.xx
          simp at q2
          have qX : w.heap.size + 1 < wq.heap.size := by have := HSq.out.lt; omega
          have qb : b < wq.heap.size := Nat.lt_of_lt_of_le hbl (HSq.out.bel.size)
          have qe : wq.cell? ⟨b, off, none⟩ = some (.int .i64 y) := (hbq.cell (p := ⟨b, off, none⟩) (Nat.lt_of_lt_of_le hbl HS'.out.bel.size)).trans e0
          have q3 := fun o => (World.cell?_alloc_lt wq o ⟨w.heap.size + 1, 2, none⟩ qX).trans q2
          have q4 := fun o => (World.cell?_alloc_lt wq.drew o ⟨w.heap.size + 1, 2, none⟩ qX).trans q2
          rw [← hwq]
          clear hwq hbq x2 fx
          go_wp2_with fail
          go_region_law (refine step_app elem_rext rfl (.tmp 71) (.tmp 77) rfl (w.heap.size + 2) (.slice A2 m c2) m (erows acc) rfl (World.ownsRow.alloc HSq.out.own _) (some ⟨_, 0, none⟩) 1 1 (ecells (y, 1)) rfl (sees_new _ _ _) rfl (one_ecells _) (by omega) (HSz2.out _ qX) ?_; intro v2 w2 hown hgr _; obtain ⟨A4, c4, rfl, _, _⟩ := own_full hown; obtain ⟨F1, F2, F3, F4, F5⟩ := HG.out _ A4 c4 w2 (HO1.out _ HSq.out) hown hgr)
          all_goals
            go_wp2_with fail
            go_roundw
            case rel => exact ⟨0 + 1, m + 1, A4, c4, by omega, by go_num, F1, F2⟩
            case measure => simp [intOf]; omega
      · obtain rfl : k = n := by omega
        have t1 : decide ((k : Int) < (k : Int)) = false := by simp
        have hall : extTo zs k = exts zs := by rw [HN.out]; exact extTo_all zs
        have hlen := HM.out
        rw [hall] at hlen HS
        have hp3 := fun W (h : Sees W A2 (erows (exts zs))) => P2.out A2 c2 W h
        rw [hlen] at hp3
        have P3 := Lib.hid hp3
        have x0 := cell_of_row wr _ 0 _ _ _ HS.out.xx
        have x1 := cell_of_row wr _ 1 _ _ _ HS.out.xx
        simp at x0 x1
        clear hall hp3 HM
        go_wp2_with fail
        refine (P3.out _ (ownN_sees HS.out.own)).mono ?_
        rintro e w4 ⟨rfl, hb4⟩
        have hs4 := HS.out.below hb4
        have m0 := cell_of_row w4 _ 0 _ _ _ hs4.xx
        have m1 := cell_of_row w4 _ 1 _ _ _ hs4.xx
        have m2 := cell_of_row w4 _ 2 _ _ _ hs4.xx
        have r0 := cell_of_row w4 _ 0 _ _ _ hs4.rr
        have r1 := cell_of_row w4 _ 1 _ _ _ hs4.rr
        have r2 := cell_of_row w4 _ 2 _ _ _ hs4.rr
        have g0 := frozen_of_row w4 _ 0 _ _ hs4.rr
        have g1 := frozen_of_row w4 _ 1 _ _ hs4.rr
        have g2 := frozen_of_row w4 _ 2 _ _ hs4.rr
        simp at m0 m1 m2 r0 r1 r2
        have HS4 := Lib.hid hs4
        have HLen := Lib.hid hlen
        clear hs4 hb4 hlen x0 x1 x2 fx HS P2 P3
        by_cases hv : V = 0
        · have d : (V != 0) = false := by simpa using hv
          have HE := Lib.hid (HOk.out hv)
          subst hv
          go_wp2_with fail
          refine bodyPost_ret (ret_rii rfl (by rfl) (set3_block _ _ _ HS4.out.rr)) rfl ?_
          rw [HE.out]
          exact ⟨A2, c2, by rw [HLen.out]; rfl, ownN_sees (own_set3 HS4.out.own (by omega) _ _ _), fun a ha => by have := own_addr HS4.out.own a ha; omega, below_set3 HS4.out.bel (Nat.le_refl _) _ _ _⟩
        · have d : (V != 0) = true := by simpa using hv
          have HE := Lib.hid (HErr.out hv)
          clear hv
          go_wp2_with fail
          refine bodyPost_ret (ret_rii rfl (by rfl) (set3_block _ _ _ HS4.out.rr)) rfl ?_
          rw [HE.out]
          exact ToldW.none_ _ (below_set3 HS4.out.bel (Nat.le_refl _) _ _ _)

theorem rof_new (mode size : Int) (A : Option Addr) (zs : List Int) (c : Nat) (w : World) (hb : Ints w A zs) (hz : ∀ z ∈ zs, -9223372036854775808 ≤ z ∧ z ≤ 9223372036854775807) (hl : zs.length ≤ 1000000) :
    Calls Try.prog 10 #[.int .i64 mode, .int .i64 size, .slice A zs.length c] w (ToldW (ofV mode size zs).1 (ofV mode size zs).2 w) := by
  by_cases h : mode ≠ 1 ∧ mode ≠ 2
  · rw [ofV_mode h]
    exact (rof_bad mode size _ w h).mono fun e w' ⟨h1, h2⟩ => by rw [h1]; exact ToldW.none_ 1 h2
  · exact rof_good mode size A zs c w (by omega) hb hz hl
theorem rof_any (mode size : Int) (A : Option Addr) (zs : List Int) (c : Nat) (w : World) (hb : Ints w A zs) (hz : ∀ z ∈ zs, -9223372036854775808 ≤ z ∧ z ≤ 9223372036854775807) (hl : zs.length ≤ 1000000) :
    Calls Try.prog 10 #[.int .i64 mode, .int .i64 size, .slice A zs.length c] w (ToldI (ofV mode size zs).1 (ofV mode size zs).2 w) :=
  (rof_new mode size A zs c w hb hz hl).mono fun _ _ h => h.told
end Go.Proofs.Ytkeebkackbkfhaa
