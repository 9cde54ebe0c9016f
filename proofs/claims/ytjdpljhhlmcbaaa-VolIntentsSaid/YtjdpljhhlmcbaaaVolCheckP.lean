/- The contract of vol.Check. Condition: keys are uint32, lengths within a slice's. -/
import Derived.Test.YtjdpljhhlmcbaaaVolMem
namespace Go.Cat.Vol
/-- A patch as it may come in. -/
structure PvK (p : Pv) : Prop where
  key0 : 0 ≤ p.key
  key1 : p.key ≤ 4294967295
  ver0 : 0 ≤ p.ver
  ver1 : p.ver ≤ 18446744073709551615
  len : p.b.length ≤ maxLen
theorem PvIn.k {p : Pv} (h : PvIn p) : PvK p := ⟨h.key0, by have := h.key1; omega, h.ver0, by have := h.ver1; omega, Nat.le_trans h.len (by unfold Go.maxLen; omega)⟩
end Go.Cat.Vol
namespace Go.Proofs.Ytjdpljhhlmcbaaa
open Go.RowKit Go.Cat Go.Cat.Vol

theorem kind0 (I B k : Int) : 0 ≤ kind I B k := by
  unfold kind
  split
  · omega
  · split
    · omega
    · split
      · omega
      · split <;> omega
/-- What a round of the check reads. -/
structure ChkR (H : Nat) (I B : Int) (w wr : World) : Prop where
  c0 : wr.cell? ⟨H, 0, none⟩ = some (.int .i64 I)
  c1 : wr.cell? ⟨H, 1, none⟩ = some (.int .i64 B)
  bel : Below H w wr
theorem ChkR.below {H : Nat} {I B : Int} {w wr w' : World} (h : ChkR H I B w wr) (hb : Below wr.heap.size wr w') : ChkR H I B w w' := by
  have g : H < wr.heap.size := World.block_lt_of_cell? _ _ h.c0
  exact ⟨(hb.cell (p := ⟨H, _, none⟩) g).trans h.c0, (hb.cell (p := ⟨H, _, none⟩) g).trans h.c1, h.bel.trans (hb.mono (Nat.le_of_lt g))⟩

set_option maxRecDepth 100000 in
set_option maxHeartbeats 2000000 in
theorem vcheck_any (I B : Int) (A : Option Addr) (rs : List Pr) (c : Nat) (w : World) (hs : Sees w A (prows rs)) (hin : ∀ r ∈ rs, PvK r.1) :
    Calls Try.prog 23 #[.agg #[.int .i64 I, .int .i64 B], .slice A rs.length c] w fun e w' => e = .returned (.int .i64 (checkV I B (rs.map (·.1)))) ∧ Below w.heap.size w w' := by
  obtain ⟨l, hl⟩ : ∃ l, l = rs.map (·.1) := ⟨_, rfl⟩
  rw [← hl]
  obtain ⟨n, hn⟩ : ∃ n, n = rs.length := ⟨_, rfl⟩
  have hll : l.length = n := by rw [hl, hn]; simp
  rw [← hn]
  have HL := Lib.hid hl
  have HN := Lib.hid hn
  have HLL := Lib.hid hll
  have HS := Lib.hid hs
  have HIn := Lib.hid hin
  clear hl hn hll hs hin
  by_cases hr : rightP I B
  · have HR := Lib.hid hr
    by_cases hbig : 20 < n
    · rw [check_full hr (by rw [HLL.out]; exact hbig)]
      have d1 : decide ((20 : Int) < (n : Int)) = true := by simp; omega
      have d1' : decide (20 < n) = true := by simpa using hbig
      clear hr
      go_enter Try.func23, Try.ntmps23
      go_wp2_with (go_at_call 9; refine (vright_yes _ HR.out).mono ?_; rintro e w1 ⟨rfl, hB1⟩; obtain ⟨c0, c1, hB2⟩ := boxed2 hB1)
      go_ret
      exact ⟨rfl, hB2⟩
    · have d1 : decide ((20 : Int) < (n : Int)) = false := by simp; omega
      have d1' : decide (20 < n) = false := by simpa using hbig
      have hbigl : ¬ 20 < l.length := by rw [HLL.out]; exact hbig
      obtain ⟨V, hV⟩ : ∃ V, V = checkV I B l := ⟨_, rfl⟩
      rw [← hV]
      have HV := Lib.hid hV
      have HBl := Lib.hid hbigl
      clear hr hV hbigl
      go_enter Try.func23, Try.ntmps23
      go_wp2_with (go_at_call 9; refine (vright_yes _ HR.out).mono ?_; rintro e w1 ⟨rfl, hB1⟩; obtain ⟨c0, c1, hB2⟩ := boxed2 hB1)
      have HC : Hid (ChkR w.heap.size I B w w1) := ⟨c0, c1, hB2⟩
      clear c0 c1 hB1 hB2
      go_loopw [19] (fun iv wr => ∃ k : Nat, k ≤ n ∧ iv = .int .i64 k ∧ Hid (Fine I B l k) ∧ Hid (ChkR w.heap.size I B w wr)) (fun iv _ => n - (intOf iv).toNat)
      case atStart => exact ⟨0, Nat.zero_le _, rfl, Fine.zero _ _ _, HC⟩
      case round =>
        clear HC
        obtain ⟨k, hk, rfl, HF, HC⟩ := hrel
        by_cases hlt : k < n
        · have hko : k < rs.length := by rw [← HN.out]; exact hlt
          obtain ⟨b, off, hAo, hbs, hc⟩ := HS.out.elem (f := pcells) (k := 3) (fun _ => rfl) (by omega) (by omega)
          obtain ⟨p, hp⟩ : ∃ p, p = rs[k] := ⟨_, rfl⟩
          have hin : PvK p.1 := HIn.out p (by rw [hp]; exact List.getElem_mem _)
          have hlk : l[k]? = some p.1 := by rw [HL.out, List.getElem?_map, List.getElem?_eq_getElem hko, hp]; rfl
          have bel := HC.out.bel
          have e0 := (bel.cell (p := ⟨b, _, none⟩) hbs).trans (hc k hko 0 (by omega))
          have e1 := (bel.cell (p := ⟨b, _, none⟩) hbs).trans (hc k hko 1 (by omega))
          have e2 := (bel.cell (p := ⟨b, _, none⟩) hbs).trans (hc k hko 2 (by omega))
          rw [← hp] at e0 e1 e2
          replace e0 : wr.cell? ⟨b, off + k * 3, none⟩ = some (.int .u32 p.1.key) := e0
          replace e1 : wr.cell? ⟨b, off + k * 3 + 1, none⟩ = some (.int .u64 p.1.ver) := by rw [Nat.add_assoc]; exact e1
          replace e2 : wr.cell? ⟨b, off + k * 3 + 2, none⟩ = some (.slice p.2.1 p.1.b.length p.2.2) := by rw [Nat.add_assoc]; exact e2
          have hprev : 0 < k → ∃ q : Pr, l[k - 1]? = some q.1 ∧ wr.cell? ⟨b, off + (k - 1) * 3, none⟩ = some (.int .u32 q.1.key) := fun h0 => by
            have hk1 : k - 1 < rs.length := by omega
            exact ⟨rs[k - 1], by rw [HL.out, List.getElem?_map, List.getElem?_eq_getElem hk1]; rfl, (bel.cell (p := ⟨b, _, none⟩) hbs).trans (hc (k - 1) hk1 0 (by omega))⟩
          have hpl : p.1.b.length ≤ maxLen := hin.len
          have hkind := fun W => vwhat_any I B p.1.key W hin.key0 hin.key1
          obtain ⟨K, hK⟩ : ∃ K, K = kind I B p.1.key := ⟨_, rfl⟩
          rw [← hK] at hkind
          have hK0 : 0 ≤ K := by
            rw [hK]; exact kind0 _ _ _
          have HKd := Lib.hid hkind
          have HKe := Lib.hid hK
          have HPrev := Lib.hid hprev
          have HLk := Lib.hid hlk
          have hkI : (k : Int) < (n : Int) := by omega
          have hk0 : (0 : Int) ≤ (k : Int) := by omega
          have HC1 : Hid (ChkR w.heap.size I B w (wr.alloc (.cells #[.int .u32 p.1.key, .int .u64 p.1.ver, .slice p.2.1 p.1.b.length p.2.2] 80))) := HC.out.below ((Below.refl _ _).alloc (Nat.le_refl _) _)
          have c0 := HC1.out.c0
          have c1 := HC1.out.c1
          have hbx := heap_alloc_new wr (.cells #[.int .u32 p.1.key, .int .u64 p.1.ver, .slice p.2.1 p.1.b.length p.2.2] 80)
          have HBx := Lib.hid hbx
          unfold maxLen at hpl
          rw [hAo]
          clear hp hc hin bel hAo hprev hlk hkind hK hbx hko
          by_cases t0 : K < 2
          · have hbd : V = 20 := by rw [HV.out]; exact check_bad HR.out HBl.out (by rw [HLL.out]; exact hlt) HF.out (bad_range HLk.out (by rw [← HKe.out]; exact t0)) (by decide)
            have HBd := Lib.hid hbd
            clear hbd
            by_cases t1 : K = 0
            · have q0 : (K == 0) = true := by simpa using t1
              clear t0 t1
              go_wp2_with (go_at_call 7; refine (HKd.out _).mono ?_; rintro e w2 ⟨rfl, h2⟩)
              rw [HBd.out]
              go_ret
              exact ⟨rfl, (HC1.out.below h2).bel⟩
            · have q0 : (K == 0) = false := by simpa using t1
              have q1 : (K == 1) = true := by simp; omega
              clear t0 t1
              go_wp2_with (go_at_call 7; refine (HKd.out _).mono ?_; rintro e w2 ⟨rfl, h2⟩)
              rw [HBd.out]
              go_ret
              exact ⟨rfl, (HC1.out.below h2).bel⟩
          · have q0 : (K == 0) = false := by simp; omega
            have q1 : (K == 1) = false := by simp; omega
            have HK2 : Hid (¬ kind I B p.1.key < 2) := by show ¬ _; rw [← HKe.out]; exact t0
            clear t0 hK0
            have next : ∀ w2, Below (wr.alloc (.cells #[.int .u32 p.1.key, .int .u64 p.1.ver, .slice p.2.1 p.1.b.length p.2.2] 80)).heap.size (wr.alloc (.cells #[.int .u32 p.1.key, .int .u64 p.1.ver, .slice p.2.1 p.1.b.length p.2.2] 80)) w2 →
                w2.cell? ⟨wr.heap.size, 0, none⟩ = some (.int .u32 p.1.key) ∧ w2.cell? ⟨wr.heap.size, 2, none⟩ = some (.slice p.2.1 p.1.b.length p.2.2) ∧ Hid (ChkR w.heap.size I B w w2) ∧ (∀ x, b < wr.heap.size → w2.cell? ⟨b, x, none⟩ = wr.cell? ⟨b, x, none⟩) := fun w2 h2 => by
              have h := (h2.block wr.heap.size (by simp)).trans HBx.out
              exact ⟨cell_of_row w2 _ 0 _ _ _ h, cell_of_row w2 _ 2 _ _ _ h, HC1.out.below h2, fun x hx => (h2.cell (p := ⟨b, x, none⟩) (by simp; omega)).trans (World.cell?_alloc_lt _ _ _ hx)⟩
            have HNext := Lib.hid next
            have hbr : b < wr.heap.size := World.block_lt_of_cell? _ _ e0
            clear next
            by_cases hk1 : 0 < k
            · obtain ⟨q, hq1, hq2⟩ := HPrev.out hk1
              have HQ1 := Lib.hid hq1
              have g1 : decide (0 < k) = true := by simpa using hk1
              have g1' : decide ((0 : Int) < (k : Int)) = true := by simpa using hk1
              have hkm : (1 : Int) ≤ (k : Int) := by omega
              clear hq1
              by_cases hle : p.1.key ≤ q.1.key
              · have g2 : decide (p.1.key ≤ q.1.key) = true := by simpa using hle
                have hbd : V = 4 := by rw [HV.out]; exact check_bad HR.out HBl.out (by rw [HLL.out]; exact hlt) HF.out (bad_form HLk.out HK2.out hk1 HQ1.out hle) (by decide)
                have HBd := Lib.hid hbd
                clear hbd hle
                go_wp2_with (go_at_call 7; refine (HKd.out _).mono ?_; rintro e w2 ⟨rfl, h2⟩; obtain ⟨x0, x2, HC2, hold⟩ := HNext.out w2 h2; have y0 := (hold _ hbr).trans hq2; clear hold h2)
                go_quiet (fail)
                go_wp2
                rw [HBd.out]
                go_ret
                exact ⟨rfl, below_drewN HC2.out.bel _⟩
              · have g2 : decide (p.1.key ≤ q.1.key) = false := by simpa using hle
                have HLt : Hid (0 < k → ∀ q, l[k - 1]? = some q → q.key < p.1.key) := fun _ q' hq' => by
                  have := HQ1.out.symm.trans hq'
                  injection this with this
                  rw [← this]; omega
                clear hle
                by_cases hlg : 64 < p.1.b.length
                · have g3 : decide ((64 : Int) < (p.1.b.length : Int)) = true := by simp; omega
                  have g3' : decide (64 < p.1.b.length) = true := by simpa using hlg
                  have hbd : V = 6 := by rw [HV.out]; exact check_bad HR.out HBl.out (by rw [HLL.out]; exact hlt) HF.out (bad_long HLk.out HK2.out HLt.out hlg) (by decide)
                  have HBd := Lib.hid hbd
                  clear hbd hlg
                  go_wp2_with (go_at_call 7; refine (HKd.out _).mono ?_; rintro e w2 ⟨rfl, h2⟩; obtain ⟨x0, x2, HC2, hold⟩ := HNext.out w2 h2; have y0 := (hold _ hbr).trans hq2; clear hold h2)
                  go_quiet (fail)
                  go_wp2
                  rw [HBd.out]
                  go_ret
                  exact ⟨rfl, below_drewN HC2.out.bel _⟩
                · have g3 : decide ((64 : Int) < (p.1.b.length : Int)) = false := by simp; omega
                  have g3' : decide (64 < p.1.b.length) = false := by simpa using hlg
                  have HFn : Hid (Fine I B l (k + 1)) := HF.out.succ (bad_not HLk.out HK2.out HLt.out hlg)
                  clear hlg
                  go_wp2_with (go_at_call 7; refine (HKd.out _).mono ?_; rintro e w2 ⟨rfl, h2⟩; obtain ⟨x0, x2, HC2, hold⟩ := HNext.out w2 h2; have y0 := (hold _ hbr).trans hq2; clear hold h2)
                  go_quiet (fail)
                  go_wp2
                  go_roundw
                  case rel => exact ⟨k + 1, by omega, by go_num, HFn, HC2.out.below (below_drewN (Below.refl _ _) _)⟩
                  case measure => simp [intOf]; omega
            · have g1 : decide (0 < k) = false := by simpa using hk1
              have g1' : decide ((0 : Int) < (k : Int)) = false := by simp; omega
              have HLt : Hid (0 < k → ∀ q, l[k - 1]? = some q → q.key < p.1.key) := fun h => absurd h hk1
              clear hk1
              by_cases hlg : 64 < p.1.b.length
              · have g3 : decide ((64 : Int) < (p.1.b.length : Int)) = true := by simp; omega
                have g3' : decide (64 < p.1.b.length) = true := by simpa using hlg
                have hbd : V = 6 := by rw [HV.out]; exact check_bad HR.out HBl.out (by rw [HLL.out]; exact hlt) HF.out (bad_long HLk.out HK2.out HLt.out hlg) (by decide)
                have HBd := Lib.hid hbd
                clear hbd hlg
                go_wp2_with (go_at_call 7; refine (HKd.out _).mono ?_; rintro e w2 ⟨rfl, h2⟩; obtain ⟨x0, x2, HC2, hold⟩ := HNext.out w2 h2; clear hold h2)
                go_quiet (fail)
                go_wp2
                rw [HBd.out]
                go_ret
                exact ⟨rfl, below_drewN HC2.out.bel _⟩
              · have g3 : decide ((64 : Int) < (p.1.b.length : Int)) = false := by simp; omega
                have g3' : decide (64 < p.1.b.length) = false := by simpa using hlg
                have HFn : Hid (Fine I B l (k + 1)) := HF.out.succ (bad_not HLk.out HK2.out HLt.out hlg)
                clear hlg
                go_wp2_with (go_at_call 7; refine (HKd.out _).mono ?_; rintro e w2 ⟨rfl, h2⟩; obtain ⟨x0, x2, HC2, hold⟩ := HNext.out w2 h2; clear hold h2)
                go_quiet (fail)
                go_wp2
                go_roundw
                case rel => exact ⟨k + 1, by omega, by go_num, HFn, HC2.out.below (below_drewN (Below.refl _ _) _)⟩
                case measure => simp [intOf]; omega
        · obtain rfl : k = n := by omega
          have hbd : V = 0 := by rw [HV.out]; exact check_fine HR.out HBl.out (by rw [HLL.out]; exact HF.out)
          have HBd := Lib.hid hbd
          clear hbd
          go_wp2
          rw [HBd.out]
          go_ret
          exact ⟨rfl, HC.out.bel⟩
  · rw [check_no hr]
    have HR := Lib.hid hr
    clear hr
    go_enter Try.func23, Try.ntmps23
    go_wp2_with (go_at_call 9; refine (vright_not _ HR.out).mono ?_; rintro e w1 ⟨rfl, hB1⟩; obtain ⟨c0, c1, hB2⟩ := boxed2 hB1)
    go_ret
    exact ⟨rfl, hB2⟩
end Go.Proofs.Ytjdpljhhlmcbaaa
