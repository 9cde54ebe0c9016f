/- The contract of inode.extents. Condition: at most 1000000 blocks, each an int. -/
import Derived.Test.YtkeebkackbkfhaaInoExts
import Derived.Test.YtkeebkackbkfhaaElem
import Derived.Deep.DeepCutAuto
namespace Go.Proofs.Ytkeebkackbkfhaa
open Go.RowKit Go.Cat Go.Cat.Ino

theorem info_ext : (Try.prog.info? 70).map (fun i => (i.zero, i.size, i.bytes)) = some (some (.agg #[.int .i64 0, .int .i64 0]), 2, 16) := by kernel_rfl
theorem elem_ext : Elem Try.prog 24 70 (.agg #[.int .i64 0, .int .i64 0]) 2 16 := ⟨Try.underlying24, info_ext, rfl, by decide, by decide⟩

/-- A row of extents of one's own, opened at its last one. -/
theorem own_last {w : World} {base : Nat} {t : TypeId} {A : Option Addr} {c m : Nat} {acc : List Ext} (h : w.ownsRow base t 2 (.slice A m c) m (erows acc)) (hm : acc.length = m) (hp : 0 < m) :
    ∃ g, A = some ⟨g, 0, none⟩ ∧ w.cell? ⟨g, (m - 1) * 2, none⟩ = some (.int .i64 (lastE acc).1) ∧ w.cell? ⟨g, (m - 1) * 2 + 1, none⟩ = some (.int .i64 (lastE acc).2) ∧ w.frozen? ⟨g, (m - 1) * 2 + 1, none⟩ = false := by
  have hne : acc ≠ [] := by intro e; rw [e] at hm; simp at hm; omega
  have hl := last_at hne
  rw [hm] at hl
  rcases h.2 with ⟨_, h0⟩ | ⟨g, cap, cur, hv, _⟩
  · omega
  · injection hv with hA _ hc
    subst hA hc
    have hk : m - 1 < acc.length := by omega
    have e : acc[m - 1] = lastE acc := by rw [List.getElem?_eq_getElem hk] at hl; injection hl
    have f0 := flat_at (f := ecells) (k := 2) (fun _ => rfl) hk (show 0 < 2 by omega)
    have f1 := flat_at (f := ecells) (k := 2) (fun _ => rfl) hk (show 1 < 2 by omega)
    rw [e] at f0 f1
    refine ⟨g, rfl, ?_, ?_, h.frozenAt _⟩
    · rw [h.cellAt _ (by omega)]; exact f0
    · rw [h.cellAt _ (by omega)]; exact f1

set_option maxRecDepth 100000 in
set_option maxHeartbeats 4000000 in
theorem extents_any (A : Option Addr) (zs : List Int) (c : Nat) (w : World) (hb : Ints w A zs) (hz : ∀ z ∈ zs, -9223372036854775808 ≤ z ∧ z ≤ 9223372036854775807) (hl : zs.length ≤ 1000000) :
    Calls Try.prog 32 #[.slice A zs.length c] w fun e w' => ∃ A' c', e = .returned (.slice A' (exts zs).length c') ∧ w'.ownsRow w.heap.size 70 2 (.slice A' (exts zs).length c') (exts zs).length (erows (exts zs)) ∧ Below w.heap.size w w' := by
  have hok := extTo_ok hz
  have hall := extTo_all zs
  obtain ⟨n, hn⟩ : ∃ n, n = zs.length := ⟨_, rfl⟩
  rw [← hn] at hl hall ⊢
  have HN := Lib.hid hn
  have HB := Lib.hid hb
  have HOk := Lib.hid hok
  have HAll := Lib.hid hall
  clear hn hb hok hall hz
  go_enter Try.func32, Try.ntmps32
  go_wp2_with fail
  go_loopw [3, 9] (fun ov iv' wr => ∃ (k m : Nat) (A2 : Option Addr) (c2 : Nat), k ≤ n ∧ iv' = .int .i64 k ∧ ov = .slice A2 m c2 ∧ Hid ((extTo zs k).length = m) ∧ Hid (wr.ownsRow w.heap.size 70 2 (.slice A2 m c2) m (erows (extTo zs k))) ∧ Hid (Below w.heap.size w wr)) (fun _ iv' _ => n - (intOf iv').toNat)
  case atStart => exact ⟨0, 0, none, 0, Nat.zero_le _, rfl, rfl, rfl, World.ownsRow_nil _ _ _ _, Below.refl _ _⟩
  case round =>
    obtain ⟨k, m, A2, c2, hk, rfl, rfl, HM, HO, HBl⟩ := hrel
    by_cases hlt : k < n
    · have t1 : decide ((k : Int) < (n : Int)) = true := by simp; omega
      have hkz : k < zs.length := by rw [← HN.out]; exact hlt
      obtain ⟨b, off, rfl, hbl, hc⟩ := HB.out.at_ (by omega)
      have e0 := (HBl.out.cell (p := ⟨b, off + k, none⟩) hbl).trans (hc k hkz)
      obtain ⟨y, hy⟩ : ∃ y, y = zs.getD k 0 := ⟨_, rfl⟩
      have hyk : y = zs[k] := by rw [hy]; simp [List.getD_eq_getElem?_getD, hkz]
      rw [← hy] at e0
      have hsucc := extTo_succ hkz
      rw [← hyk] at hsucc
      have hmk : m ≤ k := by have := (HOk.out k (by omega)).len; rw [List.length_take] at this; have := HM.out; omega
      have hsz := HBl.out.size
      have hkI : (k : Int) < (n : Int) := by omega
      have hk0 : (0 : Int) ≤ (k : Int) := by omega
      obtain ⟨acc, hacc⟩ : ∃ acc, acc = extTo zs k := ⟨_, rfl⟩
      have hmm := HM.out
      have hoo := HO.out
      have hokk := HOk.out k (by omega)
      rw [← hacc] at hsucc hmm hoo hokk
      have HSucc := Lib.hid hsucc
      have HM' := Lib.hid hmm
      have HO' := Lib.hid hoo
      clear hc hy hyk hsucc hkz hacc hmm hoo HM HO
      have app : ¬ goesOn acc y → ∀ v2 w2, w2.ownsRow w.heap.size 70 2 v2 (m + 1) (erows acc ++ ecells (y, 1)) → (wr.alloc (.cells #[.int .i64 y, .int .i64 1] 70)).grownBy w2 (Value.slice A2 m c2).ownBlock →
          Hid ((extTo zs (k + 1)).length = m + 1) ∧ Hid (w2.ownsRow w.heap.size 70 2 v2 (m + 1) (erows (extTo zs (k + 1)))) ∧ Hid (Below w.heap.size w w2) := fun hg v2 w2 h1 h2 => by
        have e1 : extTo zs (k + 1) = acc ++ [(y, 1)] := by rw [HSucc.out, step_not hg]
        refine ⟨?_, ?_, ?_⟩
        · show _ = _; rw [e1, List.length_append, HM'.out]; rfl
        · show World.ownsRow _ _ _ _ _ _ _; rw [e1, erows_snoc]; exact h1
        · exact (HBl.out.alloc hsz _).own (World.ownsRow.alloc HO'.out _) h2 (by simp; omega) (Nat.le_refl _)
      have HApp := Lib.hid app
      have hsz2 : w.heap.size ≤ (wr.alloc (.cells #[.int .i64 y, .int .i64 1] 70)).heap.size := by simp; omega
      have hsz3 : w.heap.size ≤ (wr.drew.alloc (.cells #[.int .i64 y, .int .i64 1] 70)).heap.size := by simp; omega
      clear app
      by_cases hm0 : 0 < m
      · obtain ⟨g, rfl, l0, l1, fr⟩ := own_last HO'.out HM'.out hm0
        have hne : acc ≠ [] := by intro e; have := HM'.out; rw [e] at this; simp at this; omega
        have hlr := hokk.right _ (List.mem_of_getElem? (last_at hne))
        obtain ⟨s, hs⟩ : ∃ s, s = (lastE acc).1 := ⟨_, rfl⟩
        obtain ⟨l, hll⟩ : ∃ l, l = (lastE acc).2 := ⟨_, rfl⟩
        have hl1 : 1 ≤ l := by rw [hll]; exact hlr.1
        have hl8 : l ≤ 8 := by rw [hll]; exact hlr.2
        rw [← hs] at l0
        rw [← hll] at l1
        have g1 : decide (0 < m) = true := by simpa using hm0
        have g1' : decide ((0 : Int) < (m : Int)) = true := by simpa using hm0
        have hmm1 : (1 : Int) ≤ (m : Int) := by omega
        have hgo : goesOn acc y ↔ y = wrap64 (s + l) ∧ l < 8 := by
          unfold goesOn; rw [← hs, ← hll]; exact ⟨fun h => h.2, fun h => ⟨hne, h⟩⟩
        have HGo := Lib.hid hgo
        have HL := Lib.hid hll
        have HNe := Lib.hid hne
        clear hs hll hlr hne hgo hokk
        by_cases hy : y = wrap64 (s + l)
        · have t2 : (y == wrap64 (s + l)) = true := by simpa using hy
          by_cases h8 : l < 8
          · have t3 : decide (l < 8) = true := by simpa using h8
            have hg := HGo.out.2 ⟨hy, h8⟩
            have hst := HO'.out.stored ((m - 1) * 2 + 1) (.int .i64 (l + 1))
            have fin : Hid ((extTo zs (k + 1)).length = m) ∧ Hid ((wr.setCell ⟨g, (m - 1) * 2 + 1, none⟩ (.int .i64 (l + 1))).ownsRow w.heap.size 70 2 (.slice (some ⟨g, 0, none⟩) m c2) m (erows (extTo zs (k + 1)))) ∧ Hid (Below w.heap.size w (wr.setCell ⟨g, (m - 1) * 2 + 1, none⟩ (.int .i64 (l + 1)))) := by
              have e1 : extTo zs (k + 1) = bump acc := by rw [HSucc.out, step_yes hg]
              refine ⟨?_, ?_, ?_⟩
              · show _ = _; rw [e1, bump_length HNe.out]; exact HM'.out
              · show World.ownsRow _ _ _ _ _ _ _; rw [e1, bump_rows HNe.out, HM'.out, ← HL.out]; exact hst.1
              · exact HBl.out.own HO'.out hst.2 hsz (Nat.le_refl _)
            have HFin := Lib.hid fin
            clear hy h8 hg hst fin
            go_wp2_with fail
            go_quiet (fail)
            go_wp2_with fail
            go_roundw
            case rel => exact ⟨k + 1, m, some ⟨g, 0, none⟩, c2, by omega, by go_num, rfl, HFin.out.1, HFin.out.2.1, below_drewN HFin.out.2.2.out _⟩
            case measure => simp [intOf]; omega
          · have t3 : decide (l < 8) = false := by simpa using h8
            have hg : ¬ goesOn acc y := fun h => h8 (HGo.out.1 h).2
            have HG := Lib.hid (HApp.out hg)
            clear hy h8 hg
            go_wp2_with fail
            go_quiet (fail)
            go_wp2_with (at_builtin; refine wpList_app elem_ext rfl _ _ rfl w.heap.size (.slice (some ⟨g, 0, none⟩) m c2) m (erows acc) rfl (World.ownsRow.alloc HO'.out _) (some ⟨_, 0, none⟩) 1 1 (ecells (y, 1)) rfl (sees_new _ _ _) rfl (one_ecells _) (by omega) (by simp; omega) ?_)
            intro v2 w2 hown hgr _
            obtain ⟨A4, c4, rfl, _, _⟩ := own_full hown
            obtain ⟨F1, F2, F3⟩ := HG.out _ w2 hown ⟨hgr.os, hgr.tape, hgr.output, hgr.size, hgr.block⟩
            clear hown hgr
            go_wp2_with fail
            go_roundw
            case rel => exact ⟨k + 1, m + 1, A4, c4, by omega, by go_num, rfl, F1, F2, F3⟩
            case measure => simp [intOf]; omega
        · have t2 : (y == wrap64 (s + l)) = false := by simpa using hy
          have hg : ¬ goesOn acc y := fun h => hy (HGo.out.1 h).1
          have HG := Lib.hid (HApp.out hg)
          clear hy hg
          go_wp2_with fail
          go_quiet (fail)
          go_wp2_with (at_builtin; refine wpList_app elem_ext rfl _ _ rfl w.heap.size (.slice (some ⟨g, 0, none⟩) m c2) m (erows acc) rfl (World.ownsRow.alloc HO'.out _) (some ⟨_, 0, none⟩) 1 1 (ecells (y, 1)) rfl (sees_new _ _ _) rfl (one_ecells _) (by omega) (by simp; omega) ?_)
          intro v2 w2 hown hgr _
          obtain ⟨A4, c4, rfl, _, _⟩ := own_full hown
          obtain ⟨F1, F2, F3⟩ := HG.out _ w2 hown ⟨hgr.os, hgr.tape, hgr.output, hgr.size, hgr.block⟩
          clear hown hgr
          go_wp2_with fail
          go_roundw
          case rel => exact ⟨k + 1, m + 1, A4, c4, by omega, by go_num, rfl, F1, F2, F3⟩
          case measure => simp [intOf]; omega
      · obtain rfl : m = 0 := by omega
        have hg : ¬ goesOn acc y := fun h => h.1 (List.eq_nil_of_length_eq_zero HM'.out)
        have HG := Lib.hid (HApp.out hg)
        clear hg hokk
        go_wp2_with fail
        go_quiet (fail)
        go_wp2_with (at_builtin; refine wpList_app elem_ext rfl _ _ rfl w.heap.size (.slice A2 0 c2) 0 (erows acc) rfl (World.ownsRow.alloc HO'.out _) (some ⟨_, 0, none⟩) 1 1 (ecells (y, 1)) rfl (sees_new _ _ _) rfl (one_ecells _) (by omega) (by simp; omega) ?_)
        intro v2 w2 hown hgr _
        obtain ⟨A4, c4, rfl, _, _⟩ := own_full hown
        obtain ⟨F1, F2, F3⟩ := HG.out _ w2 hown ⟨hgr.os, hgr.tape, hgr.output, hgr.size, hgr.block⟩
        clear hown hgr
        go_wp2_with fail
        go_roundw
        case rel => exact ⟨k + 1, 0 + 1, A4, c4, by omega, by go_num, rfl, F1, F2, F3⟩
        case measure => simp [intOf]; omega
    · obtain rfl : k = n := by omega
      have t1 : decide ((k : Int) < (k : Int)) = false := by simp
      have hm := HM.out
      have ho := HO.out
      rw [HAll.out] at hm ho
      have HM2 := Lib.hid hm
      have HO2 := Lib.hid ho
      clear hm ho
      go_wp2_with fail
      go_ret
      exact ⟨A2, c2, ret_slice HM2.out.symm, by rw [HM2.out]; exact HO2.out, HBl.out⟩
end Go.Proofs.Ytkeebkackbkfhaa
