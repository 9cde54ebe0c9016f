/- The contracts of the reference's Same of patches and of the law's like, at patches that are the same. Condition: lengths within a slice's. -/
import Derived.Test.YtjdpljhhlmcbaaaVolCheckP
import Derived.Test.YtjdpljhhlmcbaaaSame
import Derived.Test.YtjdpljhhlmcbaaaElem
import Derived.Deep.RegionHeld3
namespace Go.Cat.Vol
open Go.RowKit Go.Cat
/-- A row's element, in a world. -/
theorem prows_at {w : World} {A : Option Addr} {rs : List Pr} (h : Sees w A (prows rs)) {k : Nat} (hk : k < rs.length) : ∃ b off, A = some ⟨b, off, none⟩ ∧ b < w.heap.size ∧
    w.cell? ⟨b, off + k * 3, none⟩ = some (.int .u32 rs[k].1.key) ∧ w.cell? ⟨b, off + k * 3 + 1, none⟩ = some (.int .u64 rs[k].1.ver) ∧ w.cell? ⟨b, off + k * 3 + 2, none⟩ = some (.slice rs[k].2.1 rs[k].1.b.length rs[k].2.2) := by
  obtain ⟨b, off, hA, hb, hc⟩ := h.elem (f := pcells) (k := 3) (fun _ => rfl) (by omega) (by omega)
  refine ⟨b, off, hA, hb, hc k hk 0 (by omega), ?_, ?_⟩
  · rw [Nat.add_assoc]; exact hc k hk 1 (by omega)
  · rw [Nat.add_assoc]; exact hc k hk 2 (by omega)
end Go.Cat.Vol
namespace Go.Proofs.Ytjdpljhhlmcbaaa
open Go.RowKit Go.Cat Go.Cat.Vol

set_option maxRecDepth 100000 in
set_option maxHeartbeats 2000000 in
theorem rpsame_eq (A B : Option Addr) (rs qs : List Pr) (c d : Nat) (w : World) (hp : Pats w A rs) (hq : Pats w B qs) (he : rs.map (·.1) = qs.map (·.1)) (hin : ∀ r ∈ rs, PvK r.1) (hn : rs.length ≤ 9223372036854775807) :
    Calls Try.prog 47 #[.slice A rs.length c, .slice B qs.length d] w fun e w' => e = .returned (.bool true) ∧ ∃ k, w' = w.drewN k := by
  obtain ⟨n, hnn⟩ : ∃ n, n = rs.length := ⟨_, rfl⟩
  have hl : qs.length = n := by
    have := congrArg List.length he
    simp at this
    omega
  rw [hl, ← hnn]
  rw [← hnn] at hn
  have HL := Lib.hid hl
  have HN := Lib.hid hnn
  have HP := Lib.hid hp
  have HQ := Lib.hid hq
  have HE := Lib.hid he
  have HIn := Lib.hid hin
  have t0 : ((n : Int) != (n : Int)) = false := by simp
  clear hl hnn hp hq he hin
  go_enter Try.func47, Try.ntmps47
  go_wp2_with fail
  go_loopw [5] (fun iv wr => ∃ k : Nat, k ≤ n ∧ iv = .int .i64 k ∧ ∃ d, wr = w.drewN d) (fun iv _ => n - (intOf iv).toNat)
  case atStart => exact ⟨0, Nat.zero_le _, rfl, 0, rfl⟩
  case round =>
    obtain ⟨k, hk, rfl, dd, rfl⟩ := hrel
    by_cases hlt : k < n
    · have t1 : decide ((k : Int) < (n : Int)) = true := by simp; omega
      have hkr : k < rs.length := by rw [← HN.out]; exact hlt
      have hkq : k < qs.length := by rw [HL.out]; exact hlt
      obtain ⟨b, off, hA, hbl, a0, a1, a2⟩ := prows_at HP.out.row hkr
      obtain ⟨b', off', hB, hbl', b0, b1, b2⟩ := prows_at HQ.out.row hkq
      have hpe : qs[k].1 = rs[k].1 := by
        have h1 : (rs.map (·.1))[k]? = some rs[k].1 := by rw [List.getElem?_map, List.getElem?_eq_getElem hkr]; rfl
        have h2 : (qs.map (·.1))[k]? = some qs[k].1 := by rw [List.getElem?_map, List.getElem?_eq_getElem hkq]; rfl
        rw [HE.out, h2] at h1
        injection h1
      rw [hpe] at b0 b1 b2
      have hlen : rs[k].1.b.length ≤ maxLen := (HIn.out _ (List.getElem_mem hkr)).len
      unfold maxLen at hlen
      have hsm := fun q => same8_any rs[k].2.1 qs[k].2.1 rs[k].1.b.length rs[k].1.b.length rs[k].2.2 qs[k].2.2 rs[k].1.b rs[k].1.b (w.drewN q) (HP.out.each _ (List.getElem_mem hkr)) (by have := HQ.out.each _ (List.getElem_mem hkq); rw [hpe] at this; exact this) rfl rfl hlen hlen
      simp only [eq_self, decide_true] at hsm
      have HSm := Lib.hid hsm
      obtain ⟨p, hpk⟩ : ∃ p, p = rs[k] := ⟨_, rfl⟩
      obtain ⟨q, hqk⟩ : ∃ q, q = qs[k] := ⟨_, rfl⟩
      rw [← hpk] at a0 a1 a2 b0 b1 b2 HSm
      rw [← hqk] at b2 HSm
      have hkI : (k : Int) < (n : Int) := by omega
      have hk0 : (0 : Int) ≤ (k : Int) := by omega
      have t2 : (p.1.key != p.1.key) = false := by simp
      have t3 : (p.1.ver != p.1.ver) = false := by simp
      rw [hA, hB]
      clear hA hB hpe hlen hsm hpk hqk hkr hkq
      go_wp2_with fail
      go_quiet ((go_at_call 21; exact quiet_add (HSm.out _)))
      go_wp2
      go_roundw
      case rel => exact ⟨k + 1, by omega, by go_num, _, rfl⟩
      case measure => simp [intOf]; omega
    · obtain rfl : k = n := by omega
      have t1 : decide ((k : Int) < (k : Int)) = false := by simp
      go_wp2
      go_ret
      exact ⟨rfl, _, rfl⟩

theorem info_rpatchL : (Try.prog.info? 89).map (fun i => (i.zero, i.size, i.bytes)) = some (some (.agg #[.int .u32 0, .int .u64 0, .slice none 0 0]), 3, 40) := by kernel_rfl
theorem elem_rpatchL : Elem Try.prog 41 89 (.agg #[.int .u32 0, .int .u64 0, .slice none 0 0]) 3 40 := ⟨Try.underlying41, info_rpatchL, rfl, by decide, by decide⟩

/-- What a round's append reads. -/
def LkS (b o : Nat) (r : Pr) (H : Nat) (w w' : World) : Prop :=
  w'.cell? ⟨b, o, none⟩ = some (.int .u32 r.1.key) ∧ w'.cell? ⟨b, o + 1, none⟩ = some (.int .u64 r.1.ver) ∧ w'.cell? ⟨b, o + 2, none⟩ = some (.slice r.2.1 r.1.b.length r.2.2) ∧ Below H w w'
section
variable {b o H : Nat} {r : Pr} {w w1 w2 : World}
theorem LkS.next (h : LkS b o r H w w1) (hH : H ≤ w1.heap.size) (hb : Below w1.heap.size w1 w2) : LkS b o r H w w2 := by
  obtain ⟨h0, h1, h2, h3⟩ := h
  have g : b < w1.heap.size := World.block_lt_of_cell? _ _ h0
  exact ⟨(hb.cell (p := ⟨b, _, none⟩) g).trans h0, (hb.cell (p := ⟨b, _, none⟩) g).trans h1, (hb.cell (p := ⟨b, _, none⟩) g).trans h2, h3.trans (hb.mono hH)⟩
theorem LkS.own {e : TypeId} {size n : Nat} {x : Value} {xs : List Value} (h : LkS b o r H w w1) (hb : b < H) (hH : H ≤ w1.heap.size) (ho : w1.ownsRow H e size x n xs) (hg : w1.grownBy w2 x.ownBlock) : LkS b o r H w w2 := by
  have hB : Below H w1 w2 := (Below.refl _ _).own ho hg hH (Nat.le_refl _)
  obtain ⟨h0, h1, h2, h3⟩ := h
  exact ⟨(hB.cell (p := ⟨b, _, none⟩) hb).trans h0, (hB.cell (p := ⟨b, _, none⟩) hb).trans h1, (hB.cell (p := ⟨b, _, none⟩) hb).trans h2, h3.trans hB⟩
theorem LkS.drew (h : LkS b o r H w w1) : LkS b o r H w w1.drew := ⟨h.1, h.2.1, h.2.2.1, h.2.2.2.drew⟩
theorem LkS.bel (h : LkS b o r H w w1) : Below H w w1 := h.2.2.2
end

set_option maxRecDepth 100000 in
set_option maxHeartbeats 2000000 in
theorem vlike_eq (A B : Option Addr) (rs qs : List Pr) (c d : Nat) (w : World) (hp : Pats w A rs) (hq : Pats w B qs) (he : rs.map (·.1) = qs.map (·.1)) (hin : ∀ r ∈ rs, PvK r.1) (hn : rs.length ≤ 1000000) :
    Calls Try.prog 20 #[.slice A rs.length c, .slice B qs.length d] w fun e w' => e = .returned (.bool true) ∧ Below w.heap.size w w' := by
  obtain ⟨n, hnn⟩ : ∃ n, n = rs.length := ⟨_, rfl⟩
  obtain ⟨m, hmm⟩ : ∃ m, m = qs.length := ⟨_, rfl⟩
  rw [← hmm, ← hnn]
  rw [← hnn] at hn
  have HM := Lib.hid hmm
  have HN := Lib.hid hnn
  have HP := Lib.hid hp
  have HQ := Lib.hid hq
  have HE := Lib.hid he
  have HIn := Lib.hid hin
  clear hmm hnn hp hq he hin
  go_enter Try.func20, Try.ntmps20
  go_wp2_with fail
  go_loopw [5, 6] (fun ov iv wr => ∃ (k : Nat) (A2 : Option Addr) (c2 : Nat), k ≤ n ∧ iv = .int .i64 k ∧ ov = .slice A2 k c2 ∧ Hid (wr.ownsRow w.heap.size 89 3 (.slice A2 k c2) k (prows (rs.take k))) ∧ Hid (Below w.heap.size w wr)) (fun _ iv _ => n - (intOf iv).toNat)
  case atStart => exact ⟨0, none, 0, Nat.zero_le _, rfl, rfl, World.ownsRow_nil _ _ _ _, Below.refl _ _⟩
  case round =>
    obtain ⟨k, A2, c2, hk, rfl, rfl, HO, HB⟩ := hrel
    by_cases hlt : k < n
    · have t1 : decide ((k : Int) < (n : Int)) = true := by simp; omega
      have hkr : k < rs.length := by rw [← HN.out]; exact hlt
      obtain ⟨b, off, hA, hbl, a0, a1, a2⟩ := prows_at HP.out.row hkr
      have hlk : LkS b (off + k * 3) rs[k] w.heap.size w wr :=
        ⟨(HB.out.cell (p := ⟨b, _, none⟩) hbl).trans a0, (HB.out.cell (p := ⟨b, _, none⟩) hbl).trans a1, (HB.out.cell (p := ⟨b, _, none⟩) hbl).trans a2, HB.out⟩
      have hsz := HB.out.size
      have htk : rs.take (k + 1) = rs.take k ++ [rs[k]] := List.take_succ_eq_append_getElem hkr
      have hlen : rs[k].1.b.length ≤ maxLen := (HIn.out _ (List.getElem_mem hkr)).len
      unfold maxLen at hlen
      obtain ⟨r, hr⟩ : ∃ r, r = rs[k] := ⟨_, rfl⟩
      rw [← hr] at hlk htk hlen
      have HLk := Lib.hid hlk
      have HTk := Lib.hid htk
      have hkI : (k : Int) < (n : Int) := by omega
      have hk0 : (0 : Int) ≤ (k : Int) := by omega
      have hpt : prows (rs.take (k + 1)) = prows (rs.take k) ++ pcells r := by rw [htk, prows_snoc]
      have HPt := Lib.hid hpt
      rw [hA]
      clear hA a0 a1 a2 hlk htk hr hkr hpt
      go_wp2_with fail
      go_region_held3 (fun w' => w'.cell? ⟨b, off + k * 3, none⟩ = some (.int .u32 r.1.key) ∧ w'.cell? ⟨b, off + k * 3 + 1, none⟩ = some (.int .u64 r.1.ver) ∧ w'.cell? ⟨b, off + k * 3 + 2, none⟩ = some (.slice r.2.1 r.1.b.length r.2.2) ∧ Below w.heap.size w w')
        (first | exact LkS.drew HLk.out | exact LkS.drew (HLk.out.next hsz ((Below.refl _ _).alloc (Nat.le_refl _) _)) | exact LkS.own (LkS.drew (HLk.out.next hsz ((Below.refl _ _).alloc (Nat.le_refl _) _))) hbl (by simp; omega) (HO.out.alloc _) hg2)
        (first
          | (refine step_app elem_rpatchL (by rfl) (.tmp 13) (.tmp 30) (by rfl) w.heap.size (.slice A2 k c2) k (prows (rs.take k)) (by rfl) (HO.out.alloc _) (some ⟨_, 0, none⟩) 1 1 (pcells r) (by rfl) (sees_new _ _ _) rfl (one_pcells _) (by omega) (by simp; omega) ?_; intro v2 w2 hown2 hg2 _; obtain ⟨A3, c3, rfl, _, _⟩ := own_full hown2)
          | fail)
      all_goals
        rename_i FS
        have hfin := LkS.bel FS
        have hown3 : w2.ownsRow w.heap.size 89 3 (.slice A3 (k + 1) c3) (k + 1) (prows (rs.take (k + 1))) := by rw [HPt.out]; exact hown2
        have HO3 := Lib.hid hown3
        have HF := Lib.hid hfin
        clear FS hown2 hg2 hown3 hfin
        go_wp2_with fail
        go_roundw
        case rel => exact ⟨k + 1, A3, c3, by omega, by go_num, rfl, HO3.out, HF.out⟩
        case measure => simp [intOf]; omega
    · obtain rfl : k = n := by omega
      have t1 : decide ((k : Int) < (k : Int)) = false := by simp
      have hall : rs.take k = rs := by rw [HN.out]; exact List.take_length
      have hown := HO.out
      rw [hall] at hown
      have hpa : Pats wr A2 rs := ⟨ownN_sees hown, fun r hr => (HP.out.each r hr).below HB.out⟩
      have p1 := rpsame_eq A2 B rs qs c2 d wr hpa (HQ.out.below HB.out) HE.out HIn.out (by rw [← HN.out]; omega)
      rw [← HN.out, ← HM.out] at p1
      have P1 := Lib.hid p1
      clear p1 hpa hown hall
      go_wp2_with fail
      refine (P1.out).mono ?_
      rintro e w9 ⟨rfl, q, rfl⟩
      go_wp2
      go_ret
      exact ⟨rfl, below_drewN HB.out _⟩
end Go.Proofs.Ytjdpljhhlmcbaaa
