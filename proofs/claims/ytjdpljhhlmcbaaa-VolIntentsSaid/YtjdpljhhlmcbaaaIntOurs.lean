/- The contracts of the law's far and ours at patches, of slices.Clone at patches and of bytes.Clone. Condition: at most 1000000 patches. -/
import Derived.Test.YtjdpljhhlmcbaaaIntPure
import Derived.Test.YtjdpljhhlmcbaaaVolLike
import Derived.Test.YtjdpljhhlmcbaaaVolGetP
import Derived.Test.YtjdpljhhlmcbaaaCloneS
import Derived.Deep.RegionLaw
namespace Go.Proofs.Ytjdpljhhlmcbaaa
open Go.RowKit Go.Cat Go.Cat.Vol

set_option maxRecDepth 100000 in
theorem pfar_any (A : Option Addr) (rs : List Pr) (c : Nat) (w : World) (hs : Sees w A (prows rs)) (hn : rs.length ≤ 9223372036854775807) :
    Calls Try.prog 22 #[.slice A rs.length c] w fun e w' => (∃ f, e = .returned (.bool f) ∧ (f = false → rs.length ≤ 40 ∧ ∀ r ∈ rs, r.1.b.length ≤ 200)) ∧ w = w' := by
  obtain ⟨n, hnn⟩ : ∃ n, n = rs.length := ⟨_, rfl⟩
  have HS := Lib.hid hs
  have HN := Lib.hid hnn
  rw [← hnn] at hn ⊢
  clear hs hnn
  go_enter Try.func22, Try.ntmps22
  go_wp2_with fail
  go_loopw [3] (fun iv wr => ∃ k : Nat, k ≤ n ∧ iv = .int .i64 k ∧ w = wr ∧ Hid (∀ j (hj : j < rs.length), j < k → rs[j].1.b.length ≤ 200)) (fun iv _ => n - (intOf iv).toNat)
  case atStart => exact ⟨0, Nat.zero_le _, rfl, rfl, fun j _ h => absurd h (Nat.not_lt_zero j)⟩
  case round =>
    obtain ⟨k, hk, rfl, rfl, HA⟩ := hrel
    by_cases hlt : k < n
    · have t1 : decide ((k : Int) < (n : Int)) = true := by simp; omega
      by_cases h50 : k < 50
      · have t2 : decide ((k : Int) < 50) = true := by simp; omega
        have hkl : k < rs.length := by have := HN.out; omega
        obtain ⟨b, off, rfl, hbl, e0, e1, e2⟩ := prows_at HS.out hkl
        obtain ⟨x, hx⟩ : ∃ x, x = rs[k].1.b.length := ⟨_, rfl⟩
        rw [← hx] at e2
        have hkI : (k : Int) < (n : Int) := by omega
        have hk0 : (0 : Int) ≤ (k : Int) := by omega
        by_cases hx30 : 200 < x
        · have t3 : decide ((200 : Int) < (x : Int)) = true := by simp; omega
          have t3' : decide (200 < x) = true := by simpa using hx30
          clear hx e0 e1 HA
          go_wp2_with fail
          go_ret
          exact ⟨⟨true, rfl, fun h => by cases h⟩, rfl⟩
        · have t3 : decide ((200 : Int) < (x : Int)) = false := by simp; omega
          have t3' : decide (200 < x) = false := by simpa using hx30
          have hA2 : ∀ j (hj : j < rs.length), j < k + 1 → rs[j].1.b.length ≤ 200 := fun j hj hjk => by
            by_cases e : j = k
            · subst e; rw [← hx]; omega
            · exact HA.out j hj (by omega)
          have HA2 := Lib.hid hA2
          clear hx e0 e1 HA hA2
          go_wp2_with fail
          go_roundw
          case rel => exact ⟨k + 1, by omega, by go_num, by first | rfl | trivial, HA2.out⟩
          case measure => simp [intOf]; omega
      · have t2 : decide ((k : Int) < 50) = false := by simp; omega
        have t4 : decide ((40 : Int) < (n : Int)) = true := by simp; omega
        have t4' : decide (40 < n) = true := by simp; omega
        clear HA
        go_wp2_with fail
        go_ret
        exact ⟨⟨true, by first | rfl | simp [*], fun h => by cases h⟩, rfl⟩
    · have t1 : decide ((k : Int) < (n : Int)) = false := by simp; omega
      obtain rfl : k = n := by omega
      go_wp2_with fail
      go_ret
      refine ⟨⟨decide (40 < k), by simp; omega, fun h => ?_⟩, rfl⟩
      have h2 : ¬ 40 < k := by simpa using h
      exact ⟨by have := HN.out; omega, fun e he => by
        obtain ⟨j, hj, rfl⟩ := List.getElem_of_mem he
        exact HA.out j hj (by have := HN.out; omega)⟩

/-- Patches in new memory, each with the bytes that it had. -/
def ToldPs (rs : List Pr) (w : World) (e : Ending) (w' : World) : Prop :=
  ∃ A c, e = .returned (.slice A rs.length c) ∧ Sees w' A (prows rs) ∧ Below w.heap.size w w'

set_option maxRecDepth 100000 in
set_option maxHeartbeats 2000000 in
theorem pours_any (A : Option Addr) (rs : List Pr) (c : Nat) (w : World) (hs : Sees w A (prows rs)) (hn : rs.length ≤ 1000000) :
    Calls Try.prog 24 #[.slice A rs.length c] w (ToldPs rs w) := by
  obtain ⟨n, hnn⟩ : ∃ n, n = rs.length := ⟨_, rfl⟩
  rw [← hnn] at hn ⊢
  have HN := Lib.hid hnn
  have HS := Lib.hid hs
  clear hnn hs
  go_enter Try.func24, Try.ntmps24
  go_wp2_with fail
  go_loopw [3, 4] (fun ov iv wr => ∃ (k : Nat) (A2 : Option Addr) (c2 : Nat), k ≤ n ∧ iv = .int .i64 k ∧ ov = .slice A2 k c2 ∧ Hid (wr.ownsRow w.heap.size 80 3 (.slice A2 k c2) k (prows (rs.take k))) ∧ Hid (Below w.heap.size w wr)) (fun _ iv _ => n - (intOf iv).toNat)
  case atStart => exact ⟨0, none, 0, Nat.zero_le _, rfl, rfl, World.ownsRow_nil _ _ _ _, Below.refl _ _⟩
  case round =>
    obtain ⟨k, A2, c2, hk, rfl, rfl, HO, HB⟩ := hrel
    by_cases hlt : k < n
    · have t1 : decide ((k : Int) < (n : Int)) = true := by simp; omega
      have hkl : k < rs.length := by have := HN.out; omega
      obtain ⟨b, off, rfl, hbl, q0, q1, q2⟩ := prows_at (HS.out.below HB.out) hkl
      have htk : prows (rs.take (k + 1)) = prows (rs.take k) ++ pcells rs[k] := by rw [List.take_succ_eq_append_getElem hkl, prows_snoc]
      obtain ⟨p, hp⟩ : ∃ p, p = rs[k] := ⟨_, rfl⟩
      rw [← hp] at q0 q1 q2 htk
      unfold pcells at htk
      have h1 : ∀ u ∈ [Value.int .u32 p.1.key, .int .u64 p.1.ver, .slice p.2.1 p.1.b.length p.2.2], u.oneCell' = true := one_pcells p
      obtain ⟨x, hx⟩ : ∃ x, x = p.1.key := ⟨_, rfl⟩
      obtain ⟨y, hy⟩ : ∃ y, y = p.1.ver := ⟨_, rfl⟩
      obtain ⟨D, hD⟩ : ∃ D, D = p.2.1 := ⟨_, rfl⟩
      obtain ⟨m, hm⟩ : ∃ m, m = p.1.b.length := ⟨_, rfl⟩
      obtain ⟨cc, hcc⟩ : ∃ cc, cc = p.2.2 := ⟨_, rfl⟩
      rw [← hx, ← hy, ← hD, ← hm, ← hcc] at htk h1
      rw [← hx] at q0
      rw [← hy] at q1
      rw [← hD, ← hm, ← hcc] at q2
      have hkI : (k : Int) < (n : Int) := by omega
      have hk0 : (0 : Int) ≤ (k : Int) := by omega
      have HTk := Lib.hid htk
      have H1 := Lib.hid h1
      have hsz : w.heap.size ≤ (wr.drew.alloc (.cells #[.int .u32 x, .int .u64 y, .slice D m cc] 80)).heap.size := by have := HB.out.size; simp; omega
      have HSz := Lib.hid hsz
      clear hp hx hy hD hm hcc htk hkl hsz h1 hbl
      go_wp2_with fail
      go_region_law (refine step_app elem_patch rfl (.tmp 11) (.tmp 28) rfl w.heap.size (.slice A2 k c2) k (prows (rs.take k)) rfl (World.ownsRow.alloc HO.out _) (some ⟨_, 0, none⟩) 1 1 [.int .u32 x, .int .u64 y, .slice D m cc] rfl (sees_new _ _ _) rfl H1.out (by omega) HSz.out ?_; intro v2 w2 hown hgr _; obtain ⟨A4, c4, rfl, _, _⟩ := own_full hown)
      all_goals
        have ho2 : w2.ownsRow w.heap.size 80 3 (.slice A4 (k + 1) c4) (k + 1) (prows (rs.take (k + 1))) := by rw [HTk.out]; exact hown
        have hb2 : Below w.heap.size w w2 := ((HB.out.trans ((Below.refl wr.heap.size wr).drew.mono HB.out.size)).alloc HB.out.size _).own (World.ownsRow.alloc HO.out _) hgr HSz.out (Nat.le_refl _)
        have HO2 := Lib.hid ho2
        have HB2 := Lib.hid hb2
        clear hown hgr ho2 hb2
        go_wp2_with fail
        go_roundw
        case rel => exact ⟨k + 1, A4, c4, by omega, by go_num, rfl, HO2.out, HB2.out⟩
        case measure => simp [intOf]; omega
    · obtain rfl : k = n := by omega
      have t1 : decide ((k : Int) < (k : Int)) = false := by simp
      have hall : rs.take k = rs := by rw [HN.out]; exact List.take_length
      rw [hall] at HO
      clear hall
      go_wp2_with fail
      go_ret
      exact ⟨A2, c2, by rw [← HN.out]; rfl, ownN_sees HO.out, HB.out⟩

theorem nil_pats : ∀ (w : World) (a : Option Addr) (n c n' c' : Nat), (binOp .eql 37 (.slice a n c) (.slice none n' c')).run Try.prog w = .ok (.bool a.isNone) w := fun w a n c n' c' => Lib.run_eql_slice_nil w _ _ a n c n' c' Try.underlying37

theorem pclone_any (A : Option Addr) (n c : Nat) (rs : List Pr) (w : World) (hs : Sees w A (prows rs)) (hn : n = rs.length) (hm : rs.length ≤ 1000000) :
    Calls Try.prog 48 #[.slice A n c] w fun e w' => ∃ A' c', e = .returned (.slice A' rs.length c') ∧ w'.ownsRow w.heap.size 80 3 (.slice A' rs.length c') rs.length (prows rs) ∧ Below w.heap.size w w' := by
  cases A with
  | none =>
    have h0 : rs = [] := by
      rcases hs with h | ⟨b, off, hA, _⟩
      · have := congrArg List.length h
        rw [prows_length] at this
        exact List.eq_nil_of_length_eq_zero (by simp only [List.length_nil] at this; omega)
      · cases hA
    subst h0
    obtain rfl : n = 0 := by simpa using hn
    clear hm hn hs
    have hnil := nil_pats
    go_enter Try.func48, Try.ntmps48
    go_wp2
    go_ret
    exact ⟨none, 0, rfl, World.ownsRow_nil _ _ _ _, Below.refl _ _⟩
  | some ad =>
    subst hn
    have hnil := nil_pats
    have hrow := World.ownsRow_lit (base := w.heap.size) (e := 80) (size := 3) w #[] 0 (Nat.le_refl _) (by unfold maxLen; omega) rfl
    have HLen := Lib.hid (prows_length rs)
    have HOne := Lib.hid (one_prows rs)
    obtain ⟨xs, hxs⟩ : ∃ xs, xs = prows rs := ⟨_, rfl⟩
    rw [← hxs] at hs HLen HOne ⊢
    obtain ⟨m, hmm⟩ : ∃ m, m = rs.length := ⟨_, rfl⟩
    rw [← hmm] at hm HLen ⊢
    clear hxs hmm
    go_enter Try.func48, Try.ntmps48
    go_wp2_with (at_builtin; refine wpList_app elem_patch rfl _ _ rfl w.heap.size _ 0 [] rfl hrow (some ad) m c xs rfl (hs.alloc _) HLen.out HOne.out (by omega) (by simp) ?_)
    intro v2 w2 hown2 hg2 _
    have hB2 : Below w.heap.size w w2 := ((Below.refl _ _).alloc (Nat.le_refl _) _).own hrow hg2 (by simp) (Nat.le_refl _)
    replace hown2 : w2.ownsRow w.heap.size 80 3 v2 m xs := by simpa using hown2
    obtain ⟨V2, C2, rfl, _⟩ := own_form hown2
    clear hg2 hrow
    go_wp2
    go_ret
    exact ⟨V2, C2, rfl, hown2, hB2⟩

theorem bclone_any (A : Option Addr) (n c : Nat) (bs : List UInt8) (w : World) (hb : Bytes w A bs) (hn : n = bs.length) (hm : bs.length ≤ 140737488355328) :
    Calls Try.prog 49 #[.slice A n c] w fun e w' => ∃ A' c', e = .returned (.slice A' bs.length c') ∧ w'.ownsRow w.heap.size 5 1 (.slice A' bs.length c') bs.length (bs.map by8) ∧ Below w.heap.size w w' := by
  cases A with
  | none =>
    have h0 : bs = [] := by
      rcases hb with h | ⟨b, off, hA, _⟩
      · simpa using h
      · cases hA
    subst h0
    obtain rfl : n = 0 := by simpa using hn
    clear hm hn hb
    have hnil := nil_u8s
    go_enter Try.func49, Try.ntmps49
    go_wp2
    go_ret
    exact ⟨none, 0, rfl, World.ownsRow_nil _ _ _ _, Below.refl _ _⟩
  | some ad =>
    subst hn
    have hnil := nil_u8s
    have hrow := World.ownsRow_lit (base := w.heap.size) (e := 5) (size := 1) w #[] 0 (Nat.le_refl _) (by unfold maxLen; omega) rfl
    go_enter Try.func49, Try.ntmps49
    go_wp2_with (at_builtin; refine wpList_app elem_u8 rfl _ _ rfl w.heap.size _ 0 [] rfl hrow (some ad) bs.length c (bs.map by8) rfl (hb.alloc _) (by simp) (one_by8 _) (by omega) (by simp) ?_)
    intro v2 w2 hown2 hg2 _
    have hB2 : Below w.heap.size w w2 := ((Below.refl _ _).alloc (Nat.le_refl _) _).own hrow hg2 (by simp) (Nat.le_refl _)
    replace hown2 : w2.ownsRow w.heap.size 5 1 v2 bs.length (bs.map by8) := by simpa using hown2
    obtain ⟨V2, C2, rfl, _⟩ := own_form hown2
    clear hg2 hrow
    go_wp2
    go_ret
    exact ⟨V2, C2, rfl, hown2, hB2⟩
end Go.Proofs.Ytjdpljhhlmcbaaa
