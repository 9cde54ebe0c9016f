/- The contract of vol.Sort at 40 patches or fewer. Condition: the patches' bytes below 2^47. -/
import Derived.Test.YtjdpljhhlmcbaaaIntSort
import Derived.Test.YtjdpljhhlmcbaaaTch
namespace Go.Cat.Vol
open Go.RowKit Go.Cat
theorem own_set {w : World} {base n k c g j : Nat} {e : TypeId} {xs : List Value} (h : w.ownsRow base e k (.slice (some ⟨g, 0, none⟩) n c) n xs) (v : Value) : (w.setCell ⟨g, j, none⟩ v).ownsRow base e k (.slice (some ⟨g, 0, none⟩) n c) n (xs.set j v) := by
  refine ⟨by rw [List.length_set]; exact h.1, ?_⟩
  rcases h.2 with ⟨h1, _⟩ | ⟨g', cap, cur, hv, hg, hb, h1, h2, h3, h4⟩
  · cases h1
  · injection hv with hA hn hc
    injection hA with hA
    injection hA with hA _ _
    subst hA hc
    refine .inr ⟨g, c, cur.setIfInBounds j v, rfl, hg, set_block v hb, h1, h2, by simp [h3], ?_⟩
    rw [Array.toList_setIfInBounds, List.take_set, h4]
theorem own_frozen {w : World} {base n k c g j : Nat} {e : TypeId} {xs : List Value} (h : w.ownsRow base e k (.slice (some ⟨g, 0, none⟩) n c) n xs) : w.frozen? ⟨g, j, none⟩ = false := by
  rcases h.2 with ⟨h1, _⟩ | ⟨g', cap, cur, hv, hg, hb, h1, h2, h3, h4⟩
  · cases h1
  · injection hv with hA hn hc
    injection hA with hA
    injection hA with hA _ _
    subst hA hc
    exact frozen_of_row _ _ j _ _ hb
theorem prows_set {rs : List Pr} {k : Nat} {r : Pr} (hk : k < rs.length) (h1 : r.1 = rs[k].1) : prows (rs.set k r) = (prows rs).set (k * 3 + 2) (.slice r.2.1 r.1.b.length r.2.2) := by
  apply List.ext_getElem?
  intro t
  by_cases ht : t < rs.length * 3
  · have hi : t / 3 < rs.length := by omega
    have hj : t % 3 < 3 := by omega
    have e1 := flat_at (f := pcells) (k := 3) (fun _ => rfl) (bs := rs.set k r) (i := t / 3) (j := t % 3) (by rw [List.length_set]; exact hi) hj
    have e2 := flat_at (f := pcells) (k := 3) (fun _ => rfl) (bs := rs) (i := t / 3) (j := t % 3) hi hj
    rw [show t / 3 * 3 + t % 3 = t by omega] at e1 e2
    rw [e1, List.getElem?_set]
    by_cases hc : k * 3 + 2 = t
    · rw [if_pos hc, if_pos (by rw [prows_length]; omega)]
      have h3 : t / 3 = k := by omega
      have h4 : t % 3 = 2 := by omega
      rw [h4]
      simp only [h3, List.getElem_set_self]
      rfl
    · rw [if_neg hc, e2]
      by_cases h3 : t / 3 = k
      · have h4 : t % 3 = 0 ∨ t % 3 = 1 := by omega
        subst h3
        simp only [List.getElem_set_self]
        rcases h4 with h4 | h4 <;> rw [h4] <;> simp [pcells, h1]
      · rw [List.getElem_set_ne (Ne.symm h3)]
  · rw [List.getElem?_eq_none (by rw [prows_length, List.length_set]; omega), List.getElem?_eq_none (by rw [List.length_set, prows_length]; omega)]
/-- Patches in a row of the call's own, each with bytes that stand in other blocks. -/
structure Cps (base : Nat) (T : TypeId) (A : Option Addr) (n c : Nat) (rs : List Pr) (w : World) : Prop where
  len : rs.length = n
  own : w.ownsRow base T 3 (.slice A n c) n (prows rs)
  each : ∀ r ∈ rs, Bytes w r.2.1 r.1.b ∧ (r.1.b ≠ [] → ∀ k o, r.2.1 = some ⟨k, o, none⟩ → A.map (·.block) ≠ some k)
theorem Cps.drop {base : Nat} {T : TypeId} {A : Option Addr} {n c : Nat} {rs rs' : List Pr} {w w' : World} (h : Cps base T A n c rs w) (hp : rs'.Perm rs) (ho : w'.ownsRow base T 3 (.slice A n c) n (prows rs')) (hg : w.grownBy w' (A.map (·.block))) : Cps base T A n c rs' w' :=
  ⟨hp.length_eq.trans h.len, ho, fun r hr => by
    obtain ⟨h1, h2⟩ := h.each r (hp.mem_iff.1 hr)
    refine ⟨?_, h2⟩
    by_cases hb : r.1.b = []
    · rw [hb]; exact .inl rfl
    · exact bytes_touch h1 (Tch.grown hg) fun k o e hk => h2 hb k o e hk⟩
theorem Cps.pats {base : Nat} {T : TypeId} {A : Option Addr} {n c : Nat} {rs : List Pr} {w : World} (h : Cps base T A n c rs w) : Pats w A rs := ⟨ownN_sees h.own, fun r hr => (h.each r hr).1⟩
/-- One patch gets a copy of its bytes. -/
theorem Cps.put {base : Nat} {T : TypeId} {g n c k : Nat} {rs : List Pr} {w w1 : World} {A' : Option Addr} {c' : Nat} {T8 : TypeId} (h : Cps base T (some ⟨g, 0, none⟩) n c rs w) (hk : k < rs.length) (hb : Below w.heap.size w w1)
    (ho : w1.ownsRow w.heap.size T8 1 (.slice A' rs[k].1.b.length c') rs[k].1.b.length (rs[k].1.b.map by8)) :
    Cps base T (some ⟨g, 0, none⟩) n c (rs.set k (rs[k].1, A', c')) (w1.setCell ⟨g, k * 3 + 2, none⟩ (.slice A' rs[k].1.b.length c')) ∧ (rs.set k (rs[k].1, A', c')).map (·.1) = rs.map (·.1) := by
  have hgl : g < w.heap.size := by
    rcases h.own.2 with ⟨h1, _⟩ | ⟨g', cap, cur, hv, hg, hb', h1, h2, h3, h4⟩
    · cases h1
    · injection hv with hA hn hc
      injection hA with hA
      injection hA with hA _ _
      subst hA
      exact (Array.getElem?_eq_some_iff.1 hb').1
  have how : w1.ownsRow base T 3 (.slice (some ⟨g, 0, none⟩) n c) n (prows rs) := own_touch h.own (Tch.of_below (K := fun _ => False) hb) fun _ _ h => h
  refine ⟨⟨by rw [List.length_set]; exact h.len, ?_, fun r hr => ?_⟩, ?_⟩
  · rw [prows_set (r := (rs[k].1, A', c')) hk rfl]
    exact own_set how _
  · rcases List.mem_or_eq_of_mem_set hr with hr | rfl
    · obtain ⟨h1, h2⟩ := h.each r hr
      refine ⟨?_, h2⟩
      by_cases hbn : r.1.b = []
      · rw [hbn]; exact .inl rfl
      · exact bytes_touch (h1.below hb) (Tch.set w1 g _ _) fun k' o e hk' => h2 hbn k' o e (by show some g = some k'; rw [hk'])
    · have hbytes : Bytes w1 A' rs[k].1.b := Sees.of_own ho
      have hne : rs[k].1.b ≠ [] → ∀ k' o, A' = some ⟨k', o, none⟩ → g ≠ k' := fun hbn k' o e => by
        rcases ho.2 with ⟨_, h0⟩ | ⟨g', cap, cur, hv, hg', _⟩
        · exact absurd (List.eq_nil_of_length_eq_zero h0) hbn
        · injection hv with hA _ _
          rw [e] at hA
          injection hA with hA
          injection hA with hA _ _
          omega
      refine ⟨?_, fun hbn k' o e hx => hne hbn k' o e (by injection hx)⟩
      by_cases hbn : rs[k].1.b = []
      · show Bytes _ A' rs[k].1.b
        rw [hbn]; exact .inl rfl
      · exact bytes_touch hbytes (Tch.set w1 g _ _) fun k' o e hk' => hne hbn k' o e hk'.symm
  · rw [List.map_set]
    apply List.ext_getElem?
    intro t
    rw [List.getElem?_set]
    by_cases ht : k = t
    · subst ht
      rw [if_pos rfl, if_pos (by rw [List.length_map]; exact hk), List.getElem?_map, List.getElem?_eq_getElem hk]
      rfl
    · rw [if_neg ht]
end Go.Cat.Vol
namespace Go.Proofs.Ytjdpljhhlmcbaaa
open Go.RowKit Go.Cat Go.Cat.Vol

/-- Patches in new memory. -/
def ToldV (l : List Pv) (w : World) (e : Ending) (w' : World) : Prop := ∃ A c rs, e = .returned (.slice A rs.length c) ∧ rs.map (·.1) = l ∧ Pats w' A rs ∧ Below w.heap.size w w'

set_option maxRecDepth 100000 in
set_option maxHeartbeats 4000000 in
theorem vsort_any (A : Option Addr) (rs : List Pr) (c : Nat) (w : World) (hp : Pats w A rs) (hn : rs.length ≤ 40) (hb : ∀ r ∈ rs, r.1.b.length ≤ 200) :
    Calls Try.prog 26 #[.slice A rs.length c] w (ToldV (sortV (rs.map (·.1))) w) := by
  have P1 := Lib.hid (pclone_any A rs.length c rs w hp.row rfl (by omega))
  obtain ⟨n, hnn⟩ : ∃ n, n = rs.length := ⟨_, rfl⟩
  have HN := Lib.hid hnn
  rw [← hnn] at P1 hn ⊢
  have HP := Lib.hid hp
  have HBl := Lib.hid hb
  clear hp hb hnn
  go_enter Try.func26, Try.ntmps26
  go_wp2_with fail
  refine (P1.out).mono ?_
  rintro e w1 ⟨A2, c2, rfl, ho, hB1⟩
  have hc0 : Cps w.heap.size 80 A2 n c2 rs w1 := ⟨HN.out.symm, ho, fun r hr => ⟨(HP.out.each r hr).below hB1, fun hbn k o e hk => by
    have hlt : k < w.heap.size := by
      rcases HP.out.each r hr with h | ⟨b', o', hA, hc⟩
      · exact absurd (by simpa using h) hbn
      · rw [e] at hA
        injection hA with hA
        injection hA with h1 h2 _
        subst h1
        cases hbl : r.1.b with
        | nil => exact absurd hbl hbn
        | cons x l => exact World.block_lt_of_cell? w _ (hc 0 (by8 x) (by rw [hbl]; rfl))
    rcases ho.2 with ⟨h1, _⟩ | ⟨g', cap, cur, hv, hg, _⟩
    · injection h1 with h1; rw [h1] at hk; cases hk
    · injection hv with hA _ _
      rw [hA] at hk
      injection hk with hk
      have : g' = k := hk
      omega⟩⟩
  have HC0 := Lib.hid hc0
  have HB1 := Lib.hid hB1
  clear hc0 ho hB1 P1
  go_wp2_with fail
  go_loopw [9] (fun iv wr => ∃ (k : Nat) (rk : List Pr), k ≤ n ∧ iv = .int .i64 k ∧ Hid (Cps w.heap.size 80 A2 n c2 rk wr) ∧ Hid (rk.map (·.1) = rs.map (·.1)) ∧ Hid (Below w.heap.size w wr)) (fun iv _ => n - (intOf iv).toNat)
  case atStart => exact ⟨0, rs, Nat.zero_le _, rfl, HC0.out, rfl, HB1.out⟩
  case round =>
    clear HC0 HB1
    obtain ⟨k, rk, hk, rfl, HC, HE, HB⟩ := hrel
    by_cases hlt : k < n
    · have t1 : decide ((k : Int) < (n : Int)) = true := by simp; omega
      have hkl : k < rk.length := by have := HC.out.len; omega
      obtain ⟨g, hA, hgb⟩ : ∃ g, A2 = some ⟨g, 0, none⟩ ∧ w.heap.size ≤ g := by
        rcases HC.out.own.2 with ⟨_, h⟩ | ⟨g', cap, cur, hv, hg, _⟩
        · omega
        · injection hv with hA _ _
          exact ⟨g', hA, hg⟩
      subst hA
      have HGb := Lib.hid hgb
      clear hgb
      obtain ⟨b, off, hA, hbl, q0, q1, q2⟩ := prows_at (ownN_sees HC.out.own) hkl
      injection hA with hA
      injection hA with h1 h2 _
      subst h1 h2
      rw [Nat.zero_add] at q0 q1 q2
      have hl2 : rk[k].1.b.length ≤ 200 := by
        have h3 : rk[k].1 ∈ rs.map (·.1) := by rw [← HE.out]; exact List.mem_map.2 ⟨_, List.getElem_mem hkl, rfl⟩
        obtain ⟨r, hr, he⟩ := List.mem_map.1 h3
        rw [← he]
        exact HBl.out r hr
      have P2 := Lib.hid (bclone_any rk[k].2.1 rk[k].1.b.length rk[k].2.2 rk[k].1.b wr (HC.out.each _ (List.getElem_mem hkl)).1 rfl (by omega))
      have P3 : Hid (∀ w1 A' c', Below wr.heap.size wr w1 → w1.ownsRow wr.heap.size 5 1 (.slice A' rk[k].1.b.length c') rk[k].1.b.length (rk[k].1.b.map by8) → _) := fun w1 A' c' h1 h2 => HC.out.put hkl h1 h2
      have hfz := fun (w1 : World) (h : Below wr.heap.size wr w1) => own_frozen (j := k * 3 + 2) (own_touch HC.out.own (Tch.of_below (K := fun _ => False) h) fun _ _ h => h)
      have HFz := Lib.hid hfz
      have HQ2 := Lib.hid q2
      have HBl2 := Lib.hid hbl
      obtain ⟨m, hm⟩ : ∃ m, m = rk[k].1.b.length := ⟨_, rfl⟩
      obtain ⟨D, hD⟩ : ∃ D, D = rk[k].2.1 := ⟨_, rfl⟩
      obtain ⟨cc, hcc⟩ : ∃ cc, cc = rk[k].2.2 := ⟨_, rfl⟩
      rw [← hm] at P2 P3 q2
      rw [← hD, ← hcc] at P2 q2
      have hkI : (k : Int) < (n : Int) := by omega
      have hk0 : (0 : Int) ≤ (k : Int) := by omega
      clear hm hD hcc hl2 hfz q0 q1 hbl
      go_wp2_with fail
      refine (P2.out).mono ?_
      rintro e w2 ⟨A3, c3, rfl, ho3, hB3⟩
      obtain ⟨hc3, he3⟩ := P3.out w2 A3 c3 hB3 ho3
      have hf3 := HFz.out w2 hB3
      have hq3 := (hB3.cell (p := ⟨g, k * 3 + 2, none⟩) HBl2.out).trans HQ2.out
      have HC3 := Lib.hid hc3
      have HE3 := Lib.hid (he3.trans HE.out)
      have HB3 := Lib.hid (HB.out.trans (hB3.mono HB.out.size))
      clear hc3 he3 hB3 ho3 P2 P3 HFz HQ2 HC HE
      go_wp2_with fail
      go_roundw
      case rel => exact ⟨k + 1, _, by omega, by go_num, HC3.out, HE3.out, HB3.out.setCell HGb.out _⟩
      case measure => simp [intOf]; omega
    · obtain rfl : k = n := by omega
      have t1 : decide ((k : Int) < (k : Int)) = false := by simp
      have P2 := Lib.hid (sortstable_any w.heap.size A2 rk c2 wr (by rw [HC.out.len]; exact HC.out.own) (by rw [HC.out.len]; exact hn))
      unfold ToldS at P2
      rw [HC.out.len] at P2
      go_wp2_with fail
      refine (P2.out).mono ?_
      rintro e w2 ⟨rfl, rs', h1, h2, h3, h4⟩
      have hc2 := HC.out.drop h1 h3 h4
      rw [HE.out] at h2
      have hb2 : Below w.heap.size w w2 := HB.out.grown h4 HB.out.size (fun j hj => by
        rcases HC.out.own.2 with ⟨h5, _⟩ | ⟨g', cap, cur, hv, hg, _⟩
        · injection h5 with h5; rw [h5] at hj; cases hj
        · injection hv with hA _ _
          rw [hA] at hj
          injection hj with hj
          have : g' = j := hj
          omega)
      have X1 := Lib.hid hc2
      have X2 := Lib.hid h2
      have X3 := Lib.hid hb2
      clear h1 h2 h3 h4 hc2 hb2 P2
      go_wp2_with fail
      go_ret
      exact ⟨A2, c2, rs', by rw [X1.out.len]; rfl, X2.out, X1.out.pats, X3.out⟩
end Go.Proofs.Ytjdpljhhlmcbaaa
