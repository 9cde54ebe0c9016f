/- The contract of the reference's Sort at 40 patches or fewer. Condition: as said. -/
import Derived.Test.YtjdpljhhlmcbaaaIntVSort
import Derived.BigQuiet
import Derived.Deep.QuietTactic
namespace Go.Cat.Vol
open Go.RowKit Go.Cat Go.Sort
def projT (x : TP) : TV := (x.1.1, x.2)
/-- What stands in the row so far. -/
structure Rs (base : Nat) (T : TypeId) (A : Option Addr) (k c : Nat) (rs : List Pr) (S : List TP) (w : World) : Prop where
  len : S.length = k
  perm : S.Perm (rs.take k).zipIdx
  pair : (S.map projT).Pairwise fun x y => leT x y = true
  own : w.ownsRow base T 3 (.slice A k c) k (prows (S.map (·.1)))
theorem Rs.tag {base : Nat} {T : TypeId} {A : Option Addr} {k c : Nat} {rs : List Pr} {S : List TP} {w : World} (h : Rs base T A k c rs S w) : ∀ x ∈ S.map projT, x.2 < k := by
  intro x hx
  obtain ⟨y, hy, rfl⟩ := List.mem_map.1 hx
  have h1 := h.perm.mem_iff.1 hy
  obtain ⟨y1, y2⟩ := y
  rw [List.mk_mem_zipIdx_iff_getElem?] at h1
  have := (List.getElem?_eq_some_iff.1 h1).1
  rw [List.length_take] at this
  show y2 < k
  omega
theorem Rs.next {base : Nat} {T : TypeId} {A A' : Option Addr} {k c c' t : Nat} {rs : List Pr} {S : List TP} {w w' : World} (h : Rs base T A k c rs S w) (hk : k < rs.length) (ht : t ≤ k)
    (hlo : ∀ h0 : 0 < t, (S[t - 1]'(by have := h.len; omega)).1.1.key ≤ rs[k].1.key) (hhi : ∀ j (hj : j < S.length), t ≤ j → rs[k].1.key < S[j].1.1.key)
    (ho : w'.ownsRow base T 3 (.slice A' (k + 1) c') (k + 1) (prows ((S.take t).map (·.1)) ++ pcells rs[k] ++ prows ((S.drop t).map (·.1)))) : Rs base T A' (k + 1) c' rs (S.take t ++ [(rs[k], k)] ++ S.drop t) w' := by
  have hl := h.len
  refine ⟨by simp; omega, ?_, ?_, ?_⟩
  · rw [zip_snoc rs hk]
    have h1 : (S.take t ++ [(rs[k], k)] ++ S.drop t).Perm (S ++ [(rs[k], k)]) := by
      have h1 : (S.take t ++ [(rs[k], k)] ++ S.drop t).Perm (S.take t ++ S.drop t ++ [(rs[k], k)]) := by
        rw [List.append_assoc, List.append_assoc]
        exact (List.Perm.refl _).append List.perm_append_comm
      rw [List.take_append_drop] at h1
      exact h1
    exact h1.trans (h.perm.append (List.Perm.refl _))
  · have hp := ins_pair (S := S.map projT) (p := projT (rs[k], k)) (k := t) (by rw [List.length_map]; omega) h.pair h.tag
      (fun h0 => by rw [List.getElem_map]; exact hlo h0) (fun j hj htj => by
        rw [List.length_map] at hj
        rw [List.getElem_map]
        exact hhi j hj htj)
    rw [List.map_append, List.map_append, List.map_take, List.map_drop]
    exact hp
  · rw [List.map_append, List.map_append]
    unfold prows at ho ⊢
    rw [List.flatMap_append, List.flatMap_append]
    have e : List.flatMap pcells (List.map (fun x : TP => x.1) [(rs[k], k)]) = pcells rs[k] := by simp
    rw [e]
    exact ho
theorem Rs.done {base : Nat} {T : TypeId} {A : Option Addr} {c : Nat} {rs : List Pr} {S : List TP} {w : World} (h : Rs base T A rs.length c rs S w) : (S.map (·.1)).map (·.1) = sortV (rs.map (·.1)) := by
  have hperm := h.perm
  rw [List.take_length] at hperm
  have hq : (S.map projT).Perm ((rs.map (·.1)).zipIdx) := by
    have h1 := hperm.map projT
    have h2 : (rs.zipIdx).map projT = (rs.map (·.1)).zipIdx := by rw [List.zipIdx_map]; rfl
    rw [h2] at h1
    exact h1
  have := sort_uniq hq h.pair
  rw [← this, List.map_map, List.map_map]
  rfl
/-- The tail of a slice of patches that the call owns. -/
theorem ptail {w : World} {base g k c t : Nat} {T : TypeId} {xs : List Pr} (h : w.ownsRow base T 3 (.slice (some ⟨g, 0, none⟩) k c) k (prows xs)) (hl : xs.length = k) (ht : t ≤ k) :
    ∃ A2 : Addr, (if c = t then some (⟨g, 0, none⟩ : Addr) else some ⟨g, t * 3, none⟩) = some A2 ∧ Sees w (some A2) (prows (xs.drop t)) := by
  have hkc : k ≤ c := by
    rcases h.2 with ⟨h1, _⟩ | ⟨g', cap, cur, hv, hg, hb, h1, h2, h3, h4⟩
    · cases h1
    · injection hv with _ _ hc; omega
  by_cases hc : c = t
  · have e : prows (xs.drop t) = [] := by rw [List.drop_of_length_le (by omega)]; rfl
    exact ⟨_, by rw [if_pos hc], by rw [e]; exact .inl rfl⟩
  · refine ⟨_, by rw [if_neg hc], ?_⟩
    by_cases hn : xs.length = t
    · have e : prows (xs.drop t) = [] := by rw [List.drop_of_length_le (by omega)]; rfl
      rw [e]; exact .inl rfl
    · rcases ownN_sees h with h | ⟨b, off, hA, hcell⟩
      · have := congrArg List.length h
        rw [prows_length] at this
        simp only [List.length_nil] at this
        omega
      · injection hA with hA
        injection hA with h1 h2 _
        subst h1 h2
        refine .inr ⟨g, t * 3, rfl, fun j u hu => ?_⟩
        have e1 : prows xs = prows (xs.take t) ++ prows (xs.drop t) := by unfold prows; rw [← List.flatMap_append, List.take_append_drop]
        have e2 : (prows (xs.take t)).length = t * 3 := by rw [prows_length, List.length_take, Nat.min_eq_left (by omega)]
        have := hcell (t * 3 + j) u (by rw [e1, List.getElem?_append_right (by omega), e2, Nat.add_sub_cancel_left]; exact hu)
        rw [Nat.zero_add] at this
        exact this
theorem phead {w : World} {A : Option Addr} {t : Nat} {xs : List Pr} (h : Sees w A (prows xs)) : Sees w A (prows (xs.take t)) := by
  rcases h with h | ⟨b, off, hA, hc⟩
  · left
    have h1 := congrArg List.length h
    rw [prows_length] at h1
    have : xs = [] := List.eq_nil_of_length_eq_zero (by simp only [List.length_nil] at h1; omega)
    rw [this]; simp [prows]
  · refine .inr ⟨b, off, hA, fun j u hu => hc j u ?_⟩
    have e1 : prows xs = prows (xs.take t) ++ prows (xs.drop t) := by unfold prows; rw [← List.flatMap_append, List.take_append_drop]
    rw [e1, List.getElem?_append_left (List.getElem?_eq_some_iff.1 hu).1]
    exact hu
end Go.Cat.Vol
namespace Go.Proofs.Ytjdpljhhlmcbaaa
open Go.RowKit Go.Cat Go.Cat.Vol

set_option maxRecDepth 100000 in
set_option maxHeartbeats 16000000 in
theorem rsort_any (A : Option Addr) (rs : List Pr) (c : Nat) (w : World) (hp : Pats w A rs) (hn : rs.length ≤ 40) :
    Calls Try.prog 27 #[.slice A rs.length c] w (ToldV (sortV (rs.map (·.1))) w) := by
  obtain ⟨n, hnn⟩ : ∃ n, n = rs.length := ⟨_, rfl⟩
  have HN := Lib.hid hnn
  rw [← hnn] at hn ⊢
  have HP := Lib.hid hp
  clear hp hnn
  go_enter Try.func27, Try.ntmps27
  go_wp2_with fail
  go_loopg [3, 4] n (fun kx ov iv wr => ∃ (k : Nat) (A2 : Option Addr) (c2 : Nat) (S : List TP), k ≤ n ∧ n - k ≤ kx ∧ iv = .int .i64 k ∧ ov = .slice A2 k c2 ∧ Hid (Rs w.heap.size 89 A2 k c2 rs S wr) ∧ Hid (Below w.heap.size w wr))
  case atStart => exact ⟨0, none, 0, [], Nat.zero_le _, by omega, rfl, rfl, ⟨rfl, by simp, List.Pairwise.nil, World.ownsRow_nil _ _ _ _⟩, Below.refl _ _⟩
  case round =>
    obtain ⟨k, A2, c2, S, hk, hkx, rfl, rfl, HR, HB⟩ := hrel
    by_cases hlt : k < n
    · have t1 : decide ((k : Int) < (n : Int)) = true := by simp; omega
      have hkI : (k : Int) < (n : Int) := by omega
      have hk0 : (0 : Int) ≤ (k : Int) := by omega
      have hkl : k < rs.length := by have := HN.out; omega
      obtain ⟨b, off, hA, hbl, q0, q1, q2⟩ := prows_at HP.out.row hkl
      obtain ⟨p, hpk⟩ : ∃ p, p = rs[k] := ⟨_, rfl⟩
      rw [← hpk] at q0 q1 q2
      obtain ⟨x, hx⟩ : ∃ x, x = p.1.key := ⟨_, rfl⟩
      obtain ⟨y, hy⟩ : ∃ y, y = p.1.ver := ⟨_, rfl⟩
      obtain ⟨D, hD⟩ : ∃ D, D = p.2.1 := ⟨_, rfl⟩
      obtain ⟨m, hm⟩ : ∃ m, m = p.1.b.length := ⟨_, rfl⟩
      obtain ⟨cc, hcc⟩ : ∃ cc, cc = p.2.2 := ⟨_, rfl⟩
      have hpc : pcells rs[k] = [.int .u32 x, .int .u64 y, .slice D m cc] := by rw [hx, hy, hD, hm, hcc, hpk]; rfl
      have hone : ∀ u ∈ [Value.int .u32 x, .int .u64 y, .slice D m cc], u.oneCell' = true := by rw [← hpc]; exact one_pcells _
      rw [← hx] at q0
      rw [← hy] at q1
      rw [← hD, ← hm, ← hcc] at q2
      have HQ : Hid (∀ W, Below w.heap.size w W → W.cell? ⟨b, off + k * 3, none⟩ = some (.int .u32 x) ∧ W.cell? ⟨b, off + k * 3 + 1, none⟩ = some (.int .u64 y) ∧ W.cell? ⟨b, off + k * 3 + 2, none⟩ = some (.slice D m cc)) := fun W h => ⟨(h.cell (p := ⟨b, off + k * 3, none⟩) hbl).trans q0, (h.cell (p := ⟨b, off + k * 3 + 1, none⟩) hbl).trans q1, (h.cell (p := ⟨b, off + k * 3 + 2, none⟩) hbl).trans q2⟩
      have HPc := Lib.hid hpc
      have HOne := Lib.hid hone
      have HX : Hid (x = rs[k].1.key) := by rw [hx, hpk]; rfl
      have HKl := Lib.hid hkl
      subst hA
      obtain ⟨z0, z1, z2⟩ := HQ.out wr HB.out
      clear hpc hone hx hy hD hm hcc q0 q1 q2 hbl hpk
      go_wp2_with fail
      go_loopg [5] k (fun ky tv wi => ∃ (t q : Nat), t ≤ k ∧ t ≤ ky ∧ tv = .int .i64 t ∧ Hid (∀ j (hj : j < S.length), t ≤ j → x < S[j].1.1.key) ∧ wi = wr.drewN q)
      case atStart => exact ⟨k, 0, Nat.le_refl _, Nat.le_refl _, rfl, fun j hj h => by have := HR.out.len; omega, rfl⟩
      case round =>
        obtain ⟨t, q, ht, hky, rfl, HHi, rfl⟩ := hrel
        by_cases ht0 : 0 < t
        · have d0 : decide ((0 : Int) < (t : Int)) = true := by simp; omega
          have d0n : decide (0 < t) = true := by simpa using ht0
          have hts : t - 1 < S.length := by have := HR.out.len; omega
          have htm : t - 1 < (S.map (·.1)).length := by rw [List.length_map]; exact hts
          obtain ⟨g, hA2⟩ : ∃ g, A2 = some ⟨g, 0, none⟩ := by
            rcases HR.out.own.2 with ⟨_, h⟩ | ⟨g', cap, cur, hv, _⟩
            · omega
            · injection hv with hA _ _
              exact ⟨g', hA⟩
          subst hA2
          obtain ⟨b', off', hA', hbl', y0, yx1, yx2⟩ := prows_at (ownN_sees HR.out.own) htm
          injection hA' with hA'
          injection hA' with g1 g2 _
          subst g1 g2
          rw [List.getElem_map, Nat.zero_add] at y0
          obtain ⟨v, hv⟩ : ∃ v, v = S[t - 1].1.1.key := ⟨_, rfl⟩
          rw [← hv] at y0
          have HV := Lib.hid hv
          have e1 : IntKind.i64.wrap ((t : Int) - 1) = ((t - 1 : Nat) : Int) := by rw [IntKind.wrap_i64]; omega
          have e2 : (t : Int) - 1 = ((t - 1 : Nat) : Int) := by omega
          have e3 : ((t - 1 : Nat) : Int) < (k : Int) := by omega
          have e4 : (0 : Int) ≤ ((t - 1 : Nat) : Int) := by omega
          obtain ⟨tp, htp⟩ : ∃ tp, tp = t - 1 := ⟨_, rfl⟩
          rw [← htp] at e1 e2 e3 e4 y0
          have e5 : IntKind.i64.wrap (tp : Int) = (tp : Int) := by rw [IntKind.wrap_i64]; omega
          have HTp := Lib.hid htp
          clear hv yx1 yx2 hbl'
          by_cases hgt : x < v
          · have d1 : decide (x < v) = true := by simpa using hgt
            have HHi2 : Hid (∀ j (hj : j < S.length), t - 1 ≤ j → x < S[j].1.1.key) := fun j hj h => by
              by_cases e : j = t - 1
              · subst e; rw [← HV.out]; exact hgt
              · exact HHi.out j hj (by omega)
            clear htp
            go_wp2_with fail
            go_quiet (fail)
            clear e1 e5
            go_wp2_with fail
            go_roundg (t - 1)
            case measure => omega
            case rel => exact ⟨t - 1, q + nq, by omega, Nat.le_refl _, by first | rfl | (rw [← HTp.out]) | (congr 1 <;> omega), HHi2.out, by first | rfl | (rw [World.drewN_add]) | (simp [World.drewN, Nat.add_assoc])⟩
          · have d1 : decide (x < v) = false := by simpa using hgt
            have HLo : Hid (∀ h0 : 0 < t, (S[t - 1]'(by have := HR.out.len; omega)).1.1.key ≤ x) := fun _ => by rw [← HV.out]; omega
            clear htp
            go_wp2_with fail
            go_quiet (fail)
            clear e1 e2 e5 y0 z0 z1 z2
            go_upto_region 8 with (fail)
            obtain ⟨wi, hwi⟩ : ∃ wi, wi = (wr.drewN q).drewN nq := ⟨_, rfl⟩
            have hown : wi.ownsRow w.heap.size 89 3 (.slice (some ⟨g, 0, none⟩) k c2) k (prows (S.map (·.1))) := by rw [hwi]; exact HR.out.own
            have HBi : Hid (Below w.heap.size w wi) := by show Below _ _ _; rw [hwi]; exact below_drewN (below_drewN HB.out _) _
            rw [← hwi]
            clear hwi
            have hSl : (S.map (·.1)).length = k := by rw [List.length_map]; exact HR.out.len
            obtain ⟨A3, hA3, hs3⟩ := ptail hown hSl ht
            have HS3 := Lib.hid hs3
            have hl3 : (prows ((S.map (·.1)).drop t)).length = (k - t) * 3 := (prows_length _).trans (congrArg (· * 3) ((List.length_drop).trans (by rw [hSl]; first | done | omega)))
            have HL3 := Lib.hid hl3
            have HO3 := Lib.hid (one_prows ((S.map (·.1)).drop t))
            have hlh : (prows ((S.map (·.1)).take t)).length = t * 3 := by rw [prows_length, List.length_take, hSl]; omega
            have HLh := Lib.hid hlh
            have HOh := Lib.hid (one_prows ((S.map (·.1)).take t))
            have HHd := Lib.hid (phead (t := t) (ownN_sees hown))
            have hbig : (0 + (k - t)) * 40 ≤ 140737488355328 := by omega
            have HBig := Lib.hid hbig
            have hkc : k ≤ c2 := by
              rcases hown.2 with ⟨h1, h2⟩ | ⟨g', cap, cur, hv, hg, hb, h1, h2, h3, h4⟩
              · omega
              · injection hv with _ _ hc; omega
            have htc : t ≤ c2 := by omega
            have htcz : (t : Int) ≤ (c2 : Int) := by omega
            have htcz0 : (0 : Int) ≤ (t : Int) := by omega
            clear hs3 hl3 hlh hSl hown hbig
            go_wp2_with (at_builtin; refine wpList_app elem_rpatchL rfl _ _ rfl w.heap.size (.slice none 0 0) 0 [] rfl (World.ownsRow_nil _ _ _ _) (some A3) (k - t) (c2 - t) (prows ((S.map (·.1)).drop t)) rfl HS3.out HL3.out HO3.out HBig.out HBi.out.size ?_; intro v3 w3 hown3 hg3 _; simp only [Nat.zero_add, List.nil_append] at hown3; obtain ⟨A4, c4, rfl, _, _⟩ := own_full hown3; have HR4 := Lib.hid (ownN_sees hown3); have HB3 := Lib.hid (HBi.out.own (World.ownsRow_nil wi w.heap.size 89 3) hg3 HBi.out.size (Nat.le_refl _)); have HB3i := Lib.hid ((Below.refl wi.heap.size wi).own (World.ownsRow_nil wi wi.heap.size 89 3) hg3 (Nat.le_refl _) (Nat.le_refl _)); clear hown3 hg3)
            have HSh : Hid (∀ W, Below w3.heap.size w3 W → Sees W ((some ⟨g, 0, none⟩)) (prows ((S.map (·.1)).take t))) := fun W h => (HHd.out.below HB3i.out).below h
            have HSr : Hid (∀ W, Below w3.heap.size w3 W → Sees W A4 (prows ((S.map (·.1)).drop t))) := fun W h => HR4.out.below h
            have HQ3 : Hid (∀ W, Below w3.heap.size w3 W → W.cell? ⟨b, off + k * 3, none⟩ = some (.int .u32 x) ∧ W.cell? ⟨b, off + k * 3 + 1, none⟩ = some (.int .u64 y) ∧ W.cell? ⟨b, off + k * 3 + 2, none⟩ = some (.slice D m cc)) := fun W h => HQ.out W (HB3.out.trans (h.mono HB3.out.size))
            obtain ⟨z0, z1, z2⟩ := HQ3.out w3 (Below.refl _ _)
            clear HHd HR4 HB3i
            go_region_law (first
              | (refine step_app elem_rpatchL rfl (.tmp 46) (.tmp 47) rfl w3.heap.size (.slice A6 (t + 1) c6) (t + 1) (prows ((S.map (·.1)).take t) ++ [.int .u32 x, .int .u64 y, .slice D m cc]) rfl HO6.out A4 (k - t) c4 (prows ((S.map (·.1)).drop t)) rfl (HSr.out w6 HB6.out) HL3.out HO3.out (by omega) HB6.out.size ?_; intro v7 w7 ho7 hg7 _; obtain ⟨A7, c7, rfl, _, _⟩ := own_full ho7; have HO7 := Lib.hid ho7; have HB7 := Lib.hid (HB6.out.own HO6.out hg7 HB6.out.size (Nat.le_refl _)); clear ho7 hg7)
              | (refine step_app elem_rpatchL rfl (.tmp 40) (.tmp 45) rfl w3.heap.size (.slice A5 t c5) t (prows ((S.map (·.1)).take t)) rfl HO5b.out (some ⟨w3.heap.size, 0, none⟩) 1 1 [.int .u32 x, .int .u64 y, .slice D m cc] rfl HSeeb.out rfl HOne.out (by omega) HB5b.out.size ?_; intro v6 w6 ho6 hg6 _; obtain ⟨A6, c6, rfl, _, _⟩ := own_full ho6; have HO6 := Lib.hid ho6; have HB6 := Lib.hid (HB5b.out.own HO5b.out hg6 HB5b.out.size (Nat.le_refl _)); clear ho6 hg6)
              | (refine step_app elem_rpatchL rfl (.tmp 40) (.tmp 45) rfl w3.heap.size (.slice A5 t c5) t (prows ((S.map (·.1)).take t)) rfl (World.ownsRow.alloc HO5.out _) (some ⟨_, 0, none⟩) 1 1 [.int .u32 x, .int .u64 y, .slice D m cc] rfl (sees_new _ _ _) rfl HOne.out (by omega) HZ5.out ?_; intro v6 w6 ho6 hg6 _; obtain ⟨A6, c6, rfl, _, _⟩ := own_full ho6; have HO6 := Lib.hid ho6; have HB6 := Lib.hid ((HB5.out.alloc HB5.out.size _).own (World.ownsRow.alloc HO5.out _) hg6 HZ5.out (Nat.le_refl _)); clear ho6 hg6)
              | (refine step_app elem_rpatchL rfl (.const (.slice none 0 0)) (.tmp 39) rfl w3.heap.size (.slice none 0 0) 0 [] rfl (World.ownsRow_nil _ _ _ _) ((some ⟨g, 0, none⟩)) t c2 (prows ((S.map (·.1)).take t)) rfl (HSh.out w3.drew (Below.refl _ _).drew) HLh.out HOh.out (by omega) (Nat.le_refl _) ?_; intro v5 w5 ho5 hg5 _; simp only [Nat.zero_add, List.nil_append] at ho5; obtain ⟨A5, c5, rfl, _, _⟩ := own_full ho5; have HO5 := Lib.hid ho5; have HB5 := Lib.hid ((Below.refl w3.heap.size w3).drew.own (World.ownsRow_nil w3.drew w3.heap.size 89 3) hg5 (Nat.le_refl _) (Nat.le_refl _)); obtain ⟨b0, b1, b2⟩ := HQ3.out w5 HB5.out; have HZ5 := Lib.hid (show w3.heap.size ≤ (w5.alloc (.cells #[.int .u32 x, .int .u64 y, .slice D m cc] 89)).heap.size by have := HB5.out.size; simp; omega); clear ho5 hg5)
              | (refine step_app elem_rpatchL rfl (.const (.slice none 0 0)) (.tmp 39) rfl w3.heap.size (.slice none 0 0) 0 [] rfl (World.ownsRow_nil _ _ _ _) ((some ⟨g, 0, none⟩)) t c2 (prows ((S.map (·.1)).take t)) rfl (HSh.out (w3.alloc (.cells #[.int .u32 x, .int .u64 y, .slice D m cc] 89)).drew (((Below.refl _ _).alloc (Nat.le_refl _) _).drew)) HLh.out HOh.out (by omega) (by simp) ?_; intro v5 w5 ho5 hg5 _; simp only [Nat.zero_add, List.nil_append] at ho5; obtain ⟨A5, c5, rfl, _, _⟩ := own_full ho5; have HO5b := Lib.hid ho5; have HB5b := Lib.hid ((((Below.refl w3.heap.size w3).alloc (Nat.le_refl _) (.cells #[.int .u32 x, .int .u64 y, .slice D m cc] 89)).drew).own (World.ownsRow_nil _ w3.heap.size 89 3) hg5 (by simp) (Nat.le_refl _)); have HSeeb := Lib.hid ((sees_new w3 [.int .u32 x, .int .u64 y, .slice D m cc] 89).below ((Below.refl (w3.alloc (.cells #[.int .u32 x, .int .u64 y, .slice D m cc] 89)).heap.size (w3.alloc (.cells #[.int .u32 x, .int .u64 y, .slice D m cc] 89))).drew.own (World.ownsRow_nil _ (w3.alloc (.cells #[.int .u32 x, .int .u64 y, .slice D m cc] 89)).heap.size 89 3) hg5 (Nat.le_refl _) (Nat.le_refl _))); clear ho5 hg5)
              | fail)
            all_goals
              have hB7 := HB3.out.trans (HB7.out.mono HB3.out.size)
              have hlen : t + 1 + (k - t) = k + 1 := by omega
              have ho8 := own_mono HO7.out HB3.out.size
              rw [hlen] at ho8
              have hnext := HR.out.next (A' := A7) (c' := c7) (w' := w7) (t := t) HKl.out (by omega) (fun h0 => by have := HLo.out h0; rw [HX.out] at this; exact this) (fun j hj htj => by have := HHi.out j hj htj; rw [HX.out] at this; exact this) (by rw [HPc.out, List.map_take, List.map_drop]; exact ho8)
              have HN2 := Lib.hid hnext
              have HB8 := Lib.hid hB7
              have HLen := Lib.hid hlen
              clear ho8 hnext hB7 hlen
              go_wp2_with fail
              go_roundg (n - (k + 1))
              case measure => omega
              case rel => exact ⟨k + 1, A7, c7, _, by omega, Nat.le_refl _, by go_num, by rw [HLen.out], HN2.out, HB8.out⟩
        · obtain rfl : t = 0 := by omega
          have d0 : decide ((0 : Int) < 0) = false := rfl
          have HLo : Hid (∀ h0 : 0 < 0, (S[0 - 1]'(by omega)).1.1.key ≤ x) := fun h0 => absurd h0 (Nat.lt_irrefl 0)
          go_wp2_with fail
          go_quiet (fail)
          cases A2 with
          | none =>
            have hk0' : k = 0 := by
              rcases HR.out.own.2 with ⟨_, h⟩ | ⟨g', cap, cur, hv, _⟩
              · exact h
              · cases hv
            go_upto_region 8 with (fail)
            obtain ⟨wi, hwi⟩ : ∃ wi, wi = (wr.drewN q).drewN nq := ⟨_, rfl⟩
            have hown : wi.ownsRow w.heap.size 89 3 (.slice none k c2) k (prows (S.map (·.1))) := by rw [hwi]; exact HR.out.own
            have HBi : Hid (Below w.heap.size w wi) := by show Below _ _ _; rw [hwi]; exact below_drewN (below_drewN HB.out _) _
            rw [← hwi]
            clear hwi
            have hSl : (S.map (·.1)).length = k := by rw [List.length_map]; exact HR.out.len
            have hs3 : ∀ A9 : Option Addr, Sees wi A9 (prows ((S.map (·.1)).drop 0)) := fun A9 => by
              rw [List.eq_nil_of_length_eq_zero (hSl.trans hk0')]
              exact .inl rfl
            have HS3 := Lib.hid hs3
            have hl3 : (prows ((S.map (·.1)).drop 0)).length = (k) * 3 := (prows_length _).trans (congrArg (· * 3) ((List.length_drop).trans (by rw [hSl]; first | done | omega)))
            have HL3 := Lib.hid hl3
            have HO3 := Lib.hid (one_prows ((S.map (·.1)).drop 0))
            have hlh : (prows ((S.map (·.1)).take 0)).length = 0 * 3 := by rw [prows_length, List.length_take, hSl]; omega
            have HLh := Lib.hid hlh
            have HOh := Lib.hid (one_prows ((S.map (·.1)).take 0))
            have HHd := Lib.hid (phead (t := 0) (ownN_sees hown))
            have hbig : (0 + (k)) * 40 ≤ 140737488355328 := by omega
            have HBig := Lib.hid hbig
            have hkc : k ≤ c2 := by
              rcases hown.2 with ⟨h1, h2⟩ | ⟨g', cap, cur, hv, hg, hb, h1, h2, h3, h4⟩
              · omega
              · injection hv with _ _ hc; omega
            have htc : 0 ≤ c2 := by omega
            have htcz : (0 : Int) ≤ (c2 : Int) := by omega
            have htcz0 : (0 : Int) ≤ (0 : Int) := by omega
            clear hs3 hl3 hlh hSl hown hbig hk0'
            go_wp2_with (at_builtin; refine wpList_app elem_rpatchL rfl _ _ rfl w.heap.size (.slice none 0 0) 0 [] rfl (World.ownsRow_nil _ _ _ _) (_) (k) (_) (prows ((S.map (·.1)).drop 0)) rfl (HS3.out _) HL3.out HO3.out HBig.out HBi.out.size ?_; intro v3 w3 hown3 hg3 _; simp only [Nat.zero_add, List.nil_append] at hown3; obtain ⟨A4, c4, rfl, _, _⟩ := own_full hown3; have HR4 := Lib.hid (ownN_sees hown3); have HB3 := Lib.hid (HBi.out.own (World.ownsRow_nil wi w.heap.size 89 3) hg3 HBi.out.size (Nat.le_refl _)); have HB3i := Lib.hid ((Below.refl wi.heap.size wi).own (World.ownsRow_nil wi wi.heap.size 89 3) hg3 (Nat.le_refl _) (Nat.le_refl _)); clear hown3 hg3)
            have HSh : Hid (∀ W, Below w3.heap.size w3 W → Sees W (none) (prows ((S.map (·.1)).take 0))) := fun W h => (HHd.out.below HB3i.out).below h
            have HSr : Hid (∀ W, Below w3.heap.size w3 W → Sees W A4 (prows ((S.map (·.1)).drop 0))) := fun W h => HR4.out.below h
            have HQ3 : Hid (∀ W, Below w3.heap.size w3 W → W.cell? ⟨b, off + k * 3, none⟩ = some (.int .u32 x) ∧ W.cell? ⟨b, off + k * 3 + 1, none⟩ = some (.int .u64 y) ∧ W.cell? ⟨b, off + k * 3 + 2, none⟩ = some (.slice D m cc)) := fun W h => HQ.out W (HB3.out.trans (h.mono HB3.out.size))
            obtain ⟨z0, z1, z2⟩ := HQ3.out w3 (Below.refl _ _)
            clear HHd HR4 HB3i
            go_region_law (first
              | (refine step_app elem_rpatchL rfl (.tmp 46) (.tmp 47) rfl w3.heap.size (.slice A6 (0 + 1) c6) (0 + 1) (prows ((S.map (·.1)).take 0) ++ [.int .u32 x, .int .u64 y, .slice D m cc]) rfl HO6.out A4 (k) c4 (prows ((S.map (·.1)).drop 0)) rfl (HSr.out w6 HB6.out) HL3.out HO3.out (by omega) HB6.out.size ?_; intro v7 w7 ho7 hg7 _; obtain ⟨A7, c7, rfl, _, _⟩ := own_full ho7; have HO7 := Lib.hid ho7; have HB7 := Lib.hid (HB6.out.own HO6.out hg7 HB6.out.size (Nat.le_refl _)); clear ho7 hg7)
              | (refine step_app elem_rpatchL rfl (.tmp 40) (.tmp 45) rfl w3.heap.size (.slice A5 0 c5) 0 (prows ((S.map (·.1)).take 0)) rfl HO5b.out (some ⟨w3.heap.size, 0, none⟩) 1 1 [.int .u32 x, .int .u64 y, .slice D m cc] rfl HSeeb.out rfl HOne.out (by omega) HB5b.out.size ?_; intro v6 w6 ho6 hg6 _; obtain ⟨A6, c6, rfl, _, _⟩ := own_full ho6; have HO6 := Lib.hid ho6; have HB6 := Lib.hid (HB5b.out.own HO5b.out hg6 HB5b.out.size (Nat.le_refl _)); clear ho6 hg6)
              | (refine step_app elem_rpatchL rfl (.tmp 40) (.tmp 45) rfl w3.heap.size (.slice A5 0 c5) 0 (prows ((S.map (·.1)).take 0)) rfl (World.ownsRow.alloc HO5.out _) (some ⟨_, 0, none⟩) 1 1 [.int .u32 x, .int .u64 y, .slice D m cc] rfl (sees_new _ _ _) rfl HOne.out (by omega) HZ5.out ?_; intro v6 w6 ho6 hg6 _; obtain ⟨A6, c6, rfl, _, _⟩ := own_full ho6; have HO6 := Lib.hid ho6; have HB6 := Lib.hid ((HB5.out.alloc HB5.out.size _).own (World.ownsRow.alloc HO5.out _) hg6 HZ5.out (Nat.le_refl _)); clear ho6 hg6)
              | (refine step_app elem_rpatchL rfl (.const (.slice none 0 0)) (.tmp 39) rfl w3.heap.size (.slice none 0 0) 0 [] rfl (World.ownsRow_nil _ _ _ _) (none) 0 c2 (prows ((S.map (·.1)).take 0)) rfl (HSh.out w3.drew (Below.refl _ _).drew) HLh.out HOh.out (by omega) (Nat.le_refl _) ?_; intro v5 w5 ho5 hg5 _; simp only [Nat.zero_add, List.nil_append] at ho5; obtain ⟨A5, c5, rfl, _, _⟩ := own_full ho5; have HO5 := Lib.hid ho5; have HB5 := Lib.hid ((Below.refl w3.heap.size w3).drew.own (World.ownsRow_nil w3.drew w3.heap.size 89 3) hg5 (Nat.le_refl _) (Nat.le_refl _)); obtain ⟨b0, b1, b2⟩ := HQ3.out w5 HB5.out; have HZ5 := Lib.hid (show w3.heap.size ≤ (w5.alloc (.cells #[.int .u32 x, .int .u64 y, .slice D m cc] 89)).heap.size by have := HB5.out.size; simp; omega); clear ho5 hg5)
              | (refine step_app elem_rpatchL rfl (.const (.slice none 0 0)) (.tmp 39) rfl w3.heap.size (.slice none 0 0) 0 [] rfl (World.ownsRow_nil _ _ _ _) (none) 0 c2 (prows ((S.map (·.1)).take 0)) rfl (HSh.out (w3.alloc (.cells #[.int .u32 x, .int .u64 y, .slice D m cc] 89)).drew (((Below.refl _ _).alloc (Nat.le_refl _) _).drew)) HLh.out HOh.out (by omega) (by simp) ?_; intro v5 w5 ho5 hg5 _; simp only [Nat.zero_add, List.nil_append] at ho5; obtain ⟨A5, c5, rfl, _, _⟩ := own_full ho5; have HO5b := Lib.hid ho5; have HB5b := Lib.hid ((((Below.refl w3.heap.size w3).alloc (Nat.le_refl _) (.cells #[.int .u32 x, .int .u64 y, .slice D m cc] 89)).drew).own (World.ownsRow_nil _ w3.heap.size 89 3) hg5 (by simp) (Nat.le_refl _)); have HSeeb := Lib.hid ((sees_new w3 [.int .u32 x, .int .u64 y, .slice D m cc] 89).below ((Below.refl (w3.alloc (.cells #[.int .u32 x, .int .u64 y, .slice D m cc] 89)).heap.size (w3.alloc (.cells #[.int .u32 x, .int .u64 y, .slice D m cc] 89))).drew.own (World.ownsRow_nil _ (w3.alloc (.cells #[.int .u32 x, .int .u64 y, .slice D m cc] 89)).heap.size 89 3) hg5 (Nat.le_refl _) (Nat.le_refl _))); clear ho5 hg5)
              | fail)
            all_goals
              have hB7 := HB3.out.trans (HB7.out.mono HB3.out.size)
              have hlen : 0 + 1 + (k) = k + 1 := by omega
              have ho8 := own_mono HO7.out HB3.out.size
              rw [hlen] at ho8
              have hnext := HR.out.next (A' := A7) (c' := c7) (w' := w7) (t := 0) HKl.out (by omega) (fun h0 => by have := HLo.out h0; rw [HX.out] at this; exact this) (fun j hj htj => by have := HHi.out j hj htj; rw [HX.out] at this; exact this) (by rw [HPc.out, List.map_take, List.map_drop]; exact ho8)
              have HN2 := Lib.hid hnext
              have HB8 := Lib.hid hB7
              have HLen := Lib.hid hlen
              clear ho8 hnext hB7 hlen
              go_wp2_with fail
              go_roundg (n - (k + 1))
              case measure => omega
              case rel => exact ⟨k + 1, A7, c7, _, by omega, Nat.le_refl _, by go_num, by rw [HLen.out], HN2.out, HB8.out⟩
          | some ad =>
            obtain ⟨g, rfl⟩ : ∃ g, ad = ⟨g, 0, none⟩ := by
              rcases HR.out.own.2 with ⟨h, _⟩ | ⟨g', cap, cur, hv, _⟩
              · cases h
              · injection hv with hA _ _
                injection hA with hA
                exact ⟨g', hA⟩
            go_upto_region 8 with (fail)
            obtain ⟨wi, hwi⟩ : ∃ wi, wi = (wr.drewN q).drewN nq := ⟨_, rfl⟩
            have hown : wi.ownsRow w.heap.size 89 3 (.slice (some ⟨g, 0, none⟩) k c2) k (prows (S.map (·.1))) := by rw [hwi]; exact HR.out.own
            have HBi : Hid (Below w.heap.size w wi) := by show Below _ _ _; rw [hwi]; exact below_drewN (below_drewN HB.out _) _
            rw [← hwi]
            clear hwi
            have hSl : (S.map (·.1)).length = k := by rw [List.length_map]; exact HR.out.len
            have hs3 : Sees wi (some ⟨g, 0, none⟩) (prows ((S.map (·.1)).drop 0)) := by rw [List.drop_zero]; exact ownN_sees hown
            have HS3 := Lib.hid hs3
            have hl3 : (prows ((S.map (·.1)).drop 0)).length = (k) * 3 := (prows_length _).trans (congrArg (· * 3) ((List.length_drop).trans (by rw [hSl]; first | done | omega)))
            have HL3 := Lib.hid hl3
            have HO3 := Lib.hid (one_prows ((S.map (·.1)).drop 0))
            have hlh : (prows ((S.map (·.1)).take 0)).length = 0 * 3 := by rw [prows_length, List.length_take, hSl]; omega
            have HLh := Lib.hid hlh
            have HOh := Lib.hid (one_prows ((S.map (·.1)).take 0))
            have HHd := Lib.hid (phead (t := 0) (ownN_sees hown))
            have hbig : (0 + (k)) * 40 ≤ 140737488355328 := by omega
            have HBig := Lib.hid hbig
            have hkc : k ≤ c2 := by
              rcases hown.2 with ⟨h1, h2⟩ | ⟨g', cap, cur, hv, hg, hb, h1, h2, h3, h4⟩
              · omega
              · injection hv with _ _ hc; omega
            have htc : 0 ≤ c2 := by omega
            have htcz : (0 : Int) ≤ (c2 : Int) := by omega
            have htcz0 : (0 : Int) ≤ (0 : Int) := by omega
            clear hs3 hl3 hlh hSl hown hbig
            go_wp2_with (at_builtin; refine wpList_app elem_rpatchL rfl _ _ rfl w.heap.size (.slice none 0 0) 0 [] rfl (World.ownsRow_nil _ _ _ _) (some ⟨g, 0, none⟩) (k) (c2) (prows ((S.map (·.1)).drop 0)) rfl HS3.out HL3.out HO3.out HBig.out HBi.out.size ?_; intro v3 w3 hown3 hg3 _; simp only [Nat.zero_add, List.nil_append] at hown3; obtain ⟨A4, c4, rfl, _, _⟩ := own_full hown3; have HR4 := Lib.hid (ownN_sees hown3); have HB3 := Lib.hid (HBi.out.own (World.ownsRow_nil wi w.heap.size 89 3) hg3 HBi.out.size (Nat.le_refl _)); have HB3i := Lib.hid ((Below.refl wi.heap.size wi).own (World.ownsRow_nil wi wi.heap.size 89 3) hg3 (Nat.le_refl _) (Nat.le_refl _)); clear hown3 hg3)
            have HSh : Hid (∀ W, Below w3.heap.size w3 W → Sees W ((some ⟨g, 0, none⟩)) (prows ((S.map (·.1)).take 0))) := fun W h => (HHd.out.below HB3i.out).below h
            have HSr : Hid (∀ W, Below w3.heap.size w3 W → Sees W A4 (prows ((S.map (·.1)).drop 0))) := fun W h => HR4.out.below h
            have HQ3 : Hid (∀ W, Below w3.heap.size w3 W → W.cell? ⟨b, off + k * 3, none⟩ = some (.int .u32 x) ∧ W.cell? ⟨b, off + k * 3 + 1, none⟩ = some (.int .u64 y) ∧ W.cell? ⟨b, off + k * 3 + 2, none⟩ = some (.slice D m cc)) := fun W h => HQ.out W (HB3.out.trans (h.mono HB3.out.size))
            obtain ⟨z0, z1, z2⟩ := HQ3.out w3 (Below.refl _ _)
            clear HHd HR4 HB3i
            go_region_law (first
              | (refine step_app elem_rpatchL rfl (.tmp 46) (.tmp 47) rfl w3.heap.size (.slice A6 (0 + 1) c6) (0 + 1) (prows ((S.map (·.1)).take 0) ++ [.int .u32 x, .int .u64 y, .slice D m cc]) rfl HO6.out A4 (k) c4 (prows ((S.map (·.1)).drop 0)) rfl (HSr.out w6 HB6.out) HL3.out HO3.out (by omega) HB6.out.size ?_; intro v7 w7 ho7 hg7 _; obtain ⟨A7, c7, rfl, _, _⟩ := own_full ho7; have HO7 := Lib.hid ho7; have HB7 := Lib.hid (HB6.out.own HO6.out hg7 HB6.out.size (Nat.le_refl _)); clear ho7 hg7)
              | (refine step_app elem_rpatchL rfl (.tmp 40) (.tmp 45) rfl w3.heap.size (.slice A5 0 c5) 0 (prows ((S.map (·.1)).take 0)) rfl HO5b.out (some ⟨w3.heap.size, 0, none⟩) 1 1 [.int .u32 x, .int .u64 y, .slice D m cc] rfl HSeeb.out rfl HOne.out (by omega) HB5b.out.size ?_; intro v6 w6 ho6 hg6 _; obtain ⟨A6, c6, rfl, _, _⟩ := own_full ho6; have HO6 := Lib.hid ho6; have HB6 := Lib.hid (HB5b.out.own HO5b.out hg6 HB5b.out.size (Nat.le_refl _)); clear ho6 hg6)
              | (refine step_app elem_rpatchL rfl (.tmp 40) (.tmp 45) rfl w3.heap.size (.slice A5 0 c5) 0 (prows ((S.map (·.1)).take 0)) rfl (World.ownsRow.alloc HO5.out _) (some ⟨_, 0, none⟩) 1 1 [.int .u32 x, .int .u64 y, .slice D m cc] rfl (sees_new _ _ _) rfl HOne.out (by omega) HZ5.out ?_; intro v6 w6 ho6 hg6 _; obtain ⟨A6, c6, rfl, _, _⟩ := own_full ho6; have HO6 := Lib.hid ho6; have HB6 := Lib.hid ((HB5.out.alloc HB5.out.size _).own (World.ownsRow.alloc HO5.out _) hg6 HZ5.out (Nat.le_refl _)); clear ho6 hg6)
              | (refine step_app elem_rpatchL rfl (.const (.slice none 0 0)) (.tmp 39) rfl w3.heap.size (.slice none 0 0) 0 [] rfl (World.ownsRow_nil _ _ _ _) ((some ⟨g, 0, none⟩)) 0 c2 (prows ((S.map (·.1)).take 0)) rfl (HSh.out w3.drew (Below.refl _ _).drew) HLh.out HOh.out (by omega) (Nat.le_refl _) ?_; intro v5 w5 ho5 hg5 _; simp only [Nat.zero_add, List.nil_append] at ho5; obtain ⟨A5, c5, rfl, _, _⟩ := own_full ho5; have HO5 := Lib.hid ho5; have HB5 := Lib.hid ((Below.refl w3.heap.size w3).drew.own (World.ownsRow_nil w3.drew w3.heap.size 89 3) hg5 (Nat.le_refl _) (Nat.le_refl _)); obtain ⟨b0, b1, b2⟩ := HQ3.out w5 HB5.out; have HZ5 := Lib.hid (show w3.heap.size ≤ (w5.alloc (.cells #[.int .u32 x, .int .u64 y, .slice D m cc] 89)).heap.size by have := HB5.out.size; simp; omega); clear ho5 hg5)
              | (refine step_app elem_rpatchL rfl (.const (.slice none 0 0)) (.tmp 39) rfl w3.heap.size (.slice none 0 0) 0 [] rfl (World.ownsRow_nil _ _ _ _) ((some ⟨g, 0, none⟩)) 0 c2 (prows ((S.map (·.1)).take 0)) rfl (HSh.out (w3.alloc (.cells #[.int .u32 x, .int .u64 y, .slice D m cc] 89)).drew (((Below.refl _ _).alloc (Nat.le_refl _) _).drew)) HLh.out HOh.out (by omega) (by simp) ?_; intro v5 w5 ho5 hg5 _; simp only [Nat.zero_add, List.nil_append] at ho5; obtain ⟨A5, c5, rfl, _, _⟩ := own_full ho5; have HO5b := Lib.hid ho5; have HB5b := Lib.hid ((((Below.refl w3.heap.size w3).alloc (Nat.le_refl _) (.cells #[.int .u32 x, .int .u64 y, .slice D m cc] 89)).drew).own (World.ownsRow_nil _ w3.heap.size 89 3) hg5 (by simp) (Nat.le_refl _)); have HSeeb := Lib.hid ((sees_new w3 [.int .u32 x, .int .u64 y, .slice D m cc] 89).below ((Below.refl (w3.alloc (.cells #[.int .u32 x, .int .u64 y, .slice D m cc] 89)).heap.size (w3.alloc (.cells #[.int .u32 x, .int .u64 y, .slice D m cc] 89))).drew.own (World.ownsRow_nil _ (w3.alloc (.cells #[.int .u32 x, .int .u64 y, .slice D m cc] 89)).heap.size 89 3) hg5 (Nat.le_refl _) (Nat.le_refl _))); clear ho5 hg5)
              | fail)
            all_goals
              have hB7 := HB3.out.trans (HB7.out.mono HB3.out.size)
              have hlen : 0 + 1 + (k) = k + 1 := by omega
              have ho8 := own_mono HO7.out HB3.out.size
              rw [hlen] at ho8
              have hnext := HR.out.next (A' := A7) (c' := c7) (w' := w7) (t := 0) HKl.out (by omega) (fun h0 => by have := HLo.out h0; rw [HX.out] at this; exact this) (fun j hj htj => by have := HHi.out j hj htj; rw [HX.out] at this; exact this) (by rw [HPc.out, List.map_take, List.map_drop]; exact ho8)
              have HN2 := Lib.hid hnext
              have HB8 := Lib.hid hB7
              have HLen := Lib.hid hlen
              clear ho8 hnext hB7 hlen
              go_wp2_with fail
              go_roundg (n - (k + 1))
              case measure => omega
              case rel => exact ⟨k + 1, A7, c7, _, by omega, Nat.le_refl _, by go_num, by rw [HLen.out], HN2.out, HB8.out⟩
    · obtain rfl : k = n := by omega
      have t1 : decide ((k : Int) < (k : Int)) = false := by simp
      have hd := HR.out
      rw [HN.out] at hd
      have HD1 := Lib.hid hd.done
      have HS : Hid (Pats wr A2 (S.map (·.1))) := ⟨ownN_sees HR.out.own, fun r hr => by
        obtain ⟨y, hy, rfl⟩ := List.mem_map.1 hr
        have h1 := HR.out.perm.mem_iff.1 hy
        obtain ⟨y1, y2⟩ := y
        rw [List.mk_mem_zipIdx_iff_getElem?] at h1
        have h2 : y1 ∈ rs := List.mem_of_mem_take (List.mem_of_getElem? h1)
        exact (HP.out.each y1 h2).below HB.out⟩
      have HL := Lib.hid HR.out.len
      clear hd
      go_wp2_with fail
      go_ret
      exact ⟨A2, c2, S.map (·.1), by rw [List.length_map, HL.out]; rfl, HD1.out, HS.out, HB.out⟩
end Go.Proofs.Ytjdpljhhlmcbaaa
