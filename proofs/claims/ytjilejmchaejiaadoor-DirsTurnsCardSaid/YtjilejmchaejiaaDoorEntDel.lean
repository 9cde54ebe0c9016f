/- The contracts of slices.Clone and slices.Delete of one at entries, and of dirs.Remove. Condition: at most 1000000 entries. -/
import Derived.Test.YtjilejmchaejiaaDoorEntCheck
import Derived.Test.YtjilejmchaejiaaDoorEntAt
import Derived.Test.YtjilejmchaejiaaDoorSortK
import Derived.Lib.SlicesDelete
import Derived.Lib.SliceRun
import Derived.Deep.RegionLaw
namespace Go.Cat.Dir
open Go.RowKit Go.Cat Go.Sort Go.Proofs Go.Lib
/-- What the row holds behind Delete: without the one, an empty one behind. -/
theorem del_row (l : List Ent) {i : Nat} (hi : i < l.length) :
    lay (lay (flatK entC 2 l.toArray) (i * 2) (erows (l.drop (i + 1)))) ((l.length - 1) * 2) [sv [], .int .i64 0] = flatK entC 2 (l.eraseIdx i ++ [([], 0)]).toArray := by
  have h1 := flatK_list entC_len l.toArray
  have h2 := flatK_list entC_len (l.eraseIdx i ++ [(([] : Txt), (0 : Int))]).toArray
  have l1 : (erows (l.drop (i + 1))).length = (l.length - (i + 1)) * 2 := by rw [flat_length entC_len]; simp
  apply Array.ext_getElem?
  intro t
  rw [lay_get? _ _ _ _ (by rw [lay_size, size_flatK]; simp; omega), lay_get? _ _ _ _ (by rw [l1, size_flatK]; simp; omega)]
  rw [l1, ← Array.getElem?_toList, ← Array.getElem?_toList, h1, h2]
  have e2 : (l.eraseIdx i ++ [(([] : Txt), (0 : Int))]).toArray.toList.flatMap entC = erows (l.take i) ++ (erows (l.drop (i + 1)) ++ [sv [], .int .i64 0]) := by
    show (l.eraseIdx i ++ [(([] : Txt), (0 : Int))]).flatMap entC = _
    rw [List.eraseIdx_eq_take_drop_succ, List.flatMap_append, List.flatMap_append, List.append_assoc]
    rfl
  have e1 : l.toArray.toList.flatMap entC = erows (l.take i) ++ erows (l.drop i) := by
    show l.flatMap entC = _
    rw [← List.flatMap_append, List.take_append_drop]
  have l0 : (erows (l.take i)).length = i * 2 := by rw [flat_length entC_len, List.length_take, Nat.min_eq_left (by omega)]
  rw [e2]
  simp only [List.length_cons, List.length_nil]
  by_cases c1 : t < i * 2
  · rw [if_neg (by omega), if_neg (by omega), e1, List.getElem?_append_left (by omega), List.getElem?_append_left (by omega)]
  · rw [List.getElem?_append_right (by omega), l0]
    by_cases c2 : t < (l.length - 1) * 2
    · rw [if_neg (by omega), if_pos (by omega), List.getElem?_append_left (by omega)]
    · rw [List.getElem?_append_right (by omega), l1]
      by_cases c3 : t < (l.length - 1) * 2 + 2
      · rw [if_pos (by omega), show t - i * 2 - (l.length - (i + 1)) * 2 = t - (l.length - 1) * 2 by omega]
      · rw [if_neg (by omega), if_neg (by omega), List.getElem?_eq_none (by rw [flat_length entC_len]; show l.length * 2 ≤ t; omega), List.getElem?_eq_none (by simp; omega)]
theorem own_cut {w : World} {base : Nat} {e : TypeId} {A : Option Addr} {n c : Nat} {xs ys : List Value} (h : w.ownsRow base e 2 (.slice A (n + 1) c) (n + 1) (xs ++ ys)) (hx : xs.length = n * 2) (hA : A ≠ none) : w.ownsRow base e 2 (.slice A n c) n xs := by
  refine ⟨hx, ?_⟩
  rcases h.2 with ⟨h1, _⟩ | ⟨g, cap, cur, hv, hg, hb, h1, h2, h3, h4⟩
  · injection h1 with h1; exact absurd h1 hA
  · injection hv with hA' _ hc
    subst hA' hc
    refine .inr ⟨g, c, cur, rfl, hg, hb, by omega, h2, h3, ?_⟩
    have := congrArg (List.take (n * 2)) h4
    rw [List.take_take, Nat.min_eq_left (by omega), ← hx, List.take_left, hx] at this
    exact this
end Go.Cat.Dir
namespace Go.Proofs.YtjilejmchaejiaaDoor
open Go.RowKit Go.Cat Go.Cat.Dir Go.Sort Go.Lib

theorem nil_ents : ∀ (w : World) (a : Option Addr) (n c n' c' : Nat), (binOp .eql 36 (.slice a n c) (.slice none n' c')).run Tryd.prog w = .ok (.bool a.isNone) w := fun w a n c n' c' => Lib.run_eql_slice_nil w _ _ a n c n' c' Tryd.underlying36

theorem clonee_any (A : Option Addr) (n c : Nat) (l : List Ent) (w : World) (hs : Sees w A (erows l)) (hn : n = l.length) (hm : l.length ≤ 1000000) :
    Calls Tryd.prog 58 #[.slice A n c] w fun e w' => ∃ A' c', e = .returned (.slice A' l.length c') ∧ w'.ownsRow w.heap.size 56 2 (.slice A' l.length c') l.length (erows l) ∧ Below w.heap.size w w' := by
  cases A with
  | none =>
    have h0 : l = [] := by
      rcases hs with h | ⟨b, off, hA, _⟩
      · have := congrArg List.length h
        rw [flat_length entC_len] at this
        exact List.eq_nil_of_length_eq_zero (by simp only [List.length_nil] at this; omega)
      · cases hA
    subst h0
    obtain rfl : n = 0 := by simpa using hn
    clear hm hn hs
    have hnil := nil_ents
    go_enter Tryd.func58, Tryd.ntmps58
    go_wp2
    go_ret
    exact ⟨none, 0, rfl, World.ownsRow_nil _ _ _ _, Below.refl _ _⟩
  | some ad =>
    subst hn
    have hnil := nil_ents
    have hrow := World.ownsRow_lit (base := w.heap.size) (e := 56) (size := 2) w #[] 0 (Nat.le_refl _) (by unfold maxLen; omega) rfl
    have hlen : (erows l).length = l.length * 2 := flat_length entC_len l
    have hone : ∀ u ∈ erows l, u.oneCell' = true := fun u hu => by
      obtain ⟨e, _, h⟩ := List.mem_flatMap.1 hu
      exact one_entC e u h
    have HLen := Lib.hid hlen
    have HOne := Lib.hid hone
    obtain ⟨xs, hxs⟩ : ∃ xs, xs = erows l := ⟨_, rfl⟩
    rw [← hxs] at hs HLen HOne ⊢
    obtain ⟨m, hmm⟩ : ∃ m, m = l.length := ⟨_, rfl⟩
    rw [← hmm] at hm HLen ⊢
    clear hlen hone hxs hmm
    go_enter Tryd.func58, Tryd.ntmps58
    go_wp2_with (at_builtin; refine wpList_app elem_ent rfl _ _ rfl w.heap.size _ 0 [] rfl hrow (some ad) m c xs rfl (hs.alloc _) HLen.out HOne.out (by omega) (by simp) ?_)
    intro v2 w2 hown2 hg2 _
    have hB2 : Below w.heap.size w w2 := ((Below.refl _ _).alloc (Nat.le_refl _) _).own hrow hg2 (by simp) (Nat.le_refl _)
    replace hown2 : w2.ownsRow w.heap.size 56 2 v2 m xs := by simpa using hown2
    obtain ⟨V2, C2, rfl, _⟩ := own_form hown2
    clear hg2 hrow
    go_wp2
    go_ret
    exact ⟨V2, C2, rfl, hown2, hB2⟩

theorem zero_ent : ∀ w, (zeroValue 56).run Tryd.prog w = .ok (.agg #[.string ByteArray.empty, .int .i64 0]) w := fun w => by kernel_rfl
theorem zeros_ent : (Builtin.zeroCells (Value.agg #[Value.string ⟨#[]⟩, .int .i64 0]).cells 1).toList = [sv [], .int .i64 0] := by kernel_rfl

set_option maxRecDepth 1000000 in
set_option maxHeartbeats 4000000 in
theorem delete_any (base : Nat) (A : Option Addr) (l : List Ent) (c i : Nat) (w : World) (ho : w.ownsRow base 56 2 (.slice A l.length c) l.length (erows l)) (_hbase : base ≤ w.heap.size) (hn : l.length ≤ 1000000) (hi : i < l.length) :
    Calls Tryd.prog 62 #[.slice A l.length c, .int .i64 i, .int .i64 ((i : Int) + 1)] w fun e w' => e = .returned (.slice A (l.length - 1) c) ∧ w'.ownsRow base 56 2 (.slice A (l.length - 1) c) (l.length - 1) (erows (l.eraseIdx i)) ∧ Below base w w' ∧ w.heap.size ≤ w'.heap.size := by
  obtain ⟨g, rfl, hbg, hgl, hH, hback⟩ := own_sortK entC_len ho (by omega)
  obtain ⟨hcap, hcm⟩ : l.length ≤ c ∧ c ≤ maxLen := by
    rcases ho.2 with ⟨h, _⟩ | ⟨g', cap, cur, hv, _, _, h1, h2, _⟩
    · cases h
    · injection hv with _ _ hc; subst hc; exact ⟨h1, h2⟩
  unfold maxLen at hcm
  obtain ⟨i0, hi0, hz0, hz1, hz2⟩ := info_parts info_ent
  have hF : w = putRow id w g 0 (flatK entC 2 l.toArray) := (putRow_self id w g 0 _ hH).symm
  have hFd : w.drew = putRow id w.drew g 0 (flatK entC 2 l.toArray) := (putRow_self id w.drew g 0 _ hH).symm
  obtain ⟨news, hnews⟩ : ∃ news, news = erows (l.drop (i + 1)) := ⟨_, rfl⟩
  have hlen : news.length = (l.length - (i + 1)) * 2 := by rw [hnews, flat_length entC_len]; simp
  have hone : ∀ u ∈ news, u.oneCell' = true := fun u hu => by
    rw [hnews] at hu
    obtain ⟨e, _, h⟩ := List.mem_flatMap.1 hu
    exact one_entC e u h
  have hcell : ∀ t u, news[t]? = some u → w.cell? ⟨g, (i + 1) * 2 + t, none⟩ = some u := fun t u hu => by
    have ht : t < (l.length - (i + 1)) * 2 := by rw [← hlen]; exact (List.getElem?_eq_some_iff.1 hu).1
    have h1 := (hH ((i + 1) * 2 + t) (by rw [size_flatK]; simp; omega)).1
    rw [Nat.zero_add] at h1
    rw [h1]
    have h2 : (flatK entC 2 l.toArray).toList[(i + 1) * 2 + t]? = some u := by
      rw [flatK_list entC_len]
      show (l.flatMap entC)[(i + 1) * 2 + t]? = some u
      have e1 : l.flatMap entC = (l.take (i + 1)).flatMap entC ++ news := by rw [hnews, ← List.flatMap_append, List.take_append_drop]
      have e2 : ((l.take (i + 1)).flatMap entC).length = (i + 1) * 2 := by rw [flat_length entC_len, List.length_take, Nat.min_eq_left (by omega)]
      rw [e1, List.getElem?_append_right (by omega), e2, Nat.add_sub_cancel_left]
      exact hu
    rw [Array.getElem?_toList] at h2
    rw [getElem!_def, h2]
    rfl
  obtain ⟨A2, hA2, hsrc⟩ : ∃ A2 : Addr, (if c = i + 1 then some (⟨g, 0, none⟩ : Addr) else some ⟨g, (i + 1) * 2, none⟩) = some A2 ∧ Hid (∀ t u, news[t]? = some u → w.drew.cell? (A2.add t) = some u) := by
    by_cases h : c = i + 1
    · refine ⟨⟨g, 0, none⟩, by simp [h], fun t u hu => ?_⟩
      have h0 : news.length = 0 := by rw [hlen]; omega
      rw [List.length_eq_zero_iff.1 h0] at hu
      simp at hu
    · refine ⟨⟨g, (i + 1) * 2, none⟩, by simp [h], fun t u hu => ?_⟩
      rw [Addr.add_lit]
      exact hcell t u hu
  have s1 : Hid (news.length = (l.length - (i + 1)) * 2) := hlen
  have s2 : Hid (∀ u ∈ news, u.oneCell' = true) := hone
  have s3 : Hid (∀ t, t < news.length → (w.drew.cell? ⟨g, 0 + i * 2 + t, none⟩).isSome = true ∧ w.drew.frozen? ⟨g, 0 + i * 2 + t, none⟩ = false) := by
    intro t ht
    rw [hlen] at ht
    have h1 := hH (i * 2 + t) (by rw [size_flatK]; simp; omega)
    rw [Nat.add_assoc]
    exact ⟨by show (w.cell? _).isSome = true; rw [h1.1]; rfl, h1.2⟩
  obtain ⟨W1, hW1⟩ : ∃ W1, W1 = w.drew.setCells g (0 + i * 2) news := ⟨_, rfl⟩
  have hW1' : W1 = putRow id w.drew g 0 (lay (flatK entC 2 l.toArray) (i * 2) news) := by
    rw [hW1]
    conv => lhs; rw [hFd]
    have := putRow_setCells id w.drew g 0 news (flatK entC 2 l.toArray) (i * 2) (by rw [hlen, size_flatK]; simp; omega)
    rw [List.map_id] at this
    exact this
  have hH1 : Holds id W1 g 0 (lay (flatK entC 2 l.toArray) (i * 2) news) := by rw [hW1']; exact holds_putRow id _ g 0 _ _ hH (lay_size _ _ _)
  have hst := run_storeCells_cells (P := Tryd.prog) g ((l.length - 1) * 2) [sv [], .int .i64 0] 0 W1
    (by intro j hj; simp only [List.length_cons, List.length_nil] at hj; have := (hH1 ((l.length - 1) * 2 + j) (by rw [lay_size, size_flatK]; simp; omega)).1; rw [Nat.zero_add] at this; rw [Nat.add_zero, this]; rfl)
    (by intro j hj; simp only [List.length_cons, List.length_nil] at hj; have := (hH1 ((l.length - 1) * 2 + j) (by rw [lay_size, size_flatK]; simp; omega)).2; rw [Nat.zero_add] at this; rw [Nat.add_zero, this])
    (by intro u hu; simp at hu; rcases hu with rfl | rfl <;> rfl)
  have hcl : ∀ ty, (Builtin.clear_ #[36] ty #[.slice (some ⟨g, (l.length - 1) * 2, none⟩) 1 (c - (l.length - 1))]).run Tryd.prog W1 = .ok (.tuple #[]) (W1.setCells g ((l.length - 1) * 2) [sv [], .int .i64 0]) := by
    intro ty
    simp only [Nat.add_zero] at hst
    simp [Builtin.clear_, run_underlying Tryd.underlying36]
    rw [zeros_ent, hst]
    rfl
  have hend : W1.setCells g ((l.length - 1) * 2) [sv [], .int .i64 0] = sortWorldK entC 2 w g 0 1 (l.eraseIdx i ++ [([], 0)]).toArray #[] := by
    rw [hW1']
    have := putRow_setCells id w.drew g 0 [sv [], .int .i64 0] (lay (flatK entC 2 l.toArray) (i * 2) news) ((l.length - 1) * 2) (by rw [lay_size, size_flatK]; simp; omega)
    rw [List.map_id, Nat.zero_add] at this
    rw [this, hnews, del_row l hi]
    unfold sortWorldK
    rw [grow_empty]
    rfl
  have hfin : (W1.setCells g ((l.length - 1) * 2) [sv [], .int .i64 0]).ownsRow base 56 2 (.slice (some ⟨g, 0, none⟩) (l.length - 1) c) (l.length - 1) (erows (l.eraseIdx i)) ∧ Below base w (W1.setCells g ((l.length - 1) * 2) [sv [], .int .i64 0]) ∧ w.heap.size ≤ (W1.setCells g ((l.length - 1) * 2) [sv [], .int .i64 0]).heap.size := by
    rw [hend]
    have hle : (l.eraseIdx i).length = l.length - 1 := by rw [List.length_eraseIdx, if_pos hi]
    obtain ⟨h1, h2⟩ := hback (l.eraseIdx i ++ [([], 0)]).toArray 1 #[] (by simp [hle]; omega)
    refine ⟨?_, ⟨h2.os, h2.tape, h2.output, h2.size, fun k hk => h2.block k (by omega) (fun e => by injection e with e; omega)⟩, h2.size⟩
    refine own_cut (ys := [sv [], .int .i64 0]) ?_ (by rw [flat_length entC_len, hle]) (by simp)
    have e1 : (l.eraseIdx i ++ [(([] : Txt), (0 : Int))]).toArray.toList.flatMap entC = erows (l.eraseIdx i) ++ [sv [], .int .i64 0] := by
      show (l.eraseIdx i ++ [(([] : Txt), (0 : Int))]).flatMap entC = _
      rw [List.flatMap_append]
      rfl
    rw [e1] at h1
    rw [show l.length - 1 + 1 = l.length by omega]
    exact h1
  have HFin := Lib.hid hfin
  have hW : Hid (W1 = w.drew.setCells g (0 + i * 2) news) := hW1
  obtain ⟨n, hnn⟩ : ∃ n, l.length = n + 1 := ⟨l.length - 1, by omega⟩
  rw [hnn] at hcl HFin hcap hn hi s1 ⊢
  rw [show n + 1 - 1 = n by omega] at hcl HFin ⊢
  have hic : i ≤ c := by omega
  have hjc : i + 1 ≤ c := by omega
  have hin : i ≤ n := by omega
  have hi0' : (0 : Int) ≤ (i : Int) + 1 := by omega
  rw [show n + 1 - (i + 1) = n - i by omega] at s1
  clear hW1 hW1' hH1 hH hnews hlen hone hcell hst hend hfin hback hF hFd ho hnn
  go_enter Tryd.func62, Tryd.ntmps62
  go_wp2_with fail
  go_region_law (refine step_append_room rfl (.tmp 22) (.tmp 25) 36 rfl 56 i0 2 Tryd.underlying36 hi0 hz1 g 0 i c (by simp [Act.eval, Act.put]) A2 (n - i) (c - (i + 1)) news (by simp [Act.eval, Act.put]) s1.out hsrc.out s2.out (by omega) s3.out ?_; rw [← hW.out])
  go_wp2_with fail
  go_ret
  exact ⟨ret_slice (by omega), HFin.out⟩
end Go.Proofs.YtjilejmchaejiaaDoor
