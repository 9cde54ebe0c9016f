/- Entries with one more, without one, and what has a name: plain. No condition. -/
import Derived.Test.YtjilejmchaejiaaDoorEntPure
import Derived.Sort.LotA
import Derived.Sort.Walk0
import Derived.Lib.Bytealg
namespace Go.Cat.Dir
open Go.RowKit Go.Cat Go.Sort
theorem less_lt (a b : Txt) : Op.bytesLess a b = ltStr a b := Go.Proofs.bytesLess_eq a b
theorem less_irrefl (a : Txt) : Op.bytesLess a a = false := by rw [less_lt]; exact swo_ltStr.irrefl a
theorem less_trans {a b c : Txt} (h1 : Op.bytesLess a b = true) (h2 : Op.bytesLess b c = true) : Op.bytesLess a c = true := by rw [less_lt] at *; exact swo_ltStr.trans _ _ _ h1 h2
theorem less_asymm {a b : Txt} (h1 : Op.bytesLess a b = true) : Op.bytesLess b a = false := by
  cases h : Op.bytesLess b a with
  | false => rfl
  | true =>
    have := less_trans h1 h
    rw [less_irrefl] at this
    cases this
theorem less_total {a b : Txt} (h1 : Op.bytesLess a b = false) (h2 : Op.bytesLess b a = false) : a = b := by
  rcases (less_le a b).2 h2 with h | h
  · rw [h1] at h; cases h
  · exact h
theorem cmp_less : ∀ a b : Txt, decide (Lib.compareBytes a b < 0) = Op.bytesLess a b
  | [], [] => rfl
  | [], _ :: _ => rfl
  | _ :: _, [] => rfl
  | a :: x, b :: y => by
    have ih := cmp_less x y
    simp only [Lib.compareBytes, Op.bytesLess]
    by_cases h1 : a < b
    · simp [h1]
    · by_cases h2 : b < a
      · have h3 : a ≠ b := by rintro rfl; exact h1 h2
        simp [h1, h2, h3]
      · have h3 : a = b := by
          apply UInt8.toNat_inj.1
          rw [UInt8.lt_iff_toNat_lt] at h1 h2
          omega
        subst h3
        simp only [h1, if_false, decide_false, Bool.false_or, beq_self_eq_true, Bool.true_and]
        exact ih
/-- The order that SortFunc goes by. -/
def cfE (x y : Ent) : Int := Lib.compareBytes x.1 y.1
def lessE (x y : Ent) : Bool := Op.bytesLess x.1 y.1
theorem cfE_less (x y : Ent) : decide (cfE x y < 0) = lessE x y := cmp_less x.1 y.1
theorem swo_lessE : SWO lessE where
  irrefl x := less_irrefl _
  trans x y z h1 h2 := less_trans h1 h2
  ntrans x y z h1 h2 := by
    unfold lessE at *
    cases h : Op.bytesLess x.1 z.1 with
    | false => rfl
    | true =>
      cases h3 : Op.bytesLess y.1 x.1 with
      | true => rw [less_trans h3 h] at h2; cases h2
      | false => rw [less_total h1 h3, h2] at h; cases h

/-- Entries' names rise. -/
def Rises (l : List Ent) : Prop := l.Pairwise fun a b => Op.bytesLess a.1 b.1 = true
theorem Rises.inj {l : List Ent} (h : Rises l) {a b : Ent} (ha : a ∈ l) (hb : b ∈ l) (he : a.1 = b.1) : a = b := by
  obtain ⟨i, hi, rfl⟩ := List.getElem_of_mem ha
  obtain ⟨j, hj, rfl⟩ := List.getElem_of_mem hb
  have hp := List.pairwise_iff_getElem.1 h
  rcases Nat.lt_trichotomy i j with hij | hij | hij
  · have := hp i j hi hj hij
    rw [he, less_irrefl] at this; cases this
  · subst hij; rfl
  · have := hp j i hj hi hij
    rw [he, less_irrefl] at this; cases this
theorem rises_of_ord {l : List Ent} (h : ∀ k, k < l.length → ordB l k = true) : Rises l := by
  unfold Rises
  rw [List.pairwise_iff_getElem]
  intro i j hi hj hij
  obtain ⟨d, rfl⟩ : ∃ d, j = i + 1 + d := ⟨j - i - 1, by omega⟩
  clear hij
  induction d with
  | zero =>
    have := h (i + 1) hj
    rw [ord_at hj] at this
    exact this
  | succ d ih =>
    have h1 := ih (by omega)
    have h2 := h (i + 1 + d + 1) hj
    rw [ord_at (k := i + 1 + d) hj] at h2
    exact less_trans h1 h2
theorem check_iff (l : List Ent) : checkE l = 0 ↔ l.length ≤ 32 ∧ (∀ e ∈ l, nameB e.1 = true ∧ nodeB e.2 = true) ∧ Rises l := by
  constructor
  · intro h
    obtain ⟨h1, h2⟩ := check_zero h
    refine ⟨h1, ?_, rises_of_ord fun k hk => (ent_zero hk (h2 k hk)).2.2⟩
    intro e he
    obtain ⟨j, hj, rfl⟩ := List.getElem_of_mem he
    have := ent_zero hj (h2 j hj)
    exact ⟨this.1, this.2.1⟩
  · rintro ⟨h1, h2, h3⟩
    refine check_ok (by omega) fun j hj => ?_
    obtain ⟨a, b⟩ := h2 _ (List.getElem_mem hj)
    refine ent_ok hj a b ?_
    cases j with
    | zero => rfl
    | succ j =>
      rw [ord_at hj]
      exact List.pairwise_iff_getElem.1 h3 j (j + 1) (by omega) hj (by omega)

/-- Where a name stands first; the length, where it does not. -/
def ixE (l : List Ent) (x : Txt) : Nat := l.findIdx fun e => e.1 == x
theorem ix_le (l : List Ent) (x : Txt) : ixE l x ≤ l.length := List.findIdx_le_length
theorem ix_at {l : List Ent} {x : Txt} {k : Nat} (hk : k < l.length) (ha : ∀ j (hj : j < l.length), j < k → l[j].1 ≠ x) (he : l[k].1 = x) : ixE l x = k := by
  unfold ixE
  rw [List.findIdx_eq hk]
  exact ⟨by rw [he]; simp, fun j hj => by have := ha j (by omega) hj; simpa using this⟩
theorem ix_no {l : List Ent} {x : Txt} (ha : ∀ j (hj : j < l.length), l[j].1 ≠ x) : ixE l x = l.length := by
  unfold ixE
  rw [List.findIdx_eq_length]
  intro e he
  obtain ⟨j, hj, rfl⟩ := List.getElem_of_mem he
  simpa using ha j hj
theorem ix_name {l : List Ent} {x : Txt} (h : ixE l x < l.length) : l[ixE l x].1 = x := by
  have := List.findIdx_getElem (xs := l) (p := fun e : Ent => e.1 == x) (w := h)
  exact eq_of_beq this
theorem ix_before {l : List Ent} {x : Txt} {j : Nat} (hj : j < l.length) (h : j < ixE l x) : l[j].1 ≠ x := by
  have := List.not_of_lt_findIdx (xs := l) (p := fun e : Ent => e.1 == x) h
  simpa using this
theorem ix_none {l : List Ent} {x : Txt} (h : ¬ ixE l x < l.length) : ∀ e ∈ l, e.1 ≠ x := by
  intro e he
  obtain ⟨j, hj, rfl⟩ := List.getElem_of_mem he
  exact ix_before hj (by omega)

/-- With one more, at its place. -/
def insE (l : List Ent) (e : Ent) : List Ent := l.takeWhile (fun y => Op.bytesLess y.1 e.1) ++ e :: l.dropWhile (fun y => Op.bytesLess y.1 e.1)
theorem ins_length (l : List Ent) (e : Ent) : (insE l e).length = l.length + 1 := by
  have h := congrArg List.length (List.takeWhile_append_dropWhile (p := fun y : Ent => Op.bytesLess y.1 e.1) (l := l))
  rw [List.length_append] at h
  unfold insE
  rw [List.length_append, List.length_cons]
  omega
theorem drop_not {x : Txt} : ∀ {l : List Ent}, Rises l → ∀ y ∈ l.dropWhile (fun y => Op.bytesLess y.1 x), Op.bytesLess y.1 x = false
  | [], _, y, hy => by simp at hy
  | a :: l, h, y, hy => by
    have h' := List.pairwise_cons.1 h
    cases ha : Op.bytesLess a.1 x with
    | true =>
      rw [List.dropWhile_cons, if_pos ha] at hy
      exact drop_not h'.2 y hy
    | false =>
      rw [List.dropWhile_cons, if_neg (by rw [ha]; simp)] at hy
      rcases List.mem_cons.1 hy with rfl | hy
      · exact ha
      · cases hb : Op.bytesLess y.1 x with
        | false => rfl
        | true =>
          rw [less_trans (h'.1 y hy) hb] at ha
          cases ha
theorem take_all {x : Txt} : ∀ {l : List Ent}, ∀ y ∈ l.takeWhile (fun y => Op.bytesLess y.1 x), Op.bytesLess y.1 x = true
  | [], y, hy => by simp at hy
  | a :: l, y, hy => by
    cases ha : Op.bytesLess a.1 x with
    | true =>
      rw [List.takeWhile_cons, if_pos ha] at hy
      rcases List.mem_cons.1 hy with rfl | hy
      · exact ha
      · exact take_all y hy
    | false =>
      rw [List.takeWhile_cons, if_neg (by rw [ha]; simp)] at hy
      simp at hy
theorem ins_perm (l : List Ent) (e : Ent) : (insE l e).Perm (l ++ [e]) := by
  unfold insE
  refine List.perm_middle.trans ?_
  rw [List.takeWhile_append_dropWhile]
  exact (List.perm_append_singleton e l).symm
theorem ins_mem {l : List Ent} {e y : Ent} (h : y ∈ insE l e) : y ∈ l ∨ y = e := by
  have := (ins_perm l e).mem_iff.1 h
  simpa using this
theorem ins_rises {l : List Ent} {e : Ent} (h : Rises l) (hn : ∀ y ∈ l, y.1 ≠ e.1) : Rises (insE l e) := by
  have hl : l.takeWhile (fun y => Op.bytesLess y.1 e.1) ++ l.dropWhile (fun y => Op.bytesLess y.1 e.1) = l := List.takeWhile_append_dropWhile
  have h2 : Rises (l.takeWhile (fun y => Op.bytesLess y.1 e.1) ++ l.dropWhile (fun y => Op.bytesLess y.1 e.1)) := by rw [hl]; exact h
  have hd := drop_not (x := e.1) h
  have ht := take_all (x := e.1) (l := l)
  have hin : ∀ y ∈ l.dropWhile (fun y => Op.bytesLess y.1 e.1), y ∈ l := fun y hy => (List.dropWhile_sublist _).subset hy
  have hbig : ∀ y ∈ l.dropWhile (fun y => Op.bytesLess y.1 e.1), Op.bytesLess e.1 y.1 = true := fun y hy => by
    cases hb : Op.bytesLess e.1 y.1 with
    | true => rfl
    | false => exact absurd (less_total (hd y hy) hb) (hn y (hin y hy))
  unfold Rises at h2
  rw [List.pairwise_append] at h2
  unfold Rises insE
  rw [List.pairwise_append]
  refine ⟨h2.1, List.pairwise_cons.2 ⟨hbig, h2.2.1⟩, fun a ha b hb => ?_⟩
  rcases List.mem_cons.1 hb with rfl | hb
  · exact ht a ha
  · exact h2.2.2 a ha b hb
/-- What SortFunc makes of entries with one more behind them. -/
theorem sort_ins {l : List Ent} {e : Ent} (h : Rises l) (hn : ∀ y ∈ l, y.1 ≠ e.1) {d d' : Array Ent} (hd : d = (l ++ [e]).toArray) (hp : PermIn 0 d.size d d') (hs : SortedIn lessE 0 d.size d') : d'.toList = insE l e := by
  have hr := ins_rises h hn
  have hsz : d'.size = d.size := hp.1
  have hperm : d'.toList.Perm (l ++ [e]) := by
    have h1 := hp.2.2
    have e1 : d'.extract 0 d.size = d' := by rw [← hsz]; simp
    have e2 : d.extract 0 d.size = d := by simp
    rw [e1, e2, hd] at h1
    exact h1
  have hperm2 : d'.toList.Perm (insE l e) := hperm.trans (ins_perm l e).symm
  refine List.Perm.eq_of_pairwise (le := fun a b => Op.bytesLess b.1 a.1 = false) ?_ ?_ ?_ hperm2
  · intro a b ha hb h1 h2
    exact hr.inj (hperm2.mem_iff.1 ha) hb (less_total h2 h1)
  · rw [List.pairwise_iff_getElem]
    intro i j hi hj hij
    have hj' : j < d'.size := by simpa using hj
    have hi' : i < d'.size := by omega
    have := hs i j (Nat.zero_le _) hij (by omega)
    unfold lessE at this
    rw [getElem!_pos d' j hj', getElem!_pos d' i hi'] at this
    exact this
  · exact hr.imp fun hab => less_asymm hab

theorem filter_erase {l : List Ent} {x : Txt} (h : Rises l) (hi : ixE l x < l.length) : l.filter (fun y => y.1 != x) = l.eraseIdx (ixE l x) := by
  have hx := ix_name hi
  have hsplit : l = l.take (ixE l x) ++ (l[ixE l x] :: l.drop (ixE l x + 1)) := by
    rw [List.getElem_cons_drop, List.take_append_drop]
  have h1 : (l.take (ixE l x)).filter (fun y => y.1 != x) = l.take (ixE l x) := by
    rw [List.filter_eq_self]
    intro a ha
    obtain ⟨j, hj, rfl⟩ := List.getElem_of_mem ha
    rw [List.length_take] at hj
    rw [List.getElem_take]
    have := ix_before (l := l) (x := x) (j := j) (by omega) (by omega)
    simpa using this
  have h2 : (l.drop (ixE l x + 1)).filter (fun y => y.1 != x) = l.drop (ixE l x + 1) := by
    rw [List.filter_eq_self]
    intro a ha
    obtain ⟨j, hj, rfl⟩ := List.getElem_of_mem ha
    rw [List.length_drop] at hj
    rw [List.getElem_drop]
    have := List.pairwise_iff_getElem.1 h (ixE l x) (ixE l x + 1 + j) hi (by omega) (by omega)
    rw [hx] at this
    have hne : l[ixE l x + 1 + j].1 ≠ x := by
      intro e
      rw [e, less_irrefl] at this
      cases this
    simpa using hne
  rw [List.eraseIdx_eq_take_drop_succ]
  generalize ixE l x = i at *
  have h3 : (l.take i ++ (l[i] :: l.drop (i + 1))).filter (fun y => y.1 != x) = l.take i ++ l.drop (i + 1) := by
    rw [List.filter_append, List.filter_cons_of_neg (by rw [hx]; simp), h1, h2]
  rw [← hsplit] at h3
  exact h3
theorem filter_none {l : List Ent} {x : Txt} (h : ¬ ixE l x < l.length) : l.filter (fun y => y.1 != x) = l := by
  rw [List.filter_eq_self]
  intro a ha
  simpa using ix_none h a ha

/-- Entries with one more; the error. -/
def addE (l : List Ent) (e : Ent) : List Ent × Int :=
  if checkE l ≠ 0 then ([], checkE l) else if nameB e.1 = false then ([], 18) else if nodeB e.2 = false then ([], 4) else if ixE l e.1 < l.length then ([], 8) else if 32 ≤ l.length then ([], 17) else (insE l e, 0)
/-- Entries without one; the error. -/
def removeE (l : List Ent) (x : Txt) : List Ent × Int :=
  if checkE l ≠ 0 then ([], checkE l) else if ixE l x < l.length then (l.eraseIdx (ixE l x), 0) else ([], 13)
theorem ins_fine {l : List Ent} {e : Ent} (hc : checkE l = 0) (hn : nameB e.1 = true) (hd : nodeB e.2 = true) (hi : ¬ ixE l e.1 < l.length) (hl : ¬ 32 ≤ l.length) : checkE (insE l e) = 0 ∧ removeE (insE l e) e.1 = (l, 0) := by
  obtain ⟨c1, c2, c3⟩ := (check_iff l).1 hc
  have hnone := ix_none hi
  have hr := ins_rises c3 hnone
  have hcheck : checkE (insE l e) = 0 := by
    rw [check_iff, ins_length]
    refine ⟨by omega, fun y hy => ?_, hr⟩
    rcases ins_mem hy with h | rfl
    · exact c2 y h
    · exact ⟨hn, hd⟩
  refine ⟨hcheck, ?_⟩
  have hix : ixE (insE l e) e.1 < (insE l e).length := by
    by_cases h : ixE (insE l e) e.1 < (insE l e).length
    · exact h
    · exact absurd rfl (ix_none h e ((ins_perm l e).mem_iff.2 (by simp)))
  unfold removeE
  rw [if_neg (by rw [hcheck]; simp), if_pos hix, ← filter_erase hr hix]
  have h3 : (insE l e).filter (fun y => y.1 != e.1) = l := by
    have hl2 : l.takeWhile (fun y => Op.bytesLess y.1 e.1) ++ l.dropWhile (fun y => Op.bytesLess y.1 e.1) = l := List.takeWhile_append_dropWhile
    unfold insE
    rw [List.filter_append, List.filter_cons_of_neg (by simp), ← List.filter_append, hl2, List.filter_eq_self]
    intro a ha
    simpa using hnone a ha
  rw [h3]
end Go.Cat.Dir
