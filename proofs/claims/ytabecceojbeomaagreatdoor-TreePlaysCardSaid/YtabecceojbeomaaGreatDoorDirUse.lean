/- The library's functions that paths use: strings.CutPrefix and Split at a slash, slices.Equal at texts, (*strings.Builder).WriteString and String. Condition: lengths below 2^32; the library's variable MaxLen holds an int. -/
import Derived.Test.YtabecceojbeomaaGreatDoorDirShelf
import Derived.Test.YtabecceojbeomaaGreatDoorDirHas
import Derived.Test.YtabecceojbeomaaGreatDoorApp
import Derived.Lib.SplitLaws
namespace Go.Cat.Dir
open Go.RowKit Go.Cat
theorem index_cons_eq (t : Txt) : Lib.index (47 :: t) [47] = 0 := by rw [Lib.index]; simp [List.isPrefixOf]
theorem index_cons_ne {c : UInt8} (h : c ≠ 47) (t : Txt) : Lib.index (c :: t) [47] = if Lib.index t [47] == -1 then -1 else Lib.index t [47] + 1 := by
  have hp : ([47] : List UInt8).isPrefixOf (c :: t) = false := by simp [List.isPrefixOf, Ne.symm h]
  rw [Lib.index, hp]; simp
theorem splitK_cons {c : UInt8} (h : c ≠ 47) (k : Nat) (t : Txt) : ∃ p ps, Lib.splitK [47] 0 k t = p :: ps ∧ Lib.splitK [47] 0 k (c :: t) = (c :: p) :: ps := by
  cases k with
  | zero => exact ⟨t, [], rfl, rfl⟩
  | succ k =>
    unfold Lib.splitK
    rw [index_cons_ne h]
    by_cases hm : Lib.index t [47] = -1
    · rw [hm]; exact ⟨t, [], rfl, rfl⟩
    · have hge := Lib.index_ge t [47]
      obtain ⟨j, hj⟩ : ∃ j : Nat, Lib.index t [47] = j := ⟨(Lib.index t [47]).toNat, by omega⟩
      have e1 : (Lib.index t [47] == -1) = false := by rw [beq_eq_false_iff_ne]; exact hm
      have e2 : (Lib.index t [47] + 1 == -1) = false := by rw [beq_eq_false_iff_ne]; omega
      rw [e1]
      simp only [Bool.false_eq_true, if_false, e2]
      refine ⟨t.take (Lib.index t [47]).toNat, Lib.splitK [47] 0 k (t.drop ((Lib.index t [47]).toNat + 1)), rfl, ?_⟩
      have e3 : (Lib.index t [47] + 1).toNat = (Lib.index t [47]).toNat + 1 := by omega
      rw [e3]
      simp
theorem splitK_slash (k : Nat) (t : Txt) : Lib.splitK [47] 0 (k + 1) (47 :: t) = [] :: Lib.splitK [47] 0 k t := by
  have e : Lib.splitK [47] 0 (k + 1) (47 :: t) = if Lib.index (47 :: t) [47] == -1 then [47 :: t] else (47 :: t).take ((Lib.index (47 :: t) [47]).toNat + 0) :: Lib.splitK [47] 0 k ((47 :: t).drop ((Lib.index (47 :: t) [47]).toNat + 1)) := rfl
  rw [e, index_cons_eq]
  rfl
theorem split_pieces : ∀ (t : Txt) (k : Nat), t.count 47 = k → Lib.splitK [47] 0 k t = pieces t
  | [], k, h => by
    simp at h
    subst h
    rfl
  | c :: t, k, h => by
    by_cases hc : c = 47
    · subst hc
      rw [List.count_cons_self] at h
      obtain ⟨k, rfl⟩ : ∃ k', k = k' + 1 := ⟨t.count 47, h.symm⟩
      rw [splitK_slash, pieces_slash, split_pieces t k (by omega)]
    · rw [List.count_cons_of_ne (by simpa using hc)] at h
      obtain ⟨p, ps, h1, h2⟩ := splitK_cons hc k t
      obtain ⟨q, qs, h3, h4⟩ := pieces_other (t := t) hc
      rw [split_pieces t k h] at h1
      rw [h2, h4]
      rw [h1] at h3
      injection h3 with e1 e2
      rw [e1, e2]
theorem splitB_pieces (t : Txt) : (Lib.splitB ⟨#[47]⟩ 0 (Lib.countB (bs t) ⟨#[47]⟩) (bs t)).map Value.string = (pieces t).map sv := by
  have h1 := Lib.splitB_data ⟨#[47]⟩ 0 (Lib.countB (bs t) ⟨#[47]⟩) (bs t)
  have h2 : Lib.countB (bs t) ⟨#[47]⟩ = t.count 47 := Lib.count_one 47 t
  rw [h2] at h1 ⊢
  have h3 : (Lib.splitB ⟨#[47]⟩ 0 (t.count 47) (bs t)).map (·.data.toList) = pieces t := by rw [h1]; exact split_pieces t _ rfl
  rw [← h3, List.map_map]
  rfl
end Go.Cat.Dir
namespace Go.Proofs.YtabecceojbeomaaGreatDoor
open Go.RowKit Go.Cat Go.Cat.Dir

theorem cutp_slash (t : Txt) (w : World) : Calls Tryz.prog 100 #[.string (bs (47 :: t)), .string ⟨#[47]⟩] w fun e w' => e = .returned (.tuple #[.string (bs t), .bool true]) ∧ w = w' :=
  (Any.strings_CutPrefix Tryz.lays103 (bs (47 :: t)) ⟨#[47]⟩ w).mono fun e w' ⟨h1, h2⟩ => ⟨by rw [h1]; rfl, h2.symm⟩
theorem cutp_not (t : Txt) (h : ∀ r, t ≠ 47 :: r) (w : World) : Calls Tryz.prog 100 #[.string (bs t), .string ⟨#[47]⟩] w fun e w' => ∃ s, e = .returned (.tuple #[.string s, .bool false]) ∧ w = w' :=
  (Any.strings_CutPrefix Tryz.lays103 (bs t) ⟨#[47]⟩ w).mono fun e w' ⟨h1, h2⟩ => by
    have hp : Lib.hasPrefix (bs t).data.toList [47] = false := by
      show ([47] : List UInt8).isPrefixOf t = false
      cases t with
      | nil => rfl
      | cons c r =>
        have : c ≠ 47 := fun e => h r (by rw [e])
        simp [List.isPrefixOf, Ne.symm this]
    exact ⟨_, by rw [h1]; show Ending.returned (.tuple #[_, .bool (Lib.hasPrefix (bs t).data.toList [47])]) = _; rw [hp], h2.symm⟩

theorem splitp_any (t : Txt) (m : Int) (w : World) (ht : t.length < 4294967281) (hm : w.cell? ⟨0, 0, none⟩ = some (.int .i64 m)) :
    Calls Tryz.prog 101 #[.string (bs t), .string ⟨#[47]⟩] w fun e w' => ∃ A c, e = .returned (.slice A (pieces t).length c) ∧ Texts w' A (pieces t) ∧ (pieces t).length ≤ c ∧ c ≤ maxLen ∧ Below w.heap.size w w' :=
  (Any.strings_Split Tryz.lays146 (by kernel_rfl) (bs t) ⟨#[47]⟩ m w (by rw [bs_size]; exact ht) hm (by decide)).mono fun e w' ⟨h1, h2⟩ => by
    have h3 := splitB_pieces t
    have h4 : Lib.countB (bs t) ⟨#[47]⟩ + 1 = (pieces t).length := by
      have := congrArg List.length h3
      rw [List.length_map, List.length_map, Lib.splitB_all ⟨#[47]⟩ (by decide) 0 _ _ rfl] at this
      exact this
    have h5 := pieces_length t
    refine ⟨some ⟨w.heap.size, 0, none⟩, (pieces t).length, by rw [h1, h4], ?_, Nat.le_refl _, by unfold maxLen; omega, ?_⟩
    · rw [h2, h3]; exact sees_new w ((pieces t).map sv) _
    · rw [h2]; exact (Below.refl _ _).alloc (Nat.le_refl _) _

theorem texts_cells {w : World} {A : Option Addr} {ls : List Txt} (h : Texts w A ls) (hp : 0 < ls.length) : ∃ b off, A = some ⟨b, off, none⟩ ∧ ∀ j, j < (ls.map bs).length → w.cell? ⟨b, off + j, none⟩ = some (.string ((ls.map bs).getD j ByteArray.empty)) := by
  obtain ⟨b, off, hA, _, hc⟩ := Sees.at_ h (by rw [List.length_map]; exact hp)
  refine ⟨b, off, hA, fun j hj => ?_⟩
  rw [List.length_map] at hj
  rw [hc j (by rw [List.length_map]; exact hj)]
  simp [sv, List.getD_eq_getElem?_getD, hj]
theorem map_bs_inj {xs ys : List Txt} (h : xs.map bs = ys.map bs) : xs = ys := by
  have := congrArg (List.map (fun s : ByteArray => s.data.toList)) h
  rw [List.map_map, List.map_map] at this
  have e : ((fun s : ByteArray => s.data.toList) ∘ bs) = id := rfl
  rw [e, List.map_id, List.map_id] at this
  exact this

theorem eqtexts_ne (A B : Option Addr) (n m c d : Nat) (w : World) (h : n ≠ m) :
    Calls Tryz.prog 46 #[.slice A n c, .slice B m d] w fun e w' => e = .returned (.bool false) ∧ w = w' := by
  have t1 : ((n : Int) != (m : Int)) = true := by rw [bne_iff_ne]; omega
  clear h
  go_enter Tryz.func46, Tryz.ntmps46
  go_wp2
  go_ret
  exact ⟨rfl, rfl⟩

theorem eqtexts_any (A B : Option Addr) (xs ys : List Txt) (c d : Nat) (w : World) (ha : Texts w A xs) (hb : Texts w B ys) (hx : xs.length ≤ 9223372036854775807) (hy : ys.length ≤ 9223372036854775807) :
    Calls Tryz.prog 46 #[.slice A xs.length c, .slice B ys.length d] w fun e w' => e = .returned (.bool (decide (xs = ys))) ∧ Below w.heap.size w w' := by
  by_cases h0 : xs.length = 0
  · rw [h0]
    have hxs : xs = [] := List.eq_nil_of_length_eq_zero h0
    refine (Any.slices_Equal_string_empty Tryz.lays193 A B c ys.length d w hy).mono fun e w' ⟨h1, h2⟩ => ⟨?_, by rw [h2]; exact Below.refl _ _⟩
    rw [h1, hxs]
    congr 2
    rw [decide_eq_decide]
    exact ⟨fun h => (List.eq_nil_of_length_eq_zero h).symm, fun h => by rw [← h]; rfl⟩
  · obtain ⟨b, off, rfl, hc⟩ := texts_cells ha (by omega)
    by_cases h1 : ys.length = 0
    · have hys : ys = [] := List.eq_nil_of_length_eq_zero h1
      refine (eqtexts_ne (some ⟨b, off, none⟩) B xs.length ys.length c d w (by omega)).mono fun e w' ⟨h2, h3⟩ => ⟨?_, by rw [h3]; exact Below.refl _ _⟩
      rw [h2]
      congr 2
      rw [eq_comm, decide_eq_false_iff_not]
      intro e
      rw [e, hys] at h0
      exact h0 rfl
    · obtain ⟨b', off', rfl, hc'⟩ := texts_cells hb (by omega)
      refine (Any.slices_Equal_string Tryz.lays193 b off xs.length c b' off' ys.length d (xs.map bs) (ys.map bs) w (by simp) (by simp) hx hy hc hc').mono fun e w' ⟨h1, q, h2⟩ => ⟨?_, by rw [h2]; exact below_drewN (Below.refl _ _) q⟩
      rw [h1]
      congr 2
      rw [decide_eq_decide, List.take_of_length_le (by simp), List.take_of_length_le (by simp)]
      exact ⟨map_bs_inj, fun h => by rw [h]⟩
end Go.Proofs.YtabecceojbeomaaGreatDoor
