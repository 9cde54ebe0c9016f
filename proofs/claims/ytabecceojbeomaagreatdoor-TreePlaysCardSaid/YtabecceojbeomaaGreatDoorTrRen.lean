/- What rename's walk uses: strings.Count of a slash, strings.TrimPrefix of a path. Condition: none. -/
import Derived.Test.YtabecceojbeomaaGreatDoorTrCalls
import Derived.Test.YtabecceojbeomaaGreatDoorTrBase
import Derived.Test.YtabecceojbeomaaGreatDoorTrLaid
import Derived.Test.YtabecceojbeomaaGreatDoorDirUnder2
import Derived.Deep.DeepCutAuto
import Derived.Deep.RegionHeld3
namespace Go.Proofs.YtabecceojbeomaaGreatDoor
open Go.RowKit Go.Cat Go.Cat.Dir Go.Cat.Tree Go.Maps
theorem count_any (p : Txt) (w : World) : Calls Tryz.prog 74 #[.string (bs p), .string ⟨#[47]⟩] w fun e w' => e = .returned (.int .i64 (p.count 47 : Nat)) ∧ w = w' :=
  (Tryz.strings_Count_one (bs p) 47 w).mono fun _ _ ⟨h1, h2⟩ => ⟨h1, h2.symm⟩
/-- What is cut off behind a path that it is under. -/
theorem under_drop {q p : Txt} (h1 : abe p = 0) (h : underV q p = true) : Lib.trimPrefix q p = q.drop p.length := by
  obtain ⟨b, hb, b0, rfl⟩ := abe_join h1
  cases hs : splitV q with
  | none => rw [under_none1 hs] at h; cases h
  | some l =>
    obtain ⟨hN, rfl⟩ := nms_split hs
    obtain ⟨r, rfl⟩ := (under_join hN hb).1 h
    unfold Lib.trimPrefix Lib.hasPrefix
    rw [join_app b0, if_pos]
    rw [List.isPrefixOf_iff_prefix]
    exact List.prefix_append _ _
theorem trimp_any {q p : Txt} (h1 : abe p = 0) (h : underV q p = true) (w : World) : Calls Tryz.prog 75 #[.string (bs q), .string (bs p)] w fun e w' => e = .returned (.string (bs (q.drop p.length))) ∧ w = w' :=
  (Tryz.strings_TrimPrefix (bs q) (bs p) w).mono fun _ _ ⟨h2, h3⟩ => ⟨by rw [h2, bs_list, bs_list, under_drop h1 h]; rfl, h3.symm⟩
/-- What the loop of rename keeps of the things. -/
structure RenI (es : List (Txt × El)) (c : CallV) (k : Nat) (esk : List (Txt × El)) : Prop where
  ths_ : ths esk = ((keysE es).take k).foldl (moveOne c.path c.to) (ths es)
  len : esk.length ≤ es.length + k
theorem putT_len {α : Type} (p : Txt) (x : α) (l : List (Txt × α)) : (putT p x l).length ≤ l.length + 1 := by
  unfold putT
  rw [ins_length]
  exact Nat.succ_le_succ (List.length_filter_le _ _)
theorem RenI.start (es : List (Txt × El)) (c : CallV) : RenI es c 0 es := ⟨rfl, Nat.le_refl _⟩
theorem RenI.skip {es esk : List (Txt × El)} {c : CallV} {k : Nat} (h : RenI es c k esk) (hk : k < (keysE es).length) (hu : underV (keysE es)[k] c.path = false) : RenI es c (k + 1) esk := by
  refine ⟨?_, by have := h.len; omega⟩
  rw [List.take_succ_eq_append_getElem hk, List.foldl_append, ← h.ths_]
  show _ = moveOne c.path c.to (ths esk) (keysE es)[k]
  unfold moveOne
  rw [if_neg (by rw [hu]; simp)]
theorem RenI.move {es esk : List (Txt × El)} {c : CallV} {k : Nat} (h : RenI es c k esk) (hk : k < (keysE es).length) (hu : underV (keysE es)[k] c.path = true) : RenI es c (k + 1) (putT (c.to ++ (keysE es)[k].drop c.path.length) (lookE (keysE es)[k] esk) (delT (keysE es)[k] esk)) := by
  refine ⟨?_, ?_⟩
  · rw [List.take_succ_eq_append_getElem hk, List.foldl_append, ← h.ths_]
    show _ = moveOne c.path c.to (ths esk) (keysE es)[k]
    unfold moveOne
    rw [if_pos hu, ths_put, ths_del, th_look]
  · have h1 := putT_len (c.to ++ (keysE es)[k].drop c.path.length) (lookE (keysE es)[k] esk) (delT (keysE es)[k] esk)
    have h2 : (delT (keysE es)[k] esk).length ≤ esk.length := List.length_filter_le _ _
    have := h.len
    omega
theorem find_there {l : TL} {p : Txt} (h1 : abe p = 0) (h : (findV l p).1 = 0) : (getT p l).isSome = true := by
  obtain ⟨ls, hN, h0, rfl⟩ := abe_join h1
  unfold findV at h
  rw [split_join hN] at h
  simp only at h
  cases ls with
  | nil => exact absurd rfl h0
  | cons n r =>
    rw [walkV] at h
    split at h
    · split at h
      · exact absurd h (by simp)
      · rename_i y hy
        have := walk_inv r hy h
        rw [show joinV (n :: r) = joinV ([] ++ [n] ++ r) from rfl, this]
        rfl
    · exact absurd h (by simp)
end Go.Proofs.YtabecceojbeomaaGreatDoor
