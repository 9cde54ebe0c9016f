/- Names and paths: plain. No condition. -/
import Derived.Test.YtabecceojbeomaaGreatDoorLib
namespace Go.Cat.Dir
open Go.RowKit Go.Cat
abbrev Txt := List UInt8
/-- A text as a Go string; a row of texts. -/
def bs (l : Txt) : ByteArray := ⟨l.toArray⟩
theorem bs_list (l : Txt) : (bs l).data.toList = l := rfl
theorem bs_of (s : ByteArray) : bs s.data.toList = s := rfl
theorem bs_size (l : Txt) : (bs l).size = l.length := by simp [bs, ByteArray.size]
theorem bs_inj {l m : Txt} (h : bs l = bs m) : l = m := by have := congrArg (fun s : ByteArray => s.data.toList) h; exact this
def sv (l : Txt) : Value := .string (bs l)
theorem sv_inj {l m : Txt} (h : sv l = sv m) : l = m := by injection h with h; exact bs_inj h
theorem one_sv (ls : List Txt) : ∀ u ∈ ls.map sv, u.oneCell' = true := by intro u hu; obtain ⟨a, _, rfl⟩ := List.mem_map.1 hu; rfl
/-- A letter of names; a name. -/
def plainB (b : UInt8) : Bool := (decide (97 ≤ b.toNat) && decide (b.toNat ≤ 122)) || (decide (48 ≤ b.toNat) && decide (b.toNat ≤ 57)) || decide (b.toNat = 46) || decide (b.toNat = 95) || decide (b.toNat = 45)
def nameP (l : Txt) : Prop := l ≠ [46] ∧ l ≠ [46, 46] ∧ 1 ≤ l.length ∧ l.length ≤ 11 ∧ ∀ b ∈ l, plainB b = true
instance (l : Txt) : Decidable (nameP l) := by unfold nameP; infer_instance
def nameB (l : Txt) : Bool := decide (nameP l)
/-- What lies between the slashes. -/
def pieces : Txt → List Txt
  | [] => [[]]
  | c :: t => if c = 47 then [] :: pieces t else match pieces t with
    | [] => [[c]]
    | p :: ps => (c :: p) :: ps
theorem pieces_ne (l : Txt) : pieces l ≠ [] := by
  cases l with
  | nil => intro h; cases h
  | cons c t =>
    unfold pieces
    split
    · intro h; cases h
    · split
      · intro h; cases h
      · intro h; cases h
theorem pieces_other {c : UInt8} {t : Txt} (h : c ≠ 47) : ∃ p ps, pieces t = p :: ps ∧ pieces (c :: t) = (c :: p) :: ps := by
  have hn := pieces_ne t
  cases hp : pieces t with
  | nil => exact absurd hp hn
  | cons p ps =>
    refine ⟨p, ps, rfl, ?_⟩
    show (if c = 47 then [] :: pieces t else match pieces t with | [] => [[c]] | p :: ps => (c :: p) :: ps) = _
    rw [if_neg h, hp]
theorem pieces_slash (t : Txt) : pieces (47 :: t) = [] :: pieces t := by show (if (47 : UInt8) = 47 then _ else _) = _; rw [if_pos rfl]
/-- One letter more at the end. -/
theorem pieces_snoc_slash : ∀ t : Txt, pieces (t ++ [47]) = pieces t ++ [[]]
  | [] => rfl
  | c :: t => by
    have ih := pieces_snoc_slash t
    by_cases h : c = 47
    · subst h
      rw [List.cons_append, pieces_slash, pieces_slash, ih]; rfl
    · obtain ⟨p, ps, h1, h2⟩ := pieces_other (t := t) h
      obtain ⟨q, qs, h3, h4⟩ := pieces_other (t := t ++ [47]) h
      rw [List.cons_append, h4, h2]
      rw [h1, h3] at ih
      injection ih with e1 e2
      rw [e1, e2]; rfl
theorem pieces_snoc {b : UInt8} (hb : b ≠ 47) : ∀ t : Txt, ∃ ps p, pieces t = ps ++ [p] ∧ pieces (t ++ [b]) = ps ++ [p ++ [b]]
  | [] => ⟨[], [], rfl, by
      obtain ⟨p, ps, h1, h2⟩ := pieces_other (t := []) hb
      have : pieces ([] : Txt) = [[]] := rfl
      rw [this] at h1
      injection h1 with e1 e2
      subst e1 e2
      exact h2⟩
  | c :: t => by
    obtain ⟨ps, p, h1, h2⟩ := pieces_snoc hb t
    by_cases h : c = 47
    · subst h
      exact ⟨[] :: ps, p, by rw [pieces_slash, h1]; rfl, by rw [List.cons_append, pieces_slash, h2]; rfl⟩
    · obtain ⟨q, qs, h3, h4⟩ := pieces_other (t := t) h
      obtain ⟨q', qs', h5, h6⟩ := pieces_other (t := t ++ [b]) h
      rw [List.cons_append]
      rw [h1] at h3
      rw [h2] at h5
      cases ps with
      | nil =>
        injection h3 with e1 e2
        injection h5 with e3 e4
        subst e1 e2 e3 e4
        exact ⟨[], c :: p, h4, h6⟩
      | cons x xs =>
        injection h3 with e1 e2
        injection h5 with e3 e4
        subst e1 e2 e3 e4
        exact ⟨(c :: x) :: xs, p, h4, h6⟩
theorem pieces_join : ∀ t : Txt, (pieces t).flatMap (fun l => 47 :: l) = 47 :: t
  | [] => rfl
  | c :: t => by
    have ih := pieces_join t
    by_cases h : c = 47
    · subst h
      rw [pieces_slash, List.flatMap_cons, ih]; rfl
    · obtain ⟨p, ps, h1, h2⟩ := pieces_other (t := t) h
      rw [h1, List.flatMap_cons, List.cons_append] at ih
      injection ih with _ ih
      rw [h2, List.flatMap_cons, List.cons_append, List.cons_append, ih]
theorem pieces_length (t : Txt) : (pieces t).length ≤ t.length + 1 := by
  induction t with
  | nil => exact Nat.le_refl _
  | cons c t ih =>
    by_cases h : c = 47
    · subst h; rw [pieces_slash, List.length_cons, List.length_cons]; omega
    · obtain ⟨p, ps, h1, h2⟩ := pieces_other (t := t) h
      rw [h1, List.length_cons] at ih
      rw [h2, List.length_cons, List.length_cons]; omega
/-- A path's names, or none; the path of names; what stands above; is one under another? -/
def splitV : Txt → Option (List Txt)
  | [] => none
  | c :: rest => if c ≠ 47 then none else if rest = [] then some [] else if (pieces rest).length ≤ 8 ∧ ∀ l ∈ pieces rest, nameP l then some (pieces rest) else none
def joinV (ls : List Txt) : Txt := if ls = [] then [47] else ls.flatMap (fun l => 47 :: l)
def aboveV (path : Txt) : Option (Txt × Txt) := match splitV path with
  | none => none
  | some ls => if h : ls = [] then none else some (joinV ls.dropLast, ls.getLast h)
def underV (path top : Txt) : Bool := match splitV path, splitV top with
  | some a, some b => decide (b.length ≤ a.length ∧ a.take b.length = b)
  | _, _ => false
theorem split_nil : splitV [] = none := rfl
theorem split_no {c : UInt8} {rest : Txt} (h : c ≠ 47) : splitV (c :: rest) = none := if_pos h
theorem split_root : splitV [47] = some [] := rfl
theorem split_ok {rest : Txt} (h : rest ≠ []) (h2 : (pieces rest).length ≤ 8 ∧ ∀ l ∈ pieces rest, nameP l) : splitV (47 :: rest) = some (pieces rest) := by
  show (if (47 : UInt8) ≠ 47 then none else if rest = [] then some [] else if (pieces rest).length ≤ 8 ∧ ∀ l ∈ pieces rest, nameP l then some (pieces rest) else none) = _
  rw [if_neg (by simp), if_neg h, if_pos h2]
theorem split_bad {rest : Txt} (h : rest ≠ []) (h2 : ¬ ((pieces rest).length ≤ 8 ∧ ∀ l ∈ pieces rest, nameP l)) : splitV (47 :: rest) = none := by
  show (if (47 : UInt8) ≠ 47 then none else if rest = [] then some [] else if (pieces rest).length ≤ 8 ∧ ∀ l ∈ pieces rest, nameP l then some (pieces rest) else none) = _
  rw [if_neg (by simp), if_neg h, if_neg h2]
theorem split_some {p : Txt} {ls : List Txt} (h : splitV p = some ls) : joinV ls = p ∧ ls.length ≤ 8 ∧ (∀ l ∈ ls, nameP l) ∧ ∃ rest, p = 47 :: rest := by
  cases p with
  | nil => cases h
  | cons c rest =>
    by_cases hc : c = 47
    · subst hc
      by_cases hr : rest = []
      · subst hr
        rw [split_root] at h
        injection h with h
        subst h
        exact ⟨rfl, Nat.zero_le _, (fun l hl => by cases hl), [], rfl⟩
      · by_cases h2 : (pieces rest).length ≤ 8 ∧ ∀ l ∈ pieces rest, nameP l
        · rw [split_ok hr h2] at h
          injection h with h
          subst h
          exact ⟨by unfold joinV; rw [if_neg (pieces_ne rest), pieces_join], h2.1, h2.2, rest, rfl⟩
        · rw [split_bad hr h2] at h; cases h
    · rw [split_no hc] at h; cases h
end Go.Cat.Dir
