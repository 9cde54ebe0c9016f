/- The contracts of the parts TrNameV, TrDoV, TrPathV, TrInvV, TrMoveV, TrKeepV, in one text. Conditions: those told at each part. -/
import Derived.Test.YtabecceojbeomaaGreatDoorTrBase
import Derived.Test.YtabecceojbeomaaGreatDoorDirAbove
import Derived.Sort.Walk0
import Derived.Test.YtabecceojbeomaaGreatDoorDirRSplit
import Derived.Test.YtabecceojbeomaaGreatDoorDirUnder2
section
/- A directory's names, plain: those of a rising list rise; sorted texts. No condition. -/
namespace Go.Cat.Tree
open Go.RowKit Go.Cat Go.Cat.Dir
theorem bef_lt : ∀ a b : Txt, bytesBefore a b = decide (a < b)
  | [], [] => by simp [bytesBefore]
  | _ :: _, [] => by simp [bytesBefore]
  | [], _ :: _ => by simp [bytesBefore]
  | a :: x, b :: y => by
    rw [bytesBefore, bef_lt x y]
    simp only [List.cons_lt_cons_iff]
    by_cases h1 : a < b <;> by_cases h2 : a = b <;> by_cases h3 : x < y <;> simp [h1, h2, h3]
theorem bef_app (p a b : Txt) : bytesBefore (p ++ a) (p ++ b) = bytesBefore a b := by
  induction p with
  | nil => rfl
  | cons c p ih =>
    rw [List.cons_append, List.cons_append, bytesBefore, ih]
    simp
/-- The name of what stands at p, if it stands in path. -/
def nameOf (path p : Txt) : Option Txt := if abe p = 0 ∧ (abv p).1 = path then some (abv p).2 else none
/-- A directory's names. -/
def namesV (path : Txt) (l : List (Txt × Th)) : List Txt := l.filterMap fun y => nameOf path y.1
/-- What stands ahead of a name. -/
def pre (path : Txt) : Txt := if path = [47] then [47] else path ++ [47]
theorem join_ne {ls : List Txt} (h : ∀ l ∈ ls, nameP l) (h0 : ls ≠ []) : joinV ls ≠ [47] := by
  rw [join_some h0]
  cases ls with
  | nil => exact absurd rfl h0
  | cons l ls =>
    intro e
    have hl := (h l (by simp)).2.2.1
    have := congrArg List.length e
    rw [List.flatMap_cons, List.length_append, List.length_cons] at this
    simp only [List.length_cons, List.length_nil] at this
    omega
theorem join_snoc {ls : List Txt} (h : ∀ l ∈ ls, nameP l) (n : Txt) : joinV (ls ++ [n]) = pre (joinV ls) ++ n := by
  rw [join_some (by simp)]
  unfold pre
  by_cases h0 : ls = []
  · subst h0
    rw [if_pos (show joinV [] = [47] from rfl)]
    simp
  · rw [if_neg (join_ne h h0), join_some h0]
    simp
theorem nameOf_pre {path p n : Txt} (h : nameOf path p = some n) : p = pre path ++ n := by
  unfold nameOf at h
  split at h
  · rename_i hc
    obtain ⟨h1, h2⟩ := hc
    injection h with h
    cases hs : splitV p with
    | none => rw [(above_none hs).2] at h1; omega
    | some ls =>
      by_cases h0 : ls = []
      · subst h0; rw [(above_root hs).2] at h1; omega
      · have ha := (above_some hs h0).1
        obtain ⟨hj, _, hn, _⟩ := split_some hs
        rw [ha] at h2 h
        simp only at h2 h
        have he : ls = ls.take (ls.length - 1) ++ [n] := by
          have hp := List.length_pos_iff.2 h0
          rw [← h]
          conv => lhs; rw [← List.take_append_drop (ls.length - 1) ls]
          rw [List.drop_eq_getElem_cons (by omega), List.drop_eq_nil_of_le (by omega)]
        rw [← hj, ← h2, ← join_snoc (fun l hl => hn l (List.mem_of_mem_take hl)), ← he]
  · cases h
theorem names_rise {l : List (Txt × Th)} (h : Rise l) (path : Txt) : (namesV path l).Pairwise Lt := by
  induction l with
  | nil => exact List.Pairwise.nil
  | cons y l ih =>
    obtain ⟨h1, h2⟩ := rise_cons.1 h
    unfold namesV
    rw [List.filterMap_cons]
    split
    · exact ih h2
    · rename_i n hn
      refine List.pairwise_cons.2 ⟨fun m hm => ?_, ih h2⟩
      obtain ⟨z, hz, hm⟩ := List.mem_filterMap.1 hm
      have := h1 z hz
      rw [nameOf_pre hn, nameOf_pre hm] at this
      unfold Lt at this ⊢
      rwa [bef_app] at this
/-- Texts that rise, in whatever order they come, sorted. -/
theorem sort_rise {l m : List Txt} (h : m.Perm l) (hl : l.Pairwise Lt) : m.mergeSort (fun x y => decide (x ≤ y)) = l := by
  have hle : ∀ a b : Txt, Lt a b → decide (a ≤ b) = true := fun a b h => by
    unfold Lt at h
    rw [bef_lt] at h
    simp at h
    simp [List.le_of_lt h]
  refine List.Perm.eq_of_pairwise (le := fun x y : Txt => decide (x ≤ y) = true) (fun a b _ _ h1 h2 => ?_) ?_ (hl.imp fun h => hle _ _ h) ((List.mergeSort_perm _ _).trans h)
  · simp at h1 h2
    exact List.le_antisymm h1 h2
  · exact List.pairwise_mergeSort (fun a b c h1 h2 => by simp at *; exact List.le_trans h1 h2) (fun a b => by simpa using List.le_total a b) m
end Go.Cat.Tree
end

section
/- What a tree's calls do, plain. No condition. -/
namespace Go.Cat.Tree
open Go.RowKit Go.Cat Go.Cat.Dir
/-- A call, and an answer. -/
structure CallV where
  kind : Int
  path : Txt
  to : Txt
  off : Int
  n : Int
  data : List UInt8
structure AnsV where
  code : Int := 0
  data : List UInt8 := []
  names : List Txt := []
  size : Int := 0
  dir : Bool := false
abbrev TL := List (Txt × Th)
def wrongV (e : Int) : AnsV := { code := e }
def zeroT : Th := ⟨false, []⟩
def need (size : Int) : Int := if size ≤ 0 then 0 else (size - 1) / 64 + 1
def thAt (l : TL) (p : Txt) : Th := (getT p l).getD zeroT
def sizeV (l : TL) (p : Txt) : Nat := if (thAt l p).dir then 16 * (namesV p l).length else (thAt l p).b.length
def blocksV (l : TL) : Int := (l.map fun y => need (sizeV l y.1)).sum
/-- From a thing on, name by name. -/
def walkV (l : TL) (pre : List Txt) (x : Th) : List Txt → Int × Th
  | [] => (0, x)
  | n :: r => if x.dir then match getT (joinV (pre ++ [n])) l with | none => (13, zeroT) | some y => walkV l (pre ++ [n]) y r else (14, zeroT)
def findV (l : TL) (p : Txt) : Int × Th := match splitV p with | none => (18, zeroT) | some ls => walkV l [] (thAt l [47]) ls
def upV (l : TL) (p : Txt) : Int × Txt :=
  if abe p = 0 then if (findV l (abv p).1).1 = 0 then if (findV l (abv p).1).2.dir then (0, (abv p).1) else (14, []) else ((findV l (abv p).1).1, []) else (abe p, [])
def fullV (l : TL) (p : Txt) : Bool := decide (512 < sizeV l p + 16)
def overV (I J : Int) (l : TL) : Bool := decide (I < l.length) || decide (J < blocksV l)
def makeV (l : TL) (c : CallV) : TL × AnsV :=
  if (upV l c.path).1 = 0 then
    if (getT c.path l).isSome then (l, wrongV 8)
    else if fullV l (upV l c.path).2 then (l, wrongV 17)
    else (putT c.path ⟨c.kind == 2, []⟩ l, {})
  else (l, wrongV (upV l c.path).1)
def removeV (l : TL) (c : CallV) : TL × AnsV :=
  if abe c.path = 0 then
    if (findV l c.path).1 = 0 then
      if c.kind = 3 ∧ (findV l c.path).2.dir = true then (l, wrongV 15)
      else if c.kind = 4 ∧ (findV l c.path).2.dir = false then (l, wrongV 14)
      else if 0 < (namesV c.path l).length then (l, wrongV 19)
      else (delT c.path l, {})
    else (l, wrongV (findV l c.path).1)
  else (l, wrongV (abe c.path))
/-- One thing moved. -/
def moveOne (path to : Txt) (l : TL) (p : Txt) : TL := if underV p path then putT (to ++ p.drop path.length) (thAt l p) (delT p l) else l
def moveV (path to : Txt) (l : TL) : TL := (l.map (·.1)).foldl (moveOne path to) l
def renameV (l : TL) (c : CallV) : TL × AnsV :=
  if abe c.path = 0 ∧ abe c.to = 0 then
    if (findV l c.path).1 = 0 then
      if (findV l c.path).2.dir = true ∧ c.to ≠ c.path ∧ underV c.to c.path = true then (l, wrongV 21)
      else if (findV l c.path).2.dir = true ∧ c.path.count 47 < c.to.count 47 then (l, wrongV 6)
      else if (upV l c.to).1 = 0 then
        if (getT c.to l).isSome then (l, wrongV 8)
        else if (upV l c.to).2 ≠ (abv c.path).1 ∧ fullV l (upV l c.to).2 = true then (l, wrongV 17)
        else (moveV c.path c.to l, {})
      else (l, wrongV (upV l c.to).1)
    else (l, wrongV (findV l c.path).1)
  else (l, wrongV 18)
def fileV (l : TL) (p : Txt) : Int × Th := if (findV l p).1 = 0 then if (findV l p).2.dir then (15, zeroT) else (0, (findV l p).2) else ((findV l p).1, zeroT)
def writeV (b : List UInt8) (off : Nat) (d : List UInt8) : List UInt8 := b.take off ++ d ++ b.drop (off + d.length)
def putV (l : TL) (c : CallV) : TL × AnsV :=
  if c.off < 0 ∨ 128 < c.data.length then (l, wrongV 1)
  else if (fileV l c.path).1 = 0 then
    if ((fileV l c.path).2.b.length : Int) < c.off then (l, wrongV 20)
    else if 512 < c.off + c.data.length then (l, wrongV 17)
    else (putT c.path ⟨false, writeV (fileV l c.path).2.b c.off.toNat c.data⟩ l, {})
  else (l, wrongV (fileV l c.path).1)
def getV (l : TL) (c : CallV) : TL × AnsV :=
  if c.off < 0 ∨ c.n < 0 ∨ 128 < c.n then (l, wrongV 1)
  else if (fileV l c.path).1 = 0 then
    if ((fileV l c.path).2.b.length : Int) < c.off then (l, wrongV 20)
    else (l, { data := ((fileV l c.path).2.b.drop c.off.toNat).take c.n.toNat })
  else (l, wrongV (fileV l c.path).1)
def truncV (l : TL) (c : CallV) : TL × AnsV :=
  if c.n < 0 then (l, wrongV 1)
  else if (fileV l c.path).1 = 0 then
    if ((fileV l c.path).2.b.length : Int) < c.n then (l, wrongV 20)
    else (putT c.path ⟨false, (fileV l c.path).2.b.take c.n.toNat⟩ l, {})
  else (l, wrongV (fileV l c.path).1)
def listV (l : TL) (c : CallV) : TL × AnsV :=
  if (findV l c.path).1 = 0 then
    if (findV l c.path).2.dir then (l, { names := namesV c.path l }) else (l, wrongV 14)
  else (l, wrongV (findV l c.path).1)
def statV (l : TL) (c : CallV) : TL × AnsV :=
  if (findV l c.path).1 = 0 then
    if (findV l c.path).2.dir then (l, { dir := true, size := (namesV c.path l).length }) else (l, { size := (findV l c.path).2.b.length })
  else (l, wrongV (findV l c.path).1)
def actV (l : TL) (c : CallV) : TL × AnsV :=
  if c.kind = 1 ∨ c.kind = 2 then makeV l c
  else if c.kind = 3 ∨ c.kind = 4 then removeV l c
  else if c.kind = 5 then renameV l c
  else if c.kind = 6 then putV l c
  else if c.kind = 7 then getV l c
  else if c.kind = 8 then truncV l c
  else if c.kind = 9 then listV l c
  else if c.kind = 10 then statV l c
  else (l, wrongV 1)
def turnsV (k : Int) : Bool := decide ((1 ≤ k ∧ k ≤ 6) ∨ k = 8)
def doV (I J : Int) (l : TL) (c : CallV) : TL × AnsV :=
  if (actV l c).2.code = 0 then
    if turnsV c.kind && overV I J (actV l c).1 then (l, wrongV 16) else actV l c
  else (l, wrongV (actV l c).2.code)
/-- The tree of the root alone. -/
def newV : TL := [([47], ⟨true, []⟩)]
end Go.Cat.Tree
end

section
/- Paths as names: what is joined is split; what stands above; what is under. No condition. -/
namespace Go.Cat.Tree
open Go.RowKit Go.Cat Go.Cat.Dir
/-- Names that make a path. -/
def Nms (ls : List Txt) : Prop := ls.length ≤ 8 ∧ ∀ l ∈ ls, nameP l
theorem Nms.nil : Nms [] := ⟨Nat.zero_le _, fun l h => by cases h⟩
theorem Nms.left {a b : List Txt} (h : Nms (a ++ b)) : Nms a := ⟨by have := h.1; rw [List.length_append] at this; omega, fun l hl => h.2 l (List.mem_append_left _ hl)⟩
theorem Nms.dropLast {a : List Txt} (h : Nms a) : Nms a.dropLast := ⟨by have := h.1; rw [List.length_dropLast]; omega, fun l hl => h.2 l (List.dropLast_subset _ hl)⟩
theorem Nms.take {a : List Txt} (h : Nms a) (k : Nat) : Nms (a.take k) := ⟨by have := h.1; rw [List.length_take]; omega, fun l hl => h.2 l (List.mem_of_mem_take hl)⟩
theorem plain_ne {b : UInt8} (h : plainB b = true) : b ≠ 47 := by rintro rfl; exact absurd h (by decide)
theorem pieces_name : ∀ {n : Txt}, (∀ b ∈ n, plainB b = true) → pieces n = [n]
  | [], _ => rfl
  | c :: n, h => by
    obtain ⟨p, ps, h1, h2⟩ := pieces_other (t := n) (plain_ne (h c (by simp)))
    rw [pieces_name (fun b hb => h b (List.mem_cons_of_mem _ hb))] at h1
    injection h1 with e1 e2
    subst e1 e2
    exact h2
theorem pieces_names : ∀ {n : Txt} {ls : List Txt}, (∀ l ∈ n :: ls, nameP l) → pieces (n ++ ls.flatMap (fun l => 47 :: l)) = n :: ls
  | n, [], h => by rw [List.flatMap_nil, List.append_nil]; exact pieces_name (h n (by simp)).2.2.2.2
  | n, m :: ls, h => by
    rw [List.flatMap_cons, List.cons_append, pieces_app_slash, pieces_name (h n (by simp)).2.2.2.2, pieces_names (fun l hl => h l (List.mem_cons_of_mem _ hl))]
    rfl
theorem split_join {ls : List Txt} (h : Nms ls) : splitV (joinV ls) = some ls := by
  cases ls with
  | nil => rfl
  | cons n ls =>
    rw [join_some (by simp), List.flatMap_cons, List.cons_append]
    have hp := pieces_names h.2
    have hne : n ++ ls.flatMap (fun l => 47 :: l) ≠ [] := by
      intro e
      have h1 := (h.2 n (by simp)).2.2.1
      have := congrArg List.length e
      rw [List.length_append] at this
      simp only [List.length_nil] at this
      omega
    rw [split_ok hne (by rw [hp]; exact h), hp]
theorem nms_split {p : Txt} {ls : List Txt} (h : splitV p = some ls) : Nms ls ∧ p = joinV ls := by
  obtain ⟨h1, h2, h3, _⟩ := split_some h
  exact ⟨⟨h2, h3⟩, h1.symm⟩
theorem join_inj {a b : List Txt} (ha : Nms a) (hb : Nms b) (h : joinV a = joinV b) : a = b := by
  have := split_join ha
  rw [h, split_join hb] at this
  injection this with this
  exact this.symm
theorem above_join {ls : List Txt} (h : Nms ls) (h0 : ls ≠ []) : abv (joinV ls) = (joinV ls.dropLast, ls.getLast h0) ∧ abe (joinV ls) = 0 := by
  obtain ⟨h1, h2⟩ := above_some (split_join h) h0
  refine ⟨?_, h2⟩
  rw [h1, List.dropLast_eq_take, List.getLast_eq_getElem]
theorem abe_cases (p : Txt) : abe p = 0 ∨ abe p = 18 := by unfold abe; split <;> simp
theorem abe_join {p : Txt} (h : abe p = 0) : ∃ ls, Nms ls ∧ ls ≠ [] ∧ p = joinV ls := by
  cases hs : splitV p with
  | none => rw [(above_none hs).2] at h; omega
  | some ls =>
    by_cases h0 : ls = []
    · subst h0; rw [(above_root hs).2] at h; omega
    · exact ⟨ls, (nms_split hs).1, h0, (nms_split hs).2⟩
theorem abe_root : abe [47] = 18 := (above_root (p := [47]) split_root).2
theorem under_join {a b : List Txt} (ha : Nms a) (hb : Nms b) : underV (joinV a) (joinV b) = true ↔ b <+: a := by
  rw [under_some (split_join ha) (split_join hb), decide_eq_true_iff]
  constructor
  · rintro ⟨_, h⟩
    exact ⟨a.drop b.length, by conv => rhs; rw [← List.take_append_drop b.length a, h]⟩
  · rintro ⟨r, rfl⟩
    exact ⟨by simp, by simp⟩
theorem under_self {a : List Txt} (ha : Nms a) : underV (joinV a) (joinV a) = true := (under_join ha ha).2 (List.prefix_refl _)
theorem join_app {a b : List Txt} (h0 : a ≠ []) : joinV (a ++ b) = joinV a ++ b.flatMap (fun l => 47 :: l) := by
  rw [join_some (by simp [h0]), join_some h0, List.flatMap_append]
theorem join_len {a : List Txt} (h : Nms a) : (joinV a).length ≤ 96 := by
  by_cases h0 : a = []
  · subst h0; exact (by decide : (1 : Nat) ≤ 96)
  · rw [join_some h0]
    have := names_len h.2
    have := h.1
    omega
theorem name_count {n : Txt} (h : nameP n) : n.count 47 = 0 := List.count_eq_zero.2 fun hm => plain_ne (h.2.2.2.2 _ hm) rfl
theorem join_count : ∀ {a : List Txt}, a ≠ [] → (∀ l ∈ a, nameP l) → (joinV a).count 47 = a.length := by
  intro a h0 h
  rw [join_some h0]
  clear h0
  induction a with
  | nil => rfl
  | cons n a ih =>
    rw [List.flatMap_cons, List.count_append, List.count_cons_self, ih (fun l hl => h l (List.mem_cons_of_mem _ hl)), name_count (h n (by simp)), List.length_cons]
    omega
/-- What stands at p has the name n in the directory at u. -/
theorem nameOf_join {path : Txt} {ls : List Txt} (h : Nms ls) : nameOf path (joinV ls) = if h0 : ls = [] then none else if joinV ls.dropLast = path then some (ls.getLast h0) else none := by
  unfold nameOf
  by_cases h0 : ls = []
  · subst h0
    rw [dif_pos rfl, if_neg (fun e => by have := e.1; rw [show joinV [] = [47] from rfl, abe_root] at this; omega)]
  · obtain ⟨h1, h2⟩ := above_join h h0
    rw [dif_neg h0, h1, h2]
    simp only [true_and]
end Go.Cat.Tree
end

section
/- What a tree keeps, plain: each thing stands in a directory; what is found; what put, removal and moving keep. No condition. -/
namespace Go.Cat.Tree
open Go.RowKit Go.Cat Go.Cat.Dir
structure Inv (l : TL) : Prop where
  rise : Rise l
  root : getT [47] l = some ⟨true, []⟩
  each : ∀ y ∈ l, ∃ ls, Nms ls ∧ y.1 = joinV ls ∧ (ls ≠ [] → ∃ t, getT (joinV ls.dropLast) l = some t ∧ t.dir = true)
  dirb : ∀ y ∈ l, y.2.dir = true → y.2.b = []
  fit : ∀ y ∈ l, y.2.b.length ≤ 512
variable {l : TL}
theorem Inv.new : Inv newV := ⟨List.pairwise_singleton _ _, rfl, fun y hy => ⟨[], .nil, by rw [List.mem_singleton.1 hy]; rfl, fun h => absurd rfl h⟩, fun y hy _ => by rw [List.mem_singleton.1 hy], fun y hy => by rw [List.mem_singleton.1 hy]; exact Nat.zero_le _⟩
theorem Inv.key (h : Inv l) {y : Txt × Th} (hy : y ∈ l) : y.1.length ≤ 96 := by
  obtain ⟨ls, h1, h2, _⟩ := h.each y hy
  rw [h2]; exact join_len h1
theorem Inv.at_ (h : Inv l) {ls : List Txt} (hN : Nms ls) {x : Th} (hx : getT (joinV ls) l = some x) : ls ≠ [] → ∃ t, getT (joinV ls.dropLast) l = some t ∧ t.dir = true := by
  obtain ⟨ls', h1, h2, h3⟩ := h.each _ (get_mem hx)
  have := join_inj hN h1 h2
  subst this
  exact h3
/-- What stands above something is a directory. -/
theorem Inv.anc (h : Inv l) : ∀ (b : List Txt) {a : List Txt} {x : Th}, Nms (a ++ b) → getT (joinV (a ++ b)) l = some x → b ≠ [] → ∃ t, getT (joinV a) l = some t ∧ t.dir = true := by
  intro b
  induction hn : b.length generalizing b with
  | zero => intro a x _ _ h0; exact absurd (List.eq_nil_of_length_eq_zero hn) h0
  | succ n ih =>
    intro a x hN hx h0
    obtain ⟨b', m, rfl⟩ : ∃ b' m, b = b' ++ [m] := ⟨b.dropLast, b.getLast h0, (List.dropLast_concat_getLast h0).symm⟩
    obtain ⟨t, ht, hd⟩ := h.at_ hN hx (by simp)
    rw [← List.append_assoc, List.dropLast_concat] at ht
    by_cases hb : b' = []
    · subst hb
      rw [List.append_nil] at ht
      exact ⟨t, ht, hd⟩
    · rw [← List.append_assoc] at hN
      exact ih b' (by simpa using hn) hN.left ht hb
theorem Inv.thRoot (h : Inv l) : thAt l [47] = ⟨true, []⟩ := by unfold thAt; rw [h.root]; rfl
theorem walk_some (h : Inv l) : ∀ (r : List Txt) {pre : List Txt} {x y : Th}, Nms (pre ++ r) → getT (joinV pre) l = some x → getT (joinV (pre ++ r)) l = some y → walkV l pre x r = (0, y)
  | [], pre, x, y, _, hx, hy => by
    rw [List.append_nil, hx] at hy
    injection hy with hy
    rw [walkV, hy]
  | n :: r, pre, x, y, hN, hx, hy => by
    obtain ⟨t, ht, hd⟩ := h.anc (n :: r) hN hy (by simp)
    rw [hx] at ht
    injection ht with ht
    subst ht
    rw [walkV, if_pos hd]
    have hN' : Nms ((pre ++ [n]) ++ r) := by rw [List.append_assoc]; exact hN
    have hy' : getT (joinV ((pre ++ [n]) ++ r)) l = some y := by rw [List.append_assoc]; exact hy
    have : ∃ z, getT (joinV (pre ++ [n])) l = some z := by
      cases r with
      | nil => exact ⟨y, by rw [List.append_nil] at hy'; exact hy'⟩
      | cons m r => exact (h.anc (m :: r) hN' hy' (by simp)).imp fun _ h => h.1
    obtain ⟨z, hz⟩ := this
    rw [hz]
    exact walk_some h r hN' hz hy'
theorem walk_inv : ∀ (r : List Txt) {pre : List Txt} {x : Th}, getT (joinV pre) l = some x → (walkV l pre x r).1 = 0 → getT (joinV (pre ++ r)) l = some (walkV l pre x r).2
  | [], pre, x, hx, _ => by rw [List.append_nil]; exact hx
  | n :: r, pre, x, hx, h0 => by
    rw [walkV] at h0 ⊢
    split at h0
    · rename_i hd
      rw [if_pos hd]
      split at h0
      · exact absurd h0 (by simp)
      · rename_i y hy
        have := walk_inv r hy h0
        rw [List.append_assoc] at this
        exact this
    · exact absurd h0 (by simp)
theorem walk_code : ∀ (r : List Txt) (pre : List Txt) (x : Th), (walkV l pre x r).1 = 0 ∨ (walkV l pre x r).1 = 13 ∨ (walkV l pre x r).1 = 14
  | [], _, _ => .inl rfl
  | n :: r, pre, x => by
    rw [walkV]
    split
    · split
      · exact .inr (.inl rfl)
      · exact walk_code r _ _
    · exact .inr (.inr rfl)
theorem Inv.find_some (h : Inv l) {p : Txt} {x : Th} (hx : getT p l = some x) : findV l p = (0, x) := by
  obtain ⟨ls, h1, h2, _⟩ := h.each _ (get_mem hx)
  simp only at h2
  subst h2
  unfold findV
  rw [split_join h1]
  simp only
  exact walk_some h ls (pre := []) h1 (by rw [h.thRoot]; exact h.root) hx
theorem Inv.find_ok (h : Inv l) {p : Txt} (h0 : (findV l p).1 = 0) : getT p l = some (findV l p).2 := by
  unfold findV at h0 ⊢
  split at h0
  · exact absurd h0 (by simp)
  · rename_i ls hs
    rw [(nms_split hs).2]
    exact walk_inv ls (pre := []) (by rw [h.thRoot]; exact h.root) h0
theorem Inv.find_fst (h : Inv l) (p : Txt) : (findV l p).1 = 0 ↔ (getT p l).isSome = true := by
  constructor
  · intro h0; rw [h.find_ok h0]; rfl
  · intro h0
    obtain ⟨x, hx⟩ := Option.isSome_iff_exists.1 h0
    rw [h.find_some hx]
theorem Inv.up_ok (h : Inv l) {p : Txt} (h0 : (upV l p).1 = 0) : abe p = 0 ∧ (upV l p).2 = (abv p).1 ∧ ∃ t, getT (abv p).1 l = some t ∧ t.dir = true := by
  unfold upV at h0 ⊢
  split at h0
  · rename_i h1
    split at h0
    · rename_i h2
      split at h0
      · rename_i h3
        rw [if_pos h1, if_pos h2, if_pos h3]
        exact ⟨h1, rfl, _, h.find_ok h2, h3⟩
      · exact absurd h0 (by simp)
    · rename_i h2; exact absurd h0 h2
  · rename_i h1; exact absurd h0 h1
/-- A directory's names are those of what stands in it. -/
theorem Inv.names_none (_h : Inv l) {path : Txt} (hn : namesV path l = []) {y : Txt × Th} (hy : y ∈ l) {ls : List Txt} (hN : Nms ls) (he : y.1 = joinV ls) (h0 : ls ≠ []) : joinV ls.dropLast ≠ path := by
  intro e
  unfold namesV at hn
  rw [List.filterMap_eq_nil_iff] at hn
  have := hn y hy
  rw [he, nameOf_join hN, dif_neg h0, if_pos e] at this
  cases this
theorem Inv.names_file (h : Inv l) {path : Txt} {x : Th} (hx : getT path l = some x) (hd : x.dir = false) : namesV path l = [] := by
  unfold namesV
  rw [List.filterMap_eq_nil_iff]
  intro y hy
  obtain ⟨ls, h1, h2, h3⟩ := h.each y hy
  rw [h2, nameOf_join h1]
  split
  · rfl
  · rename_i h0
    split
    · rename_i e
      obtain ⟨t, ht, hd'⟩ := h3 h0
      rw [e, hx] at ht
      injection ht with ht
      subst ht
      rw [hd] at hd'
      cases hd'
    · rfl
/-- With something at a key. -/
theorem Inv.put (h : Inv l) {ls : List Txt} {x : Th} (hN : Nms ls) (h0 : ls ≠ []) (hup : ∃ t, getT (joinV ls.dropLast) l = some t ∧ t.dir = true) (hold : ∀ t, getT (joinV ls) l = some t → t.dir = true → x.dir = true) (hb : x.dir = true → x.b = []) (hf : x.b.length ≤ 512) : Inv (putT (joinV ls) x l) := by
  have hne : joinV ls.dropLast ≠ joinV ls := fun e => by
    have := congrArg List.length (join_inj hN.dropLast hN e)
    rw [List.length_dropLast] at this
    have := List.length_pos_iff.2 h0
    omega
  refine ⟨h.rise.put _ _, ?_, fun y hy => ?_, fun y hy hd => ?_, fun y hy => ?_⟩
  · rw [get_put h.rise, if_neg (fun e : [47] = joinV ls => join_ne hN.2 h0 e.symm)]
    exact h.root
  · rcases put_mem.1 hy with rfl | ⟨hy, _⟩
    · refine ⟨ls, hN, rfl, fun _ => ?_⟩
      rw [get_put h.rise, if_neg hne]
      exact hup
    · obtain ⟨ms, h1, h2, h3⟩ := h.each y hy
      refine ⟨ms, h1, h2, fun hm => ?_⟩
      obtain ⟨t, ht, hd⟩ := h3 hm
      rw [get_put h.rise]
      split
      · rename_i e; rw [e] at ht; exact ⟨x, rfl, hold t ht hd⟩
      · exact ⟨t, ht, hd⟩
  · rcases put_mem.1 hy with rfl | ⟨hy, _⟩
    · exact hb hd
    · exact h.dirb y hy hd
  · rcases put_mem.1 hy with rfl | ⟨hy, _⟩
    · exact hf
    · exact h.fit y hy
/-- Without what has nothing in it. -/
theorem Inv.del (h : Inv l) {path : Txt} (hn : namesV path l = []) (h0 : path ≠ [47]) : Inv (delT path l) := by
  refine ⟨h.rise.del _, ?_, fun y hy => ?_, fun y hy hd => h.dirb y (del_mem.1 hy).1 hd, fun y hy => h.fit y (del_mem.1 hy).1⟩
  · rw [get_del h.rise, if_neg (Ne.symm h0)]; exact h.root
  · obtain ⟨ms, h1, h2, h3⟩ := h.each y (del_mem.1 hy).1
    refine ⟨ms, h1, h2, fun hm => ?_⟩
    rw [get_del h.rise, if_neg (h.names_none hn (del_mem.1 hy).1 h1 h2 hm)]
    exact h3 hm
end Go.Cat.Tree
end

section
/- Moving a thing, plain: what is there then; each thing stands in a directory still. No condition. -/
namespace Go.Cat.Tree
open Go.RowKit Go.Cat Go.Cat.Dir
/-- Where a thing goes. -/
def goes (path to p : Txt) : Txt := to ++ p.drop path.length
theorem goes_join {a b r : List Txt} (ha : a ≠ []) (hb : b ≠ []) : goes (joinV a) (joinV b) (joinV (a ++ r)) = joinV (b ++ r) := by
  unfold goes
  rw [join_app ha, join_app hb, List.drop_left]
/-- What moving asks for. -/
structure MvOk (l : TL) (a b : List Txt) (x : Th) : Prop where
  inv : Inv l
  na : Nms a
  nb : Nms b
  a0 : a ≠ []
  b0 : b ≠ []
  hx : getT (joinV a) l = some x
  loop : x.dir = true → ¬ a <+: b
  deep : x.dir = true → b.length ≤ a.length
  up : ∃ t, getT (joinV b.dropLast) l = some t ∧ t.dir = true
  new : getT (joinV b) l = none
variable {l : TL} {a b : List Txt} {x : Th}
/-- Things under the path. -/
theorem MvOk.below_ (h : MvOk l a b x) {z : Txt × Th} (hz : z ∈ l) (hu : underV z.1 (joinV a) = true) : ∃ r, Nms (a ++ r) ∧ z.1 = joinV (a ++ r) ∧ (x.dir = false → r = []) ∧ Nms (b ++ r) := by
  obtain ⟨ls, h1, h2, _⟩ := h.inv.each z hz
  rw [h2] at hu
  obtain ⟨r, rfl⟩ := (under_join h1 h.na).1 hu
  have hg : getT (joinV (a ++ r)) l = some z.2 := by rw [← h2]; exact get_of_mem h.inv.rise hz
  have hr : x.dir = false → r = [] := fun hd => by
    by_cases h0 : r = []
    · exact h0
    · obtain ⟨t, ht, hd'⟩ := h.inv.anc r h1 hg h0
      rw [h.hx] at ht
      injection ht with ht
      subst ht
      rw [hd] at hd'
      cases hd'
  refine ⟨r, h1, h2, hr, ?_⟩
  cases hd : x.dir with
  | false => rw [hr hd, List.append_nil]; exact h.nb
  | true =>
    refine ⟨?_, fun n hn => ?_⟩
    · have := h.deep hd
      have := h1.1
      rw [List.length_append] at this ⊢
      omega
    · rcases List.mem_append.1 hn with hn | hn
      · exact h.nb.2 n hn
      · exact h1.2 n (List.mem_append_right _ hn)
theorem MvOk.goes_ (h : MvOk l a b x) {z : Txt × Th} (hz : z ∈ l) (hu : underV z.1 (joinV a) = true) : ∃ r, z.1 = joinV (a ++ r) ∧ goes (joinV a) (joinV b) z.1 = joinV (b ++ r) ∧ Nms (a ++ r) ∧ Nms (b ++ r) ∧ (x.dir = false → r = []) := by
  obtain ⟨r, h1, h2, h3, h4⟩ := h.below_ hz hu
  exact ⟨r, h2, by rw [h2, goes_join h.a0 h.b0], h1, h4, h3⟩
/-- Nothing stands at, or below, where it goes. -/
theorem MvOk.free (h : MvOk l a b x) {r : List Txt} (hN : Nms (b ++ r)) : getT (joinV (b ++ r)) l = none := by
  cases hg : getT (joinV (b ++ r)) l with
  | none => rfl
  | some y =>
    exfalso
    have hn := h.new
    by_cases h0 : r = []
    · subst h0
      rw [List.append_nil, hn] at hg
      cases hg
    · obtain ⟨t, ht, _⟩ := h.inv.anc r hN hg h0
      rw [hn] at ht
      cases ht
theorem MvOk.goes_free (h : MvOk l a b x) {z : Txt × Th} (hz : z ∈ l) (hu : underV z.1 (joinV a) = true) : ∀ y ∈ l, y.1 ≠ goes (joinV a) (joinV b) z.1 := by
  obtain ⟨r, _, h2, _, h4, _⟩ := h.goes_ hz hu
  rw [h2]
  exact get_none.1 (h.free h4)
theorem MvOk.goes_inj (h : MvOk l a b x) {z y : Txt × Th} (hz : z ∈ l) (hu : underV z.1 (joinV a) = true) (hy : y ∈ l) (hv : underV y.1 (joinV a) = true) (he : goes (joinV a) (joinV b) z.1 = goes (joinV a) (joinV b) y.1) : z.1 = y.1 := by
  obtain ⟨r, h1, h2, _, h4, _⟩ := h.goes_ hz hu
  obtain ⟨s, k1, k2, _, k4, _⟩ := h.goes_ hy hv
  rw [h2, k2] at he
  have := List.append_cancel_left (join_inj h4 k4 he)
  rw [h1, k1, this]
/-- What is there on the way. -/
def MvMem (l : TL) (path to : Txt) (done : List Txt) (m : TL) : Prop := ∀ y, y ∈ m ↔ (y ∈ l ∧ ¬ (underV y.1 path = true ∧ y.1 ∈ done)) ∨ ∃ z ∈ l, z.1 ∈ done ∧ underV z.1 path = true ∧ y = (goes path to z.1, z.2)
theorem MvOk.step (h : MvOk l a b x) {done : List Txt} {m : TL} (hm : Rise m) (hM : MvMem l (joinV a) (joinV b) done m) {z : Txt × Th} (hz : z ∈ l) (hd : z.1 ∉ done) : Rise (moveOne (joinV a) (joinV b) m z.1) ∧ MvMem l (joinV a) (joinV b) (done ++ [z.1]) (moveOne (joinV a) (joinV b) m z.1) := by
  unfold moveOne
  by_cases hu : underV z.1 (joinV a) = true
  · rw [if_pos hu]
    refine ⟨(hm.del _).put _ _, fun y => ?_⟩
    have hzm : z ∈ m := (hM z).2 (.inl ⟨hz, fun e => hd e.2⟩)
    have hat : thAt m z.1 = z.2 := by unfold thAt; rw [get_of_mem hm hzm]; rfl
    rw [put_mem, del_mem, hat, hM y]
    show y = (goes (joinV a) (joinV b) z.1, z.2) ∨ _ ↔ _
    have hfree := h.goes_free hz hu
    constructor
    · rintro (rfl | ⟨⟨⟨h1, h2⟩ | ⟨u, hu1, hu2, hu3, rfl⟩, h3⟩, h4⟩)
      · exact .inr ⟨z, hz, by simp, hu, rfl⟩
      · refine .inl ⟨h1, fun e => ?_⟩
        rcases List.mem_append.1 e.2 with e1 | e1
        · exact h2 ⟨e.1, e1⟩
        · exact h3 (List.mem_singleton.1 e1)
      · exact .inr ⟨u, hu1, List.mem_append_left _ hu2, hu3, rfl⟩
    · rintro (⟨h1, h2⟩ | ⟨u, hu1, hu2, hu3, rfl⟩)
      · refine .inr ⟨⟨.inl ⟨h1, fun e => h2 ⟨e.1, List.mem_append_left _ e.2⟩⟩, fun e => ?_⟩, hfree y h1⟩
        exact h2 ⟨by rw [e]; exact hu, by rw [e]; simp⟩
      · by_cases e : u.1 = z.1
        · left
          have := h.inv.rise.inj hu1 hz e
          rw [this]
        · right
          have hud : u.1 ∈ done := by
            rcases List.mem_append.1 hu2 with e1 | e1
            · exact e1
            · exact absurd (List.mem_singleton.1 e1) e
          refine ⟨⟨.inr ⟨u, hu1, hud, hu3, rfl⟩, fun e1 => ?_⟩, fun e1 => ?_⟩
          · exact h.goes_free hu1 hu3 z hz e1.symm
          · exact e (h.goes_inj hu1 hu3 hz hu e1)
  · rw [if_neg hu]
    refine ⟨hm, fun y => (hM y).trans ?_⟩
    constructor
    · rintro (⟨h1, h2⟩ | ⟨u, hu1, hu2, hu3, rfl⟩)
      · refine .inl ⟨h1, fun e => ?_⟩
        rcases List.mem_append.1 e.2 with e1 | e1
        · exact h2 ⟨e.1, e1⟩
        · rw [List.mem_singleton.1 e1] at e; exact hu e.1
      · exact .inr ⟨u, hu1, List.mem_append_left _ hu2, hu3, rfl⟩
    · rintro (⟨h1, h2⟩ | ⟨u, hu1, hu2, hu3, rfl⟩)
      · exact .inl ⟨h1, fun e => h2 ⟨e.1, List.mem_append_left _ e.2⟩⟩
      · rcases List.mem_append.1 hu2 with e1 | e1
        · exact .inr ⟨u, hu1, e1, hu3, rfl⟩
        · rw [List.mem_singleton.1 e1] at hu3; exact absurd hu3 hu
theorem MvMem.start (path to : Txt) : MvMem l path to [] l := fun y => ⟨fun h => .inl ⟨h, fun e => by cases e.2⟩, fun h => by
  rcases h with h | ⟨_, _, h, _⟩
  · exact h.1
  · cases h⟩
theorem MvOk.fold (h : MvOk l a b x) : ∀ (todo : TL) {done m : TL}, (∀ y ∈ todo, y ∈ l) → Rise (done ++ todo) → Rise m → MvMem l (joinV a) (joinV b) (done.map (·.1)) m →
    Rise ((todo.map (·.1)).foldl (moveOne (joinV a) (joinV b)) m) ∧ MvMem l (joinV a) (joinV b) ((done ++ todo).map (·.1)) ((todo.map (·.1)).foldl (moveOne (joinV a) (joinV b)) m)
  | [], done, m, _, _, hm, hM => by rw [List.append_nil]; exact ⟨hm, hM⟩
  | z :: todo, done, m, hs, hr, hm, hM => by
    have hd : z.1 ∉ done.map (·.1) := by
      intro hz
      obtain ⟨y, hy, e⟩ := List.mem_map.1 hz
      have := (List.pairwise_append.1 hr).2.2 y hy z (by simp)
      exact lt_ne this e
    obtain ⟨h1, h2⟩ := h.step hm hM (hs z (by simp)) hd
    have := h.fold todo (done := done ++ [z]) (fun y hy => hs y (List.mem_cons_of_mem _ hy)) (by rw [List.append_assoc]; exact hr) h1 (by rw [List.map_append]; exact h2)
    rw [List.append_assoc] at this
    exact this
theorem MvOk.move (h : MvOk l a b x) : Rise (moveV (joinV a) (joinV b) l) ∧ ∀ y, y ∈ moveV (joinV a) (joinV b) l ↔ (y ∈ l ∧ ¬ underV y.1 (joinV a) = true) ∨ ∃ z ∈ l, underV z.1 (joinV a) = true ∧ y = (goes (joinV a) (joinV b) z.1, z.2) := by
  obtain ⟨h1, h2⟩ := h.fold l (done := []) (m := l) (fun y hy => hy) h.inv.rise h.inv.rise (MvMem.start _ _)
  refine ⟨h1, fun y => (h2 y).trans ?_⟩
  rw [List.nil_append]
  constructor
  · rintro (⟨h3, h4⟩ | ⟨z, hz, _, hu, rfl⟩)
    · exact .inl ⟨h3, fun e => h4 ⟨e, List.mem_map_of_mem h3⟩⟩
    · exact .inr ⟨z, hz, hu, rfl⟩
  · rintro (⟨h3, h4⟩ | ⟨z, hz, hu, rfl⟩)
    · exact .inl ⟨h3, fun e => h4 e.1⟩
    · exact .inr ⟨z, hz, List.mem_map_of_mem hz, hu, rfl⟩
/-- What is at a key behind the move. -/
theorem MvOk.stays (h : MvOk l a b x) {p : Txt} {t : Th} (ht : getT p l = some t) (hu : ¬ underV p (joinV a) = true) : getT p (moveV (joinV a) (joinV b) l) = some t :=
  get_of_mem h.move.1 ((h.move.2 _).2 (.inl ⟨get_mem ht, hu⟩))
theorem MvOk.moved (h : MvOk l a b x) {p : Txt} {t : Th} (ht : getT p l = some t) (hu : underV p (joinV a) = true) : getT (goes (joinV a) (joinV b) p) (moveV (joinV a) (joinV b) l) = some t :=
  get_of_mem h.move.1 ((h.move.2 _).2 (.inr ⟨_, get_mem ht, hu, rfl⟩))
/-- The directory that it goes into is not moved. -/
theorem MvOk.up_stays (h : MvOk l a b x) : ¬ underV (joinV b.dropLast) (joinV a) = true := by
  rw [under_join h.nb.dropLast h.na]
  rintro ⟨r, hr⟩
  obtain ⟨t, ht, hd⟩ := h.up
  have hb := List.dropLast_concat_getLast h.b0
  cases hxd : x.dir with
  | true =>
    refine h.loop hxd ⟨r ++ [b.getLast h.b0], ?_⟩
    rw [← List.append_assoc, hr, hb]
  | false =>
    rw [← hr] at ht
    have hN : Nms (a ++ r) := by rw [hr]; exact h.nb.dropLast
    by_cases h0 : r = []
    · subst h0
      rw [List.append_nil, h.hx] at ht
      injection ht with ht
      subst ht
      rw [hxd] at hd
      cases hd
    · obtain ⟨u, hu, hd'⟩ := h.inv.anc r hN ht h0
      rw [h.hx] at hu
      injection hu with hu
      subst hu
      rw [hxd] at hd'
      cases hd'
theorem MvOk.keeps (h : MvOk l a b x) : Inv (moveV (joinV a) (joinV b) l) := by
  obtain ⟨h1, h2⟩ := h.move
  refine ⟨h1, h.stays h.inv.root ?_, fun y hy => ?_, fun y hy hd => ?_, fun y hy => ?_⟩
  · have := under_join Nms.nil h.na
    rw [show joinV [] = [47] from rfl] at this
    rw [this]
    exact fun e => h.a0 (List.prefix_nil.1 e)
  · rcases (h2 y).1 hy with ⟨h3, h4⟩ | ⟨z, hz, hu, rfl⟩
    · obtain ⟨ls, k1, k2, k3⟩ := h.inv.each y h3
      refine ⟨ls, k1, k2, fun h0 => ?_⟩
      obtain ⟨t, ht, hd⟩ := k3 h0
      refine ⟨t, h.stays ht fun e => h4 ?_, hd⟩
      rw [k2]
      rw [under_join k1.dropLast h.na] at e
      exact (under_join k1 h.na).2 (e.trans (List.dropLast_prefix _))
    · obtain ⟨r, k1, k2, k3, k4, k5⟩ := h.goes_ hz hu
      refine ⟨b ++ r, k4, k2, fun _ => ?_⟩
      by_cases h0 : r = []
      · subst h0
        rw [List.append_nil]
        obtain ⟨t, ht, hd⟩ := h.up
        exact ⟨t, h.stays ht h.up_stays, hd⟩
      · obtain ⟨t, ht, hd⟩ := h.inv.at_ k3 (by rw [← k1]; exact get_of_mem h.inv.rise hz) (by simp [h0])
        rw [List.dropLast_append_of_ne_nil h0] at ht ⊢
        have hN : Nms (a ++ r.dropLast) := by rw [← List.dropLast_append_of_ne_nil h0]; exact k3.dropLast
        have := h.moved ht ((under_join hN h.na).2 ⟨_, rfl⟩)
        rw [goes_join h.a0 h.b0] at this
        exact ⟨t, this, hd⟩
  · rcases (h2 y).1 hy with ⟨h3, _⟩ | ⟨z, hz, _, rfl⟩
    · exact h.inv.dirb y h3 hd
    · exact h.inv.dirb z hz hd
  · rcases (h2 y).1 hy with ⟨h3, _⟩ | ⟨z, hz, _, rfl⟩
    · exact h.inv.fit y h3
    · exact h.inv.fit z hz
/-- What a call to rename finds. -/
theorem rename_ok (h : Inv l) {c : CallV} (h1 : abe c.path = 0) (h2 : abe c.to = 0) (h3 : (findV l c.path).1 = 0) (h4 : ¬ ((findV l c.path).2.dir = true ∧ c.to ≠ c.path ∧ underV c.to c.path = true)) (h5 : ¬ ((findV l c.path).2.dir = true ∧ c.path.count 47 < c.to.count 47)) (h6 : (upV l c.to).1 = 0) (h7 : ¬ (getT c.to l).isSome = true) :
    ∃ a b, c.path = joinV a ∧ c.to = joinV b ∧ MvOk l a b (findV l c.path).2 := by
  obtain ⟨a, ha, a0, hpa⟩ := abe_join h1
  obtain ⟨b, hb, b0, hpb⟩ := abe_join h2
  have hx := h.find_ok h3
  have hnew : getT c.to l = none := by simpa using h7
  refine ⟨a, b, hpa, hpb, h, ha, hb, a0, b0, by rw [← hpa]; exact hx, fun hd hp => ?_, fun hd => ?_, ?_, by rw [← hpb]; exact hnew⟩
  · refine h4 ⟨hd, fun e => ?_, ?_⟩
    · rw [e, hx] at hnew; cases hnew
    · rw [hpa, hpb]; exact (under_join hb ha).2 hp
  · refine Nat.not_lt.1 fun hlt => h5 ⟨hd, ?_⟩
    rw [hpa, hpb, join_count a0 ha.2, join_count b0 hb.2]; exact hlt
  · have := (h.up_ok h6).2.2
    rw [hpb, (above_join hb b0).1] at this
    exact this
end Go.Cat.Tree
end

section
/- What each call keeps, plain; removals and cuts use no more blocks. No condition. -/
namespace Go.Cat.Tree
open Go.RowKit Go.Cat Go.Cat.Dir
variable {l : TL} {I J : Int}
theorem make_inv (h : Inv l) (c : CallV) : Inv (makeV l c).1 := by
  unfold makeV
  split
  · rename_i h1
    split
    · exact h
    · rename_i h2
      split
      · exact h
      · obtain ⟨h3, _, h4⟩ := h.up_ok h1
        obtain ⟨ls, hN, h0, hp⟩ := abe_join h3
        have hn : getT c.path l = none := by simpa using h2
        rw [hp] at hn h4 ⊢
        rw [(above_join hN h0).1] at h4
        exact h.put hN h0 h4 (fun t ht => by rw [hn] at ht; cases ht) (fun _ => rfl) (Nat.zero_le _)
  · exact h
theorem remove_inv (h : Inv l) (c : CallV) : Inv (removeV l c).1 := by
  unfold removeV
  split
  · rename_i h1
    split
    · split
      · exact h
      · split
        · exact h
        · split
          · exact h
          · rename_i h2
            refine h.del (List.eq_nil_of_length_eq_zero (by omega)) fun e => ?_
            rw [e, abe_root] at h1
            cases h1
    · exact h
  · exact h
theorem rename_inv (h : Inv l) (c : CallV) : Inv (renameV l c).1 := by
  unfold renameV
  split
  · rename_i h1
    split
    · rename_i h2
      split
      · exact h
      · rename_i h3
        split
        · exact h
        · rename_i h4
          split
          · rename_i h5
            split
            · exact h
            · rename_i h6
              split
              · exact h
              · obtain ⟨a, b, e1, e2, hM⟩ := rename_ok h h1.1 h1.2 h2 h3 h4 h5 h6
                rw [e1, e2]
                exact hM.keeps
          · exact h
    · exact h
  · exact h
theorem Inv.file_ok (h : Inv l) {p : Txt} (h0 : (fileV l p).1 = 0) : getT p l = some (fileV l p).2 ∧ (fileV l p).2.dir = false ∧ (findV l p).1 = 0 ∧ (findV l p).2 = (fileV l p).2 := by
  unfold fileV at h0 ⊢
  split at h0
  · rename_i h1
    split at h0
    · exact absurd h0 (by simp)
    · rename_i h2
      rw [if_pos h1, if_neg h2]
      exact ⟨h.find_ok h1, by simpa using h2, h1, rfl⟩
  · rename_i h1; exact absurd h0 h1
/-- A file with other bytes. -/
theorem Inv.set (h : Inv l) {p : Txt} (h0 : (fileV l p).1 = 0) {b : List UInt8} (hb : b.length ≤ 512) : Inv (putT p ⟨false, b⟩ l) := by
  obtain ⟨h1, h2, _⟩ := h.file_ok h0
  obtain ⟨ls, k1, k2, k3⟩ := h.each _ (get_mem h1)
  simp only at k2
  have hl : ls ≠ [] := by
    rintro rfl
    have hp : p = [47] := k2
    rw [hp] at h1 h2
    rw [h.root] at h1
    injection h1 with h1
    rw [← h1] at h2
    cases h2
  rw [k2]
  refine h.put k1 hl (k3 hl) (fun t ht hd => ?_) (fun e => by cases e) hb
  rw [← k2, h1] at ht
  injection ht with ht
  rw [← ht, h2] at hd
  cases hd
theorem write_len {b d : List UInt8} {off : Nat} (h1 : off ≤ b.length) : (writeV b off d).length = max (off + d.length) b.length := by
  unfold writeV
  simp only [List.length_append, List.length_take, List.length_drop]
  omega
theorem putc_inv (h : Inv l) (c : CallV) : Inv (putV l c).1 := by
  unfold putV
  split
  · exact h
  · rename_i h1
    split
    · rename_i h2
      split
      · exact h
      · rename_i h3
        split
        · exact h
        · rename_i h4
          refine h.set h2 ?_
          have := h.fit _ (get_mem (h.file_ok h2).1)
          simp only at this
          rw [write_len (by omega)]
          omega
    · exact h
theorem trunc_inv (h : Inv l) (c : CallV) : Inv (truncV l c).1 := by
  unfold truncV
  split
  · exact h
  · split
    · rename_i h2
      split
      · exact h
      · refine h.set h2 ?_
        have := h.fit _ (get_mem (h.file_ok h2).1)
        simp only at this
        rw [List.length_take]
        omega
    · exact h
theorem get_same (l : TL) (c : CallV) : (getV l c).1 = l := by unfold getV; split; rfl; split; split; rfl; rfl; rfl
theorem list_same (l : TL) (c : CallV) : (listV l c).1 = l := by unfold listV; split; split; rfl; rfl; rfl
theorem stat_same (l : TL) (c : CallV) : (statV l c).1 = l := by unfold statV; split; split; rfl; rfl; rfl
theorem act_inv (h : Inv l) (c : CallV) : Inv (actV l c).1 := by
  unfold actV
  split; exact make_inv h c
  split; exact remove_inv h c
  split; exact rename_inv h c
  split; exact putc_inv h c
  split; rw [get_same]; exact h
  split; exact trunc_inv h c
  split; rw [list_same]; exact h
  split; rw [stat_same]; exact h
  exact h
theorem act_noturn {c : CallV} (h : turnsV c.kind = false) : (actV l c).1 = l := by
  unfold turnsV at h
  have h := of_decide_eq_false h
  unfold actV
  rw [if_neg (by omega), if_neg (by omega), if_neg (by omega), if_neg (by omega)]
  split; exact get_same l c
  rw [if_neg (by omega)]
  split; exact list_same l c
  split; exact stat_same l c
  rfl
/-- All that a tree of a shape keeps. -/
structure InvA (I J : Int) (l : TL) : Prop where
  inv : Inv l
  len : (l.length : Int) ≤ I
  blk : blocksV l ≤ J
theorem over_no (h : overV I J l = false) : (l.length : Int) ≤ I ∧ blocksV l ≤ J := by
  unfold overV at h
  simp only [Bool.or_eq_false_iff, decide_eq_false_iff_not] at h
  omega
theorem InvA.over (h : InvA I J l) : overV I J l = false := by
  unfold overV
  have := h.len
  have := h.blk
  simp only [Bool.or_eq_false_iff, decide_eq_false_iff_not]
  omega
theorem do_inv (h : InvA I J l) (c : CallV) : InvA I J (doV I J l c).1 := by
  unfold doV
  split
  · cases ht : turnsV c.kind with
    | false => rw [Bool.false_and, if_neg (by simp), act_noturn ht]; exact h
    | true =>
      rw [Bool.true_and]
      split
      · exact h
      · rename_i ho
        obtain ⟨h1, h2⟩ := over_no (by simpa using ho)
        exact ⟨act_inv h.inv c, h1, h2⟩
  · exact h
/-- A call that fails, and one that does not turn, leaves all. -/
theorem do_stays {c : CallV} (h : (doV I J l c).2.code ≠ 0 ∨ turnsV c.kind = false) : (doV I J l c).1 = l := by
  unfold doV at h ⊢
  split
  · rename_i h1
    rw [if_pos h1] at h
    split
    · rfl
    · rename_i h2
      rw [if_neg h2] at h
      rcases h with h | h
      · exact absurd h1 h
      · exact act_noturn h
  · rfl
theorem need_nonneg (a : Int) : 0 ≤ need a := by unfold need; split <;> omega
theorem need_mono {a b : Int} (h : a ≤ b) : need a ≤ need b := by unfold need; split <;> split <;> omega
theorem sum_sub {α : Type} (f : α → Int) (hf : ∀ y, 0 ≤ f y) {l m : List α} (h : l.Sublist m) : (l.map f).sum ≤ (m.map f).sum := by
  induction h with
  | slnil => exact Int.le_refl _
  | cons y _ ih => rw [List.map_cons, List.sum_cons]; have := hf y; omega
  | cons_cons y _ ih => rw [List.map_cons, List.map_cons, List.sum_cons, List.sum_cons]; omega
theorem sum_le {α : Type} {f g : α → Int} {l : List α} (h : ∀ y ∈ l, f y ≤ g y) : (l.map f).sum ≤ (l.map g).sum := by
  induction l with
  | nil => exact Int.le_refl _
  | cons y l ih =>
    rw [List.map_cons, List.map_cons, List.sum_cons, List.sum_cons]
    have := h y (by simp)
    have := ih fun z hz => h z (List.mem_cons_of_mem _ hz)
    omega
theorem del_sub (p : Txt) (l : TL) : (delT p l).Sublist l := List.filter_sublist
theorem names_sub {l m : TL} (h : l.Sublist m) (path : Txt) : (namesV path l).length ≤ (namesV path m).length := (h.filterMap _).length_le
theorem blocks_del (hr : Rise l) (p : Txt) : blocksV (delT p l) ≤ blocksV l := by
  have h1 : ∀ y ∈ delT p l, need (sizeV (delT p l) y.1) ≤ need (sizeV l y.1) := fun y hy => by
    refine need_mono (Int.ofNat_le.2 ?_)
    have hy' := (del_mem.1 hy).2
    have e1 : thAt (delT p l) y.1 = thAt l y.1 := by unfold thAt; rw [get_del hr, if_neg hy']
    have e2 := names_sub (del_sub p l) y.1
    unfold sizeV
    rw [e1]
    split
    · omega
    · exact Nat.le_refl _
  have h2 := sum_sub (fun y : Txt × Th => need (sizeV l y.1)) (fun y => need_nonneg _) (del_sub p l)
  exact Int.le_trans (sum_le h1) h2
/-- The keys alone say what a directory's names are. -/
theorem names_keys {l m : TL} (h : l.map (·.1) = m.map (·.1)) (path : Txt) : namesV path l = namesV path m := by
  have e : ∀ k : TL, namesV path k = (k.map (·.1)).filterMap (nameOf path) := fun k => by unfold namesV; rw [List.filterMap_map]; rfl
  rw [e, e, h]
theorem put_keys (hr : Rise l) {p : Txt} {t : Th} (h : getT p l = some t) (x : Th) : (putT p x l).map (·.1) = l.map (·.1) := by
  have e : ∀ k : TL, (mapT (fun _ => ()) k).map (·.1) = k.map (·.1) := fun k => by unfold mapT; rw [List.map_map]; rfl
  rw [← e, ← e l, mapT_put, put_same (mapT_rise.2 hr) (by rw [mapT_get, h]; rfl)]
theorem map_keys {f : Txt → Int} (m : TL) : m.map (fun y => f y.1) = (m.map (·.1)).map f := by rw [List.map_map]; rfl
theorem blocks_keys (l : TL) : blocksV l = ((l.map (·.1)).map fun q => need (sizeV l q)).sum := by unfold blocksV; rw [← map_keys]
theorem blocks_cut (hr : Rise l) {p : Txt} {t : Th} (h : getT p l = some t) (hd : t.dir = false) {b : List UInt8} (hb : b.length ≤ t.b.length) : blocksV (putT p ⟨false, b⟩ l) ≤ blocksV l := by
  rw [blocks_keys, blocks_keys l, put_keys hr h]
  refine sum_le fun q _ => need_mono ?_
  unfold sizeV thAt
  rw [get_put hr, names_keys (put_keys hr h _)]
  split
  · rename_i e
    subst e
    rw [h]
    simp only [Option.getD_some, hd]
    simp
    exact hb
  · exact Int.le_refl _
end Go.Cat.Tree
end
