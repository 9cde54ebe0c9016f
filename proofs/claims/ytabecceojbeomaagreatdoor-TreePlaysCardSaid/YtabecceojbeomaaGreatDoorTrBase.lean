/- The contracts of the parts TrPure, TrMem, TrOps, TrRange, TrStep, TrWalk, in one text. Conditions: those told at each part. -/
import Derived.Test.YtabecceojbeomaaGreatDoorDirPure
import Derived.Maps.Range
import Derived.Maps.OwnSet
import Derived.Maps.Keyed
import Derived.Test.YtabecceojbeomaaGreatDoorTch
import Derived.Maps.RangeWalk
section
/- Trees, plain: rising lists of things by their keys; what is put, taken away and looked up. No condition. -/
namespace Go.Cat.Tree
open Go.RowKit Go.Cat Go.Maps Go.WideShapes
section
variable {α β : Type}

/-- The order of keys. -/
abbrev Lt (a b : Dir.Txt) : Prop := bytesBefore a b = true
theorem lt_irrefl (a : Dir.Txt) : ¬ Lt a a := by unfold Lt; rw [WideAt.bytes_irrefl]; simp
theorem lt_trans {a b c : Dir.Txt} (h : Lt a b) (h' : Lt b c) : Lt a c := bytes_trans _ _ _ h h'
theorem lt_ne {a b : Dir.Txt} (h : Lt a b) : a ≠ b := by rintro rfl; exact lt_irrefl _ h
theorem lt_asymm {a b : Dir.Txt} (h : Lt a b) : ¬ Lt b a := fun h' => lt_irrefl _ (lt_trans h h')
theorem lt_total {a b : Dir.Txt} (h : a ≠ b) (h' : ¬ Lt a b) : Lt b a := (WideAt.bytes_total a b h).resolve_left h'

/-- Keys rise. -/
def Rise (l : List (Dir.Txt × α)) : Prop := l.Pairwise fun x y => Lt x.1 y.1
theorem rise_cons {x : Dir.Txt × α} {l : List (Dir.Txt × α)} : Rise (x :: l) ↔ (∀ y ∈ l, Lt x.1 y.1) ∧ Rise l := List.pairwise_cons
theorem Rise.filter {l : List (Dir.Txt × α)} (h : Rise l) (p : Dir.Txt × α → Bool) : Rise (l.filter p) := List.Pairwise.filter p h
theorem Rise.inj {l : List (Dir.Txt × α)} (h : Rise l) {x y : Dir.Txt × α} (hx : x ∈ l) (hy : y ∈ l) (he : x.1 = y.1) : x = y := by
  induction l with
  | nil => cases hx
  | cons z l ih =>
    obtain ⟨h1, h2⟩ := rise_cons.1 h
    rcases List.mem_cons.1 hx with e | hx' <;> rcases List.mem_cons.1 hy with e' | hy'
    · rw [e, e']
    · rw [e] at he; exact absurd he (lt_ne (h1 y hy'))
    · rw [e'] at he; exact absurd he.symm (lt_ne (h1 x hx'))
    · exact ih h2 hx' hy'

/-- With one more. -/
def insT (x : Dir.Txt × α) : List (Dir.Txt × α) → List (Dir.Txt × α)
  | [] => [x]
  | y :: r => if bytesBefore x.1 y.1 then x :: y :: r else y :: insT x r
/-- Without a key. -/
def delT (p : Dir.Txt) (l : List (Dir.Txt × α)) : List (Dir.Txt × α) := l.filter fun y => !(y.1 == p)
/-- With something at a key. -/
def putT (p : Dir.Txt) (a : α) (l : List (Dir.Txt × α)) : List (Dir.Txt × α) := insT (p, a) (delT p l)
/-- What is at a key. -/
def getT (p : Dir.Txt) (l : List (Dir.Txt × α)) : Option α := (l.find? fun y => y.1 == p).map (·.2)

theorem ins_mem {x y : Dir.Txt × α} : ∀ {l : List (Dir.Txt × α)}, y ∈ insT x l ↔ y = x ∨ y ∈ l
  | [] => by simp [insT]
  | z :: l => by
    unfold insT
    split
    · simp
    · simp only [List.mem_cons, ins_mem (l := l)]
      constructor
      · rintro (h | h | h) <;> simp [h]
      · rintro (h | h | h) <;> simp [h]
theorem del_mem {p : Dir.Txt} {y : Dir.Txt × α} {l : List (Dir.Txt × α)} : y ∈ delT p l ↔ y ∈ l ∧ y.1 ≠ p := by simp [delT]
theorem put_mem {p : Dir.Txt} {a : α} {y : Dir.Txt × α} {l : List (Dir.Txt × α)} : y ∈ putT p a l ↔ y = (p, a) ∨ (y ∈ l ∧ y.1 ≠ p) := by rw [putT, ins_mem, del_mem]
theorem ins_rise {x : Dir.Txt × α} : ∀ {l : List (Dir.Txt × α)}, Rise l → (∀ y ∈ l, y.1 ≠ x.1) → Rise (insT x l)
  | [], _, _ => by simp [insT, Rise]
  | z :: l, h, hn => by
    obtain ⟨h1, h2⟩ := rise_cons.1 h
    unfold insT
    split
    · rename_i hlt
      exact rise_cons.2 ⟨fun y hy => (List.mem_cons.1 hy).elim (fun e => e ▸ hlt) (fun hy => lt_trans hlt (h1 y hy)), h⟩
    · rename_i hlt
      refine rise_cons.2 ⟨fun y hy => ?_, ins_rise h2 fun y hy => hn y (List.mem_cons_of_mem _ hy)⟩
      rcases ins_mem.1 hy with rfl | hy
      · exact lt_total (fun e => hn z (by simp) e.symm) hlt
      · exact h1 y hy
theorem Rise.del {l : List (Dir.Txt × α)} (h : Rise l) (p : Dir.Txt) : Rise (delT p l) := h.filter _
theorem Rise.put {l : List (Dir.Txt × α)} (h : Rise l) (p : Dir.Txt) (a : α) : Rise (putT p a l) := ins_rise (h.del p) fun _ hy => (del_mem.1 hy).2
theorem ins_length (x : Dir.Txt × α) : ∀ l : List (Dir.Txt × α), (insT x l).length = l.length + 1
  | [] => rfl
  | z :: l => by
    unfold insT
    split
    · simp
    · simp [ins_length x l]
theorem del_none {p : Dir.Txt} {l : List (Dir.Txt × α)} (h : ∀ y ∈ l, y.1 ≠ p) : delT p l = l := List.filter_eq_self.2 fun y hy => by simpa using h y hy

theorem get_mem {p : Dir.Txt} {a : α} {l : List (Dir.Txt × α)} (h : getT p l = some a) : (p, a) ∈ l := by
  obtain ⟨y, hy, rfl⟩ := Option.map_eq_some_iff.1 h
  have h1 := List.find?_some hy
  have h2 := List.mem_of_find?_eq_some hy
  obtain ⟨q, b⟩ := y
  simp at h1
  subst h1
  exact h2
theorem get_of_mem {p : Dir.Txt} {a : α} {l : List (Dir.Txt × α)} (hr : Rise l) (h : (p, a) ∈ l) : getT p l = some a := by
  cases hf : l.find? fun y => y.1 == p with
  | none => exact absurd (List.find?_eq_none.1 hf _ h) (by simp)
  | some y =>
    have h1 := List.find?_some hf
    have h2 := List.mem_of_find?_eq_some hf
    simp at h1
    have := hr.inj h2 h (by simpa using h1)
    subst this
    simp [getT, hf]
theorem get_none {p : Dir.Txt} {l : List (Dir.Txt × α)} : getT p l = none ↔ ∀ y ∈ l, y.1 ≠ p := by
  unfold getT
  rw [Option.map_eq_none_iff, List.find?_eq_none]
  simp
theorem get_iff {p : Dir.Txt} {a : α} {l : List (Dir.Txt × α)} (hr : Rise l) : getT p l = some a ↔ (p, a) ∈ l := ⟨get_mem, get_of_mem hr⟩
theorem get_put {l : List (Dir.Txt × α)} (hr : Rise l) (p q : Dir.Txt) (a : α) : getT q (putT p a l) = if q = p then some a else getT q l := by
  split
  · rename_i h
    subst h
    exact get_of_mem (hr.put _ _) (put_mem.2 (.inl rfl))
  · rename_i h
    cases hg : getT q l with
    | none =>
      refine get_none.2 fun y hy => ?_
      rcases put_mem.1 hy with rfl | ⟨h1, _⟩
      · exact fun e => h e.symm
      · exact get_none.1 hg y h1
    | some b => exact get_of_mem (hr.put _ _) (put_mem.2 (.inr ⟨get_mem hg, h⟩))
theorem get_del {l : List (Dir.Txt × α)} (hr : Rise l) (p q : Dir.Txt) : getT q (delT p l) = if q = p then none else getT q l := by
  split
  · rename_i h
    subst h
    exact get_none.2 fun y hy => (del_mem.1 hy).2
  · rename_i h
    cases hg : getT q l with
    | none => exact get_none.2 fun y hy => get_none.1 hg y (del_mem.1 hy).1
    | some b => exact get_of_mem (hr.del _) (del_mem.2 ⟨get_mem hg, h⟩)
/-- Rising lists are alike if they have the same. -/
theorem rise_ext : ∀ {l m : List (Dir.Txt × α)}, Rise l → Rise m → (∀ y, y ∈ l ↔ y ∈ m) → l = m
  | [], [], _, _, _ => rfl
  | [], y :: m, _, _, h => absurd ((h y).2 (by simp)) (by simp)
  | x :: l, [], _, _, h => absurd ((h x).1 (by simp)) (by simp)
  | x :: l, y :: m, hl, hm, h => by
    obtain ⟨l1, l2⟩ := rise_cons.1 hl
    obtain ⟨m1, m2⟩ := rise_cons.1 hm
    have e : x = y := by
      rcases List.mem_cons.1 ((h x).1 (by simp)) with e | hx
      · exact e
      · rcases List.mem_cons.1 ((h y).2 (by simp)) with e | hy
        · exact e.symm
        · exact absurd (l1 _ hy) (lt_asymm (m1 _ hx))
    subst e
    refine congrArg _ (rise_ext l2 m2 fun y => ⟨fun hy => ?_, fun hy => ?_⟩)
    · rcases List.mem_cons.1 ((h y).1 (List.mem_cons_of_mem _ hy)) with rfl | h1
      · exact absurd (l1 _ hy) (lt_irrefl _)
      · exact h1
    · rcases List.mem_cons.1 ((h y).2 (List.mem_cons_of_mem _ hy)) with rfl | h1
      · exact absurd (m1 _ hy) (lt_irrefl _)
      · exact h1

/-- The same things, otherwise told. -/
def mapT (f : α → β) (l : List (Dir.Txt × α)) : List (Dir.Txt × β) := l.map fun x => (x.1, f x.2)
theorem mapT_rise {f : α → β} {l : List (Dir.Txt × α)} : Rise (mapT f l) ↔ Rise l := by unfold Rise mapT; rw [List.pairwise_map]
theorem mapT_ins (f : α → β) (x : Dir.Txt × α) : ∀ l : List (Dir.Txt × α), mapT f (insT x l) = insT (x.1, f x.2) (mapT f l)
  | [] => rfl
  | z :: l => by
    have ih := mapT_ins f x l
    unfold mapT at ih ⊢
    rw [List.map_cons, insT, insT]
    split
    · rfl
    · rw [List.map_cons, ih]
theorem mapT_del (f : α → β) (p : Dir.Txt) (l : List (Dir.Txt × α)) : mapT f (delT p l) = delT p (mapT f l) := by
  unfold mapT delT
  rw [List.filter_map]
  rfl
theorem mapT_put (f : α → β) (p : Dir.Txt) (a : α) (l : List (Dir.Txt × α)) : mapT f (putT p a l) = putT p (f a) (mapT f l) := by rw [putT, mapT_ins, mapT_del]; rfl
theorem mapT_get (f : α → β) (p : Dir.Txt) (l : List (Dir.Txt × α)) : getT p (mapT f l) = (getT p l).map f := by
  unfold getT mapT
  rw [List.find?_map, Option.map_map, Option.map_map]
  rfl
theorem mapT_length (f : α → β) (l : List (Dir.Txt × α)) : (mapT f l).length = l.length := by simp [mapT]
end

/-! ### as a map's datum -/
section
variable {H : Type}
/-- The datum of a rising list. -/
def datT (l : List (Dir.Txt × H)) : DataW H := .map (l.map fun x => (.string x.1, .held x.2))
theorem dat_ins (x : Dir.Txt × H) : ∀ l : List (Dir.Txt × H), DataW.insert (.string x.1, .held x.2) (l.map fun y => ((.string y.1 : Lit), (.held y.2 : DataW H))) = (insT x l).map fun y => (.string y.1, .held y.2)
  | [] => rfl
  | z :: l => by
    rw [List.map_cons, DataW.insert, insT]
    show (if bytesBefore x.1 z.1 = true then _ else _) = _
    split
    · rfl
    · rw [dat_ins x l]; rfl
theorem same_str (a b : Dir.Txt) : (Lit.string a).sameKey (.string b) = (a == b) := rfl
theorem dat_del (p : Dir.Txt) (l : List (Dir.Txt × H)) : (datT l).del (.string p) = datT (delT p l) := by
  show DataW.map (List.filter _ (List.map _ l)) = DataW.map _
  rw [List.filter_map]
  rfl
theorem dat_put (p : Dir.Txt) (h : H) (l : List (Dir.Txt × H)) : (datT l).put (.string p) (.held h) = datT (putT p h l) := by
  unfold datT putT
  show DataW.map _ = _
  rw [← dat_ins (p, h)]
  unfold delT
  congr 2
  rw [List.filter_map]
  rfl
theorem dat_has (p : Dir.Txt) (l : List (Dir.Txt × H)) : Maps.has (datT l) (.string p) = (getT p l).isSome := by
  show List.any (List.map _ l) _ = _
  unfold getT
  rw [Option.isSome_map, List.any_map, List.isSome_find?]
  rfl
theorem dat_at (p : Dir.Txt) (l : List (Dir.Txt × H)) (z : DataW H) : (datT l).atKey (.string p) z = (getT p l).elim z .held := by
  show (match List.find? (fun q : Lit × DataW H => q.1.sameKey (.string p)) (l.map fun x => ((.string x.1 : Lit), (.held x.2 : DataW H))) with | some p => p.2 | none => z) = _
  unfold getT
  rw [List.find?_map]
  have : ((fun q : Lit × DataW H => q.1.sameKey (.string p)) ∘ fun x : Dir.Txt × H => ((.string x.1 : Lit), (.held x.2 : DataW H))) = fun y => y.1 == p := rfl
  rw [this]
  cases l.find? fun y => y.1 == p <;> rfl
theorem dat_size (l : List (Dir.Txt × H)) : Maps.size (datT l) = l.length := by simp [datT, Maps.size]
end
end Go.Cat.Tree
end

section
/- Maps of things in memory: what lies at a key, with where its bytes lie. No condition. -/
namespace Go.Cat.Tree
open Go.RowKit Go.Cat Go.Maps
/-- A file with its bytes, or a directory. -/
structure Th where
  dir : Bool
  b : List UInt8
deriving DecidableEq
/-- A thing, with where its bytes lie. -/
abbrev El := Th × Option Addr × Nat
def elV (x : El) : Value := .agg #[.bool x.1.dir, .slice x.2.1 x.1.b.length x.2.2]
abbrev Hk := Bool × Option Addr × Nat × Nat
def hk (x : El) : Hk := (x.1.dir, x.2.1, x.1.b.length, x.2.2)
def hv (h : Hk) : Value := .agg #[.bool h.1, .slice h.2.1 h.2.2.1 h.2.2.2]
theorem hv_hk (x : El) : hv (hk x) = elV x := rfl
def thR : Value → Option (DataW Hk × List MemPlace)
  | .agg ⟨[.bool d, .slice A n c]⟩ => some (.held (d, A, n, c), [])
  | _ => none
theorem thR_mk (h : Hk) : thR (hv h) = some (.held h, []) := rfl
theorem thR_inv {v : Value} {z : DataW Hk × List MemPlace} (h : thR v = some z) : ∃ q, v = hv q ∧ z = (.held q, []) := by
  unfold thR at h
  split at h
  · cases h; exact ⟨_, rfl, rfl⟩
  · cases h
theorem thR_held {v : Value} {q : Hk} {ps : List MemPlace} (h : thR v = some (.held q, ps)) : v = hv q ∧ ps = [] := by
  obtain ⟨q', rfl, e⟩ := thR_inv h
  cases e
  exact ⟨rfl, rfl⟩

/-- The bytes of an element are there. -/
def ElAt (w : World) (x : El) : Prop := Bytes w x.2.1 x.1.b ∧ x.1.b.length ≤ x.2.2 ∧ x.2.2 ≤ maxLen
/-- Block M is a map of these things. -/
structure TM (w : World) (P : Program) (k : TypeId) (M : Nat) (es : List (Dir.Txt × El)) : Prop where
  own : w.ownsMap P k thR M es.length (datT (mapT hk es))
  rise : Rise es
  each : ∀ x ∈ es, ElAt w x.2

variable {w w' : World} {P : Program} {k : TypeId} {M n : Nat} {es : List (Dir.Txt × El)}
/-- How many there are is a bound that is at hand. -/
theorem own_exact {l : List (Dir.Txt × Hk)} (h : w.ownsMap P k thR M n (datT l)) : w.ownsMap P k thR M l.length (datT l) := by
  obtain ⟨es, clock, h1, h2, h3, h4⟩ := h
  refine ⟨es, clock, h1, h2, ?_, h4⟩
  have := congrArg Maps.size h4
  rw [dat_size] at this
  simp only [Maps.size, length_sorted, List.length_map, Array.length_toList] at this
  omega
theorem TM.lt (h : TM w P k M es) : M < w.heap.size := h.own.lt
theorem ElAt.below {x : El} (h : ElAt w x) (hb : Below w.heap.size w w') : ElAt w' x := ⟨Sees.below h.1 hb, h.2⟩
theorem TM.below (h : TM w P k M es) (hb : Below w.heap.size w w') : TM w' P k M es :=
  ⟨h.own.kept (row := none) ⟨hb.os, hb.tape, hb.output, hb.size, fun k hk _ => hb.block k hk⟩ (by simp), h.rise, fun x hx => (h.each x hx).below hb⟩
/-- Bytes lie in no block that holds no byte. -/
theorem bytes_skip {A : Option Addr} {b : List UInt8} {K : Nat → Prop} (h : Bytes w A b) (ht : Tch K w w') (hK : ∀ k, K k → ∀ o (u : UInt8), w.cell? ⟨k, o, none⟩ ≠ some (by8 u)) : Bytes w' A b := by
  rcases h with h | ⟨g, off, hA, hc⟩
  · exact .inl h
  · refine .inr ⟨g, off, hA, fun j u hu => ?_⟩
    have h1 := hc j u hu
    obtain ⟨x, hx, rfl⟩ : ∃ x, b[j]? = some x ∧ by8 x = u := by simpa using hu
    have hg : ¬ K g := fun hg => hK g hg _ _ h1
    have hlt := World.block_lt_of_cell? w _ h1
    exact (World.cell?_of_block (ht.block g hlt hg)).trans h1
theorem no_byte_map {es : Array MapEntry} {clock : Nat} (h : w.heap[M]? = some (.map es clock)) (o : Nat) (u : Value) : w.cell? ⟨M, o, none⟩ ≠ some u := by
  simp [World.cell?, h]
theorem TM.skip {K : Nat → Prop} (h : TM w P k M es) (ht : Tch K w w') (hM : ¬ K M) (hK : ∀ k, K k → ∀ o (u : UInt8), w.cell? ⟨k, o, none⟩ ≠ some (by8 u)) : TM w' P k M es := by
  refine ⟨?_, h.rise, fun x hx => ⟨bytes_skip (h.each x hx).1 ht hK, (h.each x hx).2⟩⟩
  have hlt := h.lt
  obtain ⟨es, clock, h1, h2⟩ := h.own
  exact ⟨es, clock, (ht.block M hlt hM).trans h1, h2⟩
/-- What a store leaves. -/
theorem TM.put (h : TM w P k M es) (p : Dir.Txt) (x : El) (hx : ElAt w x) (ho : w'.ownsMap P k thR M n ((datT (mapT hk es)).put (.string p) (.held (hk x)))) (ht : w.mapTurned w' M) : TM w' P k M (putT p x es) := by
  rw [dat_put, ← mapT_put hk p x] at ho
  have hg := Tch.grown ht.grown
  obtain ⟨es0, clock, _, _, h1, _⟩ := ht
  have hb : ∀ y : El, ElAt w y → ElAt w' y := fun y hy => ⟨bytes_skip hy.1 hg (fun k hk o u => by cases hk; exact no_byte_map h1 o _), hy.2⟩
  refine ⟨by have := own_exact ho; rwa [mapT_length] at this, h.rise.put _ _, fun y hy => ?_⟩
  rcases put_mem.1 hy with rfl | ⟨hy, _⟩
  · exact hb _ hx
  · exact hb _ (h.each y hy)
/-- What a delete leaves. -/
theorem TM.del (h : TM w P k M es) (p : Dir.Txt) (ho : w'.ownsMap P k thR M n ((datT (mapT hk es)).del (.string p))) (ht : w.mapTurned w' M) : TM w' P k M (delT p es) := by
  rw [dat_del, ← mapT_del hk p] at ho
  have hg := Tch.grown ht.grown
  obtain ⟨es0, clock, _, _, h1, _⟩ := ht
  have hb : ∀ y : El, ElAt w y → ElAt w' y := fun y hy => ⟨bytes_skip hy.1 hg (fun k hk o u => by cases hk; exact no_byte_map h1 o _), hy.2⟩
  exact ⟨by have := own_exact ho; rwa [mapT_length] at this, h.rise.del _, fun y hy => hb _ (h.each y (del_mem.1 hy).1)⟩
end Go.Cat.Tree
end

section
/- What a map's operations do at a map of things. Condition: a key's length within a string's. -/
namespace Go.Cat.Tree
open Go.RowKit Go.Cat Go.Maps Go.WideMaps Go.ChangeMaps
def zeroE : El := (⟨false, []⟩, none, 0)
/-- What a look-up gives. -/
def lookE (p : Dir.Txt) (es : List (Dir.Txt × El)) : El := (getT p es).getD zeroE
theorem look_some {p : Dir.Txt} {es : List (Dir.Txt × El)} {x : El} (h : getT p es = some x) : lookE p es = x := by simp [lookE, h]
theorem look_none {p : Dir.Txt} {es : List (Dir.Txt × El)} (h : getT p es = none) : lookE p es = zeroE := by simp [lookE, h]
theorem ElAt.zero (w : World) : ElAt w zeroE := ⟨.inl rfl, Nat.le_refl _, Nat.zero_le _⟩

section
variable {w : World} {P : Program} {k t e : TypeId} {M : Nat} {es : List (Dir.Txt × El)}
theorem key_txt (hk : P.underlying k = some .string) {p : Dir.Txt} (hp : p.length ≤ maxLen) : keyOf P k (Dir.sv p) = some (.string p) := keyOf_string_mk hk (by rw [Dir.bs_size]; exact hp)
theorem at_look (es : List (Dir.Txt × El)) (p : Dir.Txt) : (datT (mapT hk es)).atKey (.string p) (.held (Tree.hk zeroE)) = .held (hk (lookE p es)) := by
  rw [dat_at, mapT_get]
  unfold lookE
  cases getT p es <;> rfl
theorem TM.looked (h : TM w P k M es) (p : Dir.Txt) : ElAt w (lookE p es) := by
  cases hg : getT p es with
  | none => rw [look_none hg]; exact .zero w
  | some x => rw [look_some hg]; exact h.each _ (get_mem hg)
theorem TM.look (h : TM w P k M es) (hk : P.underlying k = some .string) (ht : P.underlying t = some (.map k e)) (hz : (zeroValue e).run P w = .ok (elV zeroE) w) {p : Dir.Txt} (hp : p.length ≤ maxLen) :
    (Instr.lookup t (.map (some M)) (Dir.sv p) false).run P w = .ok (elV (lookE p es)) w := by
  obtain ⟨v, ps, hrun, hv⟩ := h.own.lookup (string_keyed hk) ht hz (zd := .held (Tree.hk zeroE)) (zp := []) rfl (key_txt hk hp)
  rw [at_look] at hv
  rw [hrun, (thR_held hv).1]
  rfl
theorem TM.look_ok (h : TM w P k M es) (hk : P.underlying k = some .string) (ht : P.underlying t = some (.map k e)) (hz : (zeroValue e).run P w = .ok (elV zeroE) w) {p : Dir.Txt} (hp : p.length ≤ maxLen) :
    (Instr.lookup t (.map (some M)) (Dir.sv p) true).run P w = .ok (.tuple #[elV (lookE p es), .bool (getT p es).isSome]) w := by
  obtain ⟨v, ps, hrun, hv⟩ := h.own.look_ok (string_keyed hk) ht hz (zd := .held (Tree.hk zeroE)) (zp := []) rfl (key_txt hk hp)
  rw [at_look] at hv
  rw [hrun, (thR_held hv).1, dat_has, mapT_get, Option.isSome_map]
  rfl
theorem TM.len (h : TM w P k M es) (ht : P.underlying t = some (.map k e)) (ty : TypeId) : (Builtin.len_ #[t] ty #[.map (some M)]).run P w = .ok (.int .i64 (es.length : Int)) w := by
  rw [h.own.len ht ty, dat_size, mapT_length]
theorem TM.store (h : TM w P k M es) (hk : P.underlying k = some .string) (ht : P.underlying t = some (.map k e)) (hn : es.length < maxLen) {p : Dir.Txt} (hp : p.length ≤ maxLen) {x : El} (hx : ElAt w x) :
    ∃ w', (Instr.mapUpdate t (.map (some M)) (Dir.sv p) (elV x)).run P w = .ok () w' ∧ TM w' P k M (putT p x es) ∧ w.mapTurned w' M := by
  obtain ⟨w', hrun, h1, h2⟩ := h.own.store (string_keyed hk) ht hn (key_txt hk hp) (d := .held (Tree.hk x)) (ps := []) (thR_mk (Tree.hk x))
  exact ⟨w', hrun, h.put p x hx h1 h2, h2⟩
theorem TM.drop (h : TM w P k M es) (hk : P.underlying k = some .string) (ht : P.underlying t = some (.map k e)) {p : Dir.Txt} (hp : p.length ≤ maxLen) (ty : TypeId) :
    ∃ w', (Builtin.delete_ #[t, k] ty #[.map (some M), Dir.sv p]).run P w = .ok (.tuple #[]) w' ∧ TM w' P k M (delT p es) ∧ w.mapTurned w' M := by
  obtain ⟨w', hrun, h1, h2⟩ := h.own.drop (string_keyed hk) ht (key_txt hk hp) ty
  exact ⟨w', hrun, h.del p h1 h2, h2⟩
end
end Go.Cat.Tree
end

section
/- A range over a map that stores, at keys that are there, into the map itself. Condition: less than the most entries. -/
namespace Go.Cat.Tree
open Go.RowKit Go.Cat Go.Maps Go.WideElems Go.ChangeMaps Go.WideMaps
section
variable {H : Type} {P : Program} {k : TypeId} {R : Value → Option (DataW H × List MemPlace)} {w : World} {b r n : Nat} {D : DataW H} {left : Lit → Bool} {cnt : Nat}
/-- An entry's key and its stamp. -/
def kb (x : MapEntry) : Value × Nat := (x.key, x.born)
theorem kb_left {l l' : List MapEntry} (h : l'.map kb = l.map kb) (seen : Array Nat) : (l'.filter fun e => !seen.contains e.born).length = (l.filter fun e => !seen.contains e.born).length := by
  have h1 : ∀ m : List MapEntry, (m.filter fun e => !seen.contains e.born).length = ((m.map kb).filter fun e => !seen.contains e.2).length := fun m => by
    rw [List.filter_map, List.length_map]; rfl
  rw [h1, h1, h]
theorem kb_mem {l l' : List MapEntry} (h : l'.map kb = l.map kb) {x : MapEntry} (hx : x ∈ l') : ∃ y ∈ l, y.key = x.key ∧ y.born = x.born := by
  have := List.mem_map_of_mem (f := kb) hx
  rw [h] at this
  obtain ⟨y, hy, e⟩ := List.mem_map.1 this
  exact ⟨y, hy, congrArg Prod.fst e, congrArg Prod.snd e⟩
theorem rg_key {es : Array MapEntry} {clock : Nat} (F : Fit P k R es clock) {x : MapEntry} (hx : x ∈ es.toList) : keyOf P k x.key = some (rg P k R x).1 := by
  obtain ⟨y, hy⟩ := F.reads x hx
  rw [rg_of hy]
  exact rd_key hy
theorem ranges_restore {t e : TypeId} (h : w.ranges P k R b r n D left cnt) (K : Keyed P k) (ht : P.underlying t = some (.map k e)) (hn : n < maxLen) {key val : Value} {kl : Lit} (hkey : keyOf P k key = some kl) (hin : Maps.has D kl = true)
    {d : DataW H} {ps : List MemPlace} (hv : R val = some (d, ps)) : ∃ w', (Instr.mapUpdate t (.map (some b)) key val).run P w = .ok () w' ∧ w'.ranges P k R b r n (D.put kl d) left cnt ∧ w.mapTurned w' b := by
  have hne := h.ne
  obtain ⟨es, clock, since, seen, c0, hb, F, hs, rfl, hr, hold, hc, hl1, hl2, hsc, hsk⟩ := h
  obtain ⟨es', clock', hrun, F', hput, _⟩ := Maps.fit_store (R' := R) K ht hb F (Nat.lt_of_le_of_lt hs hn) (fun _ _ _ _ hz => hz) hkey hv
  rcases K.find w hkey es.toList F.keys with ⟨_, h2⟩ | ⟨j, e0, h1, h2, h3⟩
  · exfalso
    obtain ⟨p, hp, hpk⟩ := List.any_eq_true.1 hin
    obtain ⟨x, hx, rfl⟩ := List.mem_map.1 (mem_sorted.1 hp)
    have h4 := rg_key F hx
    rw [WideAt.sameKey_eq hpk] at h4
    exact h2 x hx (K.inj h4 hkey)
  · have hj : es[j]? = some e0 := by simpa using h2
    have hrun2 : (Instr.mapUpdate t (.map (some b)) key val).run P w = .ok () (setBlock w b (.map (es.modify j (fun e' => { e' with key := key, val := val })) clock)) := by
      simp [Instr.mapUpdate, run_underlying ht, MapKept.run_getObj_map hb, K.check w false hkey, h1, hj, h3, K.stays w hkey, MapKept.run_setObj_map _ hb, Result.andThen, setBlock]
    have hw : setBlock w b (.map es' clock') = setBlock w b (.map (es.modify j (fun e' => { e' with key := key, val := val })) clock) := by
      have := hrun.symm.trans hrun2
      injection this
    have hq : (setBlock w b (.map es' clock')).heap[b]? = (setBlock w b (.map (es.modify j (fun e' => { e' with key := key, val := val })) clock)).heap[b]? := by rw [hw]
    rw [heap_setBlock_same hb, heap_setBlock_same hb] at hq
    injection hq with hq
    injection hq with hq1 hq2
    have hlist : es'.toList = es.toList.set j { e0 with key := key, val := val } := by rw [hq1, Array.toList_modify, modify_eq_set _ _ _ _ h2]
    have hkb : es'.toList.map kb = es.toList.map kb := by
      rw [hlist, List.map_set]
      show (es.toList.map kb).set j (key, e0.born) = _
      have : (es.toList.map kb)[j]? = some (key, e0.born) := by rw [List.getElem?_map, h2]; simp [kb, h3]
      obtain ⟨hl, he⟩ := List.getElem?_eq_some_iff.1 this
      rw [← he, List.set_getElem_self]
    subst hq2
    refine ⟨_, hrun, ⟨es', clock', since, seen, c0, heap_setBlock_same hb _, F', ?_, by rw [DataW.put_eq, hput], (heap_setBlock_other hb _ hne).trans hr, ?_, ?_, ?_, ?_, hsc, hsk⟩, ⟨es, clock', es', clock', hb, rfl⟩⟩
    · have := congrArg List.length hkb
      simp at this
      omega
    · intro x hx
      obtain ⟨y, hy, _, e2⟩ := kb_mem hkb hx
      rw [← e2]
      exact hold y hy
    · rw [← hc]
      have := kb_left hkb seen
      have q : ∀ m : Array MapEntry, (leftOf m seen).size = (m.toList.filter fun e => !seen.contains e.born).length := fun m => by
        unfold leftOf
        rw [← Array.toList_filter, Array.length_toList]
      rw [q, q]
      exact this
    · intro x hx
      obtain ⟨y, hy, e1, e2⟩ := kb_mem hkb hx
      have q1 := rg_key F' hx
      have q2 := rg_key F hy
      rw [e1, q1] at q2
      injection q2 with q2
      rw [q2, hl1 y hy, e2]
    · intro z hz
      obtain ⟨y, hy, e0⟩ := hl2 z hz
      obtain ⟨x, hx, e1, _⟩ := kb_mem hkb.symm hy
      refine ⟨x, hx, ?_⟩
      have q1 := rg_key F' hx
      have q2 := rg_key F hy
      rw [← e1, q1] at q2
      injection q2 with q2
      rw [q2, e0]
end
end Go.Cat.Tree
end

section
/- A range over a map of things, under way: what is done, what is left; its start, its step, a store into the map. Condition: less than the most entries. -/
namespace Go.Cat.Tree
open Go.RowKit Go.Cat Go.Maps Go.WideMaps Go.ChangeMaps Go.WideShapes Go.ChangeShapes
/-- The things alone. -/
def ths (es : List (Dir.Txt × El)) : List (Dir.Txt × Th) := mapT Prod.fst es
structure TR (w : World) (P : Program) (k : TypeId) (M r : Nat) (es : List (Dir.Txt × El)) (done : List (Dir.Txt × Th)) (rest : List (Dir.Txt × El)) : Prop where
  rng : ∃ left, w.ranges P k thR M r es.length (datT (mapT hk es)) left rest.length ∧ ∀ q, left (.string q) = rest.any fun y => y.1 == q
  tm : TM w P k M es
  sub : ∀ y ∈ rest, y ∈ es
  rise : Rise rest
  perm : (done ++ ths rest).Perm (ths es)
variable {w w' : World} {P : Program} {k t e : TypeId} {M r : Nat} {es : List (Dir.Txt × El)} {done : List (Dir.Txt × Th)} {rest : List (Dir.Txt × El)}
theorem TR.left_eq (h : TR w P k M r es done rest) : w.rangeLeft M r = rest.length := by
  obtain ⟨left, h1, _⟩ := h.rng
  exact h1.left_eq
theorem TR.lt (h : TR w P k M r es done rest) : r < w.heap.size := by
  obtain ⟨left, h1, _⟩ := h.rng
  exact h1.lt
theorem TM.range (h : TM w P k M es) (hk : P.underlying k = some .string) (ht : P.underlying t = some (.map k e)) :
    ∃ w', (Instr.range t (.map (some M))).run P w = .ok (.pointer (some ⟨w.heap.size, 0, none⟩)) w' ∧ TR w' P k M w.heap.size es [] es ∧ Below w.heap.size w w' ∧ w'.heap.size = w.heap.size + 1 := by
  obtain ⟨w', h1, h2, h3, h4⟩ := h.own.range (string_keyed hk) ht
  have hB : Below w.heap.size w w' := ⟨h3.os, h3.tape, h3.output, h3.size, fun k hk => h3.block k hk (by simp)⟩
  rw [dat_size, mapT_length] at h2
  refine ⟨w', h1, ⟨⟨_, h2, fun q => ?_⟩, h.below hB, fun _ h => h, h.rise, .refl _⟩, hB, h4⟩
  rw [dat_has, mapT_get, Option.isSome_map]
  cases hg : getT q es with
  | none => exact (List.any_eq_false.2 fun y hy => by simpa using get_none.1 hg y hy).symm
  | some x => exact (List.any_eq_true.2 ⟨(q, x), get_mem hg, by simp⟩).symm
theorem str_of {k : TypeId} (hk : P.underlying k = some .string) {v : Value} {l : Lit} (h : keyOf P k v = some l) : ∃ p, v = Dir.sv p ∧ l = .string p := by
  rw [keyOf_string hk] at h
  unfold mapKey at h
  rw [hk] at h
  cases v <;> simp at h
  obtain ⟨_, rfl⟩ := h
  exact ⟨_, rfl, rfl⟩
theorem perm_step {y : Dir.Txt × El} {rest : List (Dir.Txt × El)} (hr : Rise rest) (hy : y ∈ rest) : (y :: delT y.1 rest).Perm rest := by
  induction rest with
  | nil => cases hy
  | cons z l ih =>
    obtain ⟨h1, h2⟩ := rise_cons.1 hr
    rcases List.mem_cons.1 hy with e | hy'
    · subst e
      have : delT y.1 (y :: l) = l := by
        unfold delT
        rw [List.filter_cons_of_neg (by simp)]
        exact del_none fun u hu e => lt_ne (h1 u hu) e.symm
      rw [this]
    · have hz : z.1 ≠ y.1 := lt_ne (h1 y hy')
      have : delT y.1 (z :: l) = z :: delT y.1 l := by
        unfold delT
        rw [List.filter_cons_of_pos (by simpa using hz)]
      rw [this]
      exact (List.Perm.swap _ _ _).trans (List.Perm.cons _ (ih h2 hy'))
theorem rise_filter_any {es rest : List (Dir.Txt × El)} (he : Rise es) (hr : Rise rest) (hs : ∀ y ∈ rest, y ∈ es) : es.filter (fun y => rest.any fun z => z.1 == y.1) = rest := by
  refine rise_ext (he.filter _) hr fun y => ⟨fun hy => ?_, fun hy => ?_⟩
  · obtain ⟨h1, h2⟩ := List.mem_filter.1 hy
    obtain ⟨z, hz, e⟩ := List.any_eq_true.1 h2
    simp at e
    exact he.inj (hs z hz) h1 e ▸ hz
  · exact List.mem_filter.2 ⟨hs y hy, List.any_eq_true.2 ⟨y, hy, by simp⟩⟩
/-- How many are left. -/
theorem ranges_cnt {left : Lit → Bool} {n cnt : Nat} (h : w.ranges P k thR M r n (datT (mapT hk es)) left cnt) (he : Rise es) (hr : Rise rest) (hs : ∀ y ∈ rest, y ∈ es) (hl : ∀ q, left (.string q) = rest.any fun y => y.1 == q) : cnt = rest.length := by
  obtain ⟨ms, clock, since, seen, c0, hb, F, _, hD, hr', _, hc, hl1, _⟩ := h
  have e1 : (leftOf ms seen).size = (ms.toList.filter fun x => left (WideElems.rg P k thR x).1).length := by
    unfold leftOf
    rw [← Array.length_toList, Array.toList_filter]
    exact congrArg List.length (List.filter_congr fun x hx => (hl1 x hx).symm)
  have e2 : (ms.toList.filter fun x => left (WideElems.rg P k thR x).1).length = ((ms.toList.map (WideElems.rg P k thR)).filter fun z => left z.1).length := by
    rw [List.filter_map, List.length_map]; rfl
  have e3 := ((sorted_perm (ms.toList.map (WideElems.rg P k thR))).filter fun z => left z.1).length_eq
  unfold datT at hD
  injection hD with hD
  rw [← hD] at e3
  have e4 : (List.filter (fun z => left z.1) ((mapT hk es).map fun x => ((.string x.1 : Lit), (.held x.2 : DataW Hk)))).length = (es.filter (fun y => rest.any fun z => z.1 == y.1)).length := by
    unfold mapT
    rw [List.map_map, List.filter_map, List.length_map]
    exact congrArg List.length (List.filter_congr fun y _ => hl y.1)
  rw [e4, rise_filter_any he hr hs] at e3
  omega
theorem TR.next (h : TR w P k M r es done rest) (hk : P.underlying k = some .string) (ty : TypeId) :
    (rest = [] ∧ (Instr.next (.pointer (some ⟨r, 0, none⟩)) false ty).run P w = .ok (.tuple #[.bool false]) w) ∨
    ∃ p x w', (p, x) ∈ rest ∧ (Instr.next (.pointer (some ⟨r, 0, none⟩)) false ty).run P w = .ok (.tuple #[.bool true, Dir.sv p, elV x]) w' ∧ TR w' P k M r es (done ++ [(p, x.1)]) (delT p rest) ∧
      w.grownBy w' (some r) ∧ w'.heap.size = w.heap.size ∧ (Instr.entry (.pointer (some ⟨r, 0, none⟩))).run P w' = .ok (.tuple #[Dir.sv p, elV x]) w' := by
  obtain ⟨left, h1, h2⟩ := h.rng
  have hlt := h1.lt
  have hnr := h1.ne
  have hri : ∃ m s q c, w.heap[r]? = some (.mapIter m s q c) := by obtain ⟨_, _, _, _, _, _, _, _, _, hr, _⟩ := h1; exact ⟨_, _, _, _, hr⟩
  rcases h1.next (string_keyed hk) ty with ⟨h0, _, hrun⟩ | ⟨key, v, kl, y, w', cnt', hkey, hl, hv, hat, hrun, hR, hc, hg, hs, hent⟩
  · exact .inl ⟨List.length_eq_zero_iff.1 h0, hrun⟩
  · right
    obtain ⟨p, rfl, rfl⟩ := str_of hk hkey
    rw [h2] at hl
    obtain ⟨⟨q, x⟩, hy, hq⟩ := List.any_eq_true.1 hl
    have hq : q = p := by simpa using hq
    rw [hq] at hy
    clear hq
    have hgx : getT p es = some x := get_of_mem h.tm.rise (h.sub _ hy)
    have e1 := hat (.held (Tree.hk zeroE))
    rw [at_look, look_some hgx] at e1
    obtain ⟨yd, yp⟩ := y
    simp only at e1
    subst e1
    obtain ⟨rfl, rfl⟩ := thR_held hv
    have ht := Tch.grown hg
    have hd : ∀ u : El, ElAt w u → ElAt w' u := fun u hu => ⟨bytes_skip hu.1 ht (fun k hk o u => by
      cases hk
      obtain ⟨m, s, q, c, hr⟩ := hri
      simp [World.cell?, hr]), hu.2⟩
    have hlen : (delT p rest).length + 1 = rest.length := by
      have := (perm_step h.rise hy).length_eq
      simpa using this
    have hl' : ∀ q, (left (.string q) && !(Lit.string q).sameKey (.string p)) = (delT p rest).any fun y => y.1 == q := fun q => by
      rw [h2, same_str]
      by_cases hq : q = p
      · subst hq
        rw [(List.any_eq_false.2 fun y hy => by simpa using (del_mem.1 hy).2 : (delT q rest).any (fun y => y.1 == q) = false)]
        simp
      · have e : (q == p) = false := by simpa using hq
        rw [e, Bool.not_false, Bool.and_true]
        unfold delT
        rw [List.any_filter]
        exact congrArg (fun f => List.any rest f) (funext fun y => by
          by_cases hy : y.1 = q
          · have : (y.1 == p) = false := by rw [hy]; exact e
            simp [hy, hq]
          · simp [hy])
    have hR' : w'.ranges P k thR M r es.length (datT (mapT Tree.hk es)) (fun z => left z && !z.sameKey (.string p)) (delT p rest).length := by
      have := ranges_cnt hR h.tm.rise (h.rise.del p) (fun u hu => h.sub u (del_mem.1 hu).1) hl'
      rw [← this]; exact hR
    refine ⟨p, x, w', hy, hrun, ⟨⟨_, hR', hl'⟩, ⟨hR.owns, h.tm.rise, fun u hu => hd _ (h.tm.each u hu)⟩, fun u hu => h.sub u (del_mem.1 hu).1, h.rise.del _, ?_⟩, hg, hs, hent⟩
    refine List.Perm.trans ?_ h.perm
    rw [List.append_assoc]
    exact List.Perm.append_left done (List.Perm.map (fun y : Dir.Txt × El => (y.1, y.2.1)) (perm_step h.rise hy))
theorem put_same {α : Type} {l : List (Dir.Txt × α)} (hr : Rise l) {p : Dir.Txt} {a : α} (h : getT p l = some a) : putT p a l = l := by
  refine rise_ext (hr.put _ _) hr fun y => ⟨fun hy => ?_, fun hy => ?_⟩
  · rcases put_mem.1 hy with rfl | ⟨h1, _⟩
    · exact get_mem h
    · exact h1
  · by_cases hp : y.1 = p
    · exact put_mem.2 (.inl (hr.inj hy (get_mem h) hp))
    · exact put_mem.2 (.inr ⟨hy, hp⟩)
theorem put_there_length {α : Type} {l : List (Dir.Txt × α)} (hr : Rise l) {p : Dir.Txt} {a b : α} (h : getT p l = some a) : (putT p b l).length = l.length := by
  have h1 := congrArg List.length (put_same hr h)
  unfold putT at h1 ⊢
  rw [ins_length] at h1 ⊢
  exact h1
/-- A store, under a range, at a key that is done. -/
theorem TR.store (h : TR w P k M r es done rest) (hk : P.underlying k = some .string) (ht : P.underlying t = some (.map k e)) (hn : es.length < maxLen) {p : Dir.Txt} (hp : p.length ≤ maxLen) {x x' : El} (hx : getT p es = some x) (he : x'.1 = x.1) (ha : ElAt w x') (hnr : ∀ y ∈ rest, y.1 ≠ p) :
    ∃ w', (Instr.mapUpdate t (.map (some M)) (Dir.sv p) (elV x')).run P w = .ok () w' ∧ TR w' P k M r (putT p x' es) done rest ∧ w.mapTurned w' M := by
  obtain ⟨left, h1, h2⟩ := h.rng
  have hin : Maps.has (datT (mapT Tree.hk es)) (.string p) = true := by rw [dat_has, mapT_get, hx]; rfl
  obtain ⟨w', hrun, hR, htn⟩ := ranges_restore h1 (string_keyed hk) ht hn (key_txt hk hp) hin (thR_mk (Tree.hk x'))
  have hT := h.tm.put p x' ha hR.owns htn
  rw [dat_put, ← mapT_put Tree.hk p x'] at hR
  rw [← put_there_length (b := x') h.tm.rise hx] at hR
  refine ⟨w', hrun, ⟨⟨left, hR, h2⟩, hT, fun y hy => put_mem.2 (.inr ⟨h.sub y hy, hnr y hy⟩), h.rise, ?_⟩, htn⟩
  have : ths (putT p x' es) = ths es := by
    unfold ths
    rw [mapT_put]
    exact put_same (mapT_rise.2 h.tm.rise) (by rw [mapT_get, hx, he]; rfl)
  rw [this]
  exact h.perm
/-- It depends on the map's block, on the range's, and on the things' bytes alone. -/
theorem TR.kept (h : TR w P k M r es done rest) (hT : TM w' P k M es) (hM : w'.heap[M]? = w.heap[M]?) (hr : w'.heap[r]? = w.heap[r]?) : TR w' P k M r es done rest := by
  obtain ⟨left, h1, h2⟩ := h.rng
  obtain ⟨ms, clock, since, seen, c0, hb, F, hs, hD, hit, rest'⟩ := h1
  exact ⟨⟨left, ⟨ms, clock, since, seen, c0, hM.trans hb, F, hs, hD, hr.trans hit, rest'⟩, h2⟩, hT, h.sub, h.rise, h.perm⟩
end Go.Cat.Tree
end

section
/- A map of things at the walk's operations. Condition: a key's length within a string's. -/
namespace Go.Cat.Tree
open Go.RowKit Go.Cat Go.Maps
variable {P : Program} (w : World) {ops : Array Oper} {rst : List Oper} {o : Oper} {ac : Act} {Q : Exit → Act → World → Prop}
theorem wpList_range_tr (hg : o.guard = none) (m : Operand) (t : TypeId) (hop : o.op = Op.range t m) (k e : TypeId) (hk : P.underlying k = some .string) (ht : P.underlying t = some (.map k e)) (M : Nat) (es : List (Dir.Txt × El))
    (hm : ac.eval m = .map (some M)) (h : TM w P k M es)
    (hK : ∀ w', TR w' P k M w.heap.size es [] es → Below w.heap.size w w' → w'.heap.size = w.heap.size + 1 → wpList P ops Q rst (ac.put o.dst (.pointer (some ⟨w.heap.size, 0, none⟩))) w') :
    wpList P ops Q (o :: rst) ac w := by
  refine wpList_plain hg fun K' hK' => ?_
  obtain ⟨w', hrun, r1, r2, r3⟩ := h.range hk ht
  unfold Oper.wp
  simp [execOp, hop, hm, hrun, Result.andThen]
  exact hK' _ _ (hK w' r1 r2 r3)
theorem wpList_next_tr (hg : o.guard = none) (it : Operand) (hop : o.op = Op.next it false) (k : TypeId) (hk : P.underlying k = some .string) (M r : Nat) (es : List (Dir.Txt × El)) (done : List (Dir.Txt × Th)) (rest : List (Dir.Txt × El))
    (hit : ac.eval it = .pointer (some ⟨r, 0, none⟩)) (h : TR w P k M r es done rest)
    (hDone : rest = [] → wpList P ops Q rst (ac.put o.dst (.tuple #[.bool false])) w)
    (hMore : ∀ (p : Dir.Txt) (x : El) (w' : World), (p, x) ∈ rest → TR w' P k M r es (done ++ [(p, x.1)]) (delT p rest) → w.grownBy w' (some r) → w'.heap.size = w.heap.size →
      (Instr.entry (.pointer (some ⟨r, 0, none⟩))).run P w' = .ok (.tuple #[Dir.sv p, elV x]) w' → wpList P ops Q rst (ac.put o.dst (.tuple #[.bool true, Dir.sv p, elV x])) w') :
    wpList P ops Q (o :: rst) ac w := by
  refine wpList_plain hg fun K' hK' => ?_
  unfold Oper.wp
  rcases h.next hk o.type with ⟨h0, hrun⟩ | ⟨p, x, w', hm, hrun, hR, hgr, hsz, hen⟩
  · simp [execOp, hop, hit, hrun, Result.andThen]
    exact hK' _ _ (hDone h0)
  · simp [execOp, hop, hit, hrun, Result.andThen]
    exact hK' _ _ (hMore p x w' hm hR hgr hsz hen)
theorem wpList_del_tr (hg : o.guard = none) (m x : Operand) (t k : TypeId) (hop : o.op = Op.call { callee := Callee.builtin Builtin.delete, args := #[m, x], argTypes := #[t, k] }) (e : TypeId) (hk : P.underlying k = some .string) (ht : P.underlying t = some (.map k e)) (M : Nat) (es : List (Dir.Txt × El))
    (hm : ac.eval m = .map (some M)) (h : TM w P k M es) (p : Dir.Txt) (hp : p.length ≤ maxLen) (hx : ac.eval x = .string (Dir.bs p))
    (hK : ∀ w', TM w' P k M (delT p es) → w.mapTurned w' M → wpList P ops Q rst (ac.put o.dst (.tuple #[])) w') :
    wpList P ops Q (o :: rst) ac w := by
  refine wpList_plain hg fun K' hK' => ?_
  obtain ⟨w', hrun, r1, r2⟩ := h.drop hk ht hp o.type
  have hrun : (Builtin.delete_ #[t, k] o.type #[.map (some M), .string (Dir.bs p)]).run P w = .ok (.tuple #[]) w' := hrun
  unfold Oper.wp
  simp [execOp, hop, resolve, invoke, builtin, hm, hx, hrun, Result.andThen]
  exact hK' _ _ (hK w' r1 r2)
end Go.Cat.Tree
end
