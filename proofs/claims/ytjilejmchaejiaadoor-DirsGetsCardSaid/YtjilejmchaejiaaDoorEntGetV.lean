/- Entries out of bytes: plain. No condition. -/
import Derived.Test.YtjilejmchaejiaaDoorEntPut
namespace Go.Cat.Dir
open Go.RowKit Go.Cat
/-- A piece of sixteen bytes; what it tells. -/
def chunk (b : List UInt8) (j : Nat) : List UInt8 := (b.drop (16 * j)).take 16
def hdN (c : List UInt8) : Nat := num (c.take 1)
def nmR (c : List UInt8) : Txt := (c.drop 1).take 11
def ndN (c : List UInt8) : Nat := num ((c.drop 12).take 4)
def entOf (c : List UInt8) : Ent := ((nmR c).take (min (hdN c) 11), (ndN c : Int))
def padOf (c : List UInt8) : Txt := (nmR c).drop (min (hdN c) 11)
def goodC (c : List UInt8) : Bool := decide (hdN c ≤ 11) && (padOf c).all (fun x => x == 0)
def entsE (b : List UInt8) : List Ent := (List.range (b.length / 16)).map (fun j => entOf (chunk b j))
def goodE (b : List UInt8) : Bool := (List.range (b.length / 16)).all (fun j => goodC (chunk b j))
/-- What Get answers. -/
def getE (b : List UInt8) : List Ent × Int := if 512 < b.length then ([], 17) else if b.length % 16 ≠ 0 then ([], 3) else if goodE b = true ∧ checkE (entsE b) = 0 then (entsE b, 0) else ([], 4)
theorem chunk_length {b : List UInt8} {j : Nat} (h : 16 * j + 16 ≤ b.length) : (chunk b j).length = 16 := by unfold chunk; rw [List.length_take, List.length_drop]; omega
theorem chunk_flat {β : Type} {f : β → List UInt8} : ∀ {l : List β}, (∀ x ∈ l, (f x).length = 16) → ∀ j (hj : j < l.length), chunk (l.flatMap f) j = f l[j]
  | [], _, j, hj => absurd hj (Nat.not_lt_zero j)
  | x :: l, h, 0, hj => by
    have hx := h x List.mem_cons_self
    unfold chunk
    rw [List.flatMap_cons, Nat.mul_zero, List.drop_zero, ← hx, List.take_left]
    rfl
  | x :: l, h, j + 1, hj => by
    have hx := h x List.mem_cons_self
    have ih := chunk_flat (f := f) (l := l) (fun y hy => h y (List.mem_cons_of_mem _ hy)) j (by simpa using hj)
    unfold chunk at ih ⊢
    have e : 16 * (j + 1) = (f x).length + 16 * j := by rw [hx]; omega
    rw [List.flatMap_cons, e, List.drop_append, List.drop_eq_nil_of_le (by omega)]
    simp only [List.nil_append, Nat.add_sub_cancel_left]
    exact ih
theorem flat_chunk (b : List UInt8) : ∀ n, 16 * n ≤ b.length → (List.range n).flatMap (chunk b) = b.take (16 * n)
  | 0, _ => by simp
  | n + 1, h => by
    rw [List.range_succ, List.flatMap_append, flat_chunk b n (by omega)]
    have e : 16 * (n + 1) = 16 * n + 16 := by omega
    rw [e, List.take_add]
    simp [chunk]
theorem flat_all {b : List UInt8} (h : b.length % 16 = 0) : (List.range (b.length / 16)).flatMap (chunk b) = b := by
  rw [flat_chunk b _ (by omega), List.take_of_length_le (by omega)]
theorem ent_le (c : List UInt8) : (entOf c).1.length ≤ 11 := by
  unfold entOf nmR
  simp only [List.length_take]
  omega
theorem take1 {c : List UInt8} (h : c.length = 16) : ∃ a t, c = a :: t ∧ t.length = 15 := by
  cases c with
  | nil => simp at h
  | cons a t => exact ⟨a, t, rfl, by simpa using h⟩
theorem num_one (a : UInt8) : num [a] = a.toNat := by simp [num]
/-- A piece is its parts. -/
theorem chunk_parts {c : List UInt8} (h : c.length = 16) : c = be (hdN c) 1 ++ (nmR c ++ be (ndN c) 4) := by
  have h1 : be (hdN c) 1 = c.take 1 := by
    have := be_num (c.take 1)
    rw [List.length_take, h] at this
    exact this
  have h2 : be (ndN c) 4 = (c.drop 12).take 4 := by
    have := be_num ((c.drop 12).take 4)
    rw [List.length_take, List.length_drop, h] at this
    exact this
  rw [h1, h2]
  unfold nmR
  have e3 : (c.drop 12).take 4 = c.drop 12 := List.take_of_length_le (by rw [List.length_drop]; omega)
  have e4 : c.drop 12 = (c.drop 1).drop 11 := by rw [List.drop_drop]
  rw [e3, e4, List.take_append_drop, List.take_append_drop]
theorem nmR_length {c : List UInt8} (h : c.length = 16) : (nmR c).length = 11 := by unfold nmR; rw [List.length_take, List.length_drop]; omega
theorem all_zero {l : Txt} (h : l.all (fun x => x == 0) = true) : l = List.replicate l.length 0 := by
  rw [List.eq_replicate_iff]
  refine ⟨rfl, fun x hx => ?_⟩
  have := List.all_eq_true.1 h x hx
  simpa using this
theorem entB_good {c : List UInt8} (h : c.length = 16) (hg : goodC c = true) : entB (entOf c) = c := by
  unfold goodC at hg
  rw [Bool.and_eq_true] at hg
  obtain ⟨g1, g2⟩ := hg
  have g1 : hdN c ≤ 11 := by simpa using g1
  have hz := all_zero g2
  have hm : min (hdN c) 11 = hdN c := by omega
  have hnl := nmR_length h
  unfold padOf at hz
  rw [hm, List.length_drop, hnl] at hz
  have hl : ((nmR c).take (hdN c)).length = hdN c := by rw [List.length_take, hnl]; omega
  unfold entB entOf
  simp only [hm, hl, Int.toNat_natCast]
  rw [← hz]
  conv => rhs; rw [chunk_parts h]
  rw [← List.append_assoc ((nmR c).take (hdN c)), List.take_append_drop]
theorem good_entB {c : List UInt8} (h : c.length = 16) (hn : hdN c ≤ 11) (he : entB (entOf c) = c) : goodC c = true := by
  have hm : min (hdN c) 11 = hdN c := by omega
  have hnl := nmR_length h
  have hl : ((nmR c).take (hdN c)).length = hdN c := by rw [List.length_take, hnl]; omega
  have hp := chunk_parts h
  unfold entB entOf at he
  simp only [hm, hl, Int.toNat_natCast] at he
  have hp2 : be (hdN c) 1 ++ (nmR c ++ be (ndN c) 4) = be (hdN c) 1 ++ ((nmR c).take (hdN c) ++ (List.replicate (11 - hdN c) 0 ++ be (ndN c) 4)) := by rw [← hp]; exact he.symm
  have hp3 := List.append_cancel_left hp2
  rw [← List.append_assoc] at hp3
  have hp4 := List.append_cancel_right hp3
  have hp5 : (nmR c).drop (hdN c) = List.replicate (11 - hdN c) 0 := by
    conv => lhs; rw [hp4]
    rw [List.drop_append, hl, Nat.sub_self, List.drop_zero, List.drop_eq_nil_of_le (by omega), List.nil_append]
  unfold goodC padOf
  rw [hm, hp5, Bool.and_eq_true]
  exact ⟨by simpa using hn, by simp⟩
theorem ents_length (b : List UInt8) : (entsE b).length = b.length / 16 := by unfold entsE; simp
theorem bytes_ents (b : List UInt8) : bytesE (entsE b) = (List.range (b.length / 16)).flatMap (fun j => entB (entOf (chunk b j))) := by
  unfold bytesE entsE
  rw [List.flatMap_map]
/-- Good bytes are their entries' bytes, and the other way. -/
theorem flatMap_same {f g : Nat → List UInt8} : ∀ {l : List Nat}, (∀ j ∈ l, f j = g j) → l.flatMap f = l.flatMap g
  | [], _ => rfl
  | x :: l, h => by
    rw [List.flatMap_cons, List.flatMap_cons, h x List.mem_cons_self, flatMap_same (fun j hj => h j (List.mem_cons_of_mem _ hj))]
theorem bytes_good {b : List UInt8} (h : b.length % 16 = 0) (hg : goodE b = true) : bytesE (entsE b) = b := by
  rw [bytes_ents]
  conv => rhs; rw [← flat_all h]
  refine flatMap_same fun j hj => ?_
  have hj := List.mem_range.1 hj
  exact entB_good (chunk_length (by omega)) (List.all_eq_true.1 hg j (List.mem_range.2 hj))
theorem good_bytes {b : List UInt8} (h : b.length % 16 = 0) (hn : ∀ j, j < b.length / 16 → hdN (chunk b j) ≤ 11) (he : bytesE (entsE b) = b) : goodE b = true := by
  unfold goodE
  rw [List.all_eq_true]
  intro j hj
  have hj := List.mem_range.1 hj
  refine good_entB (chunk_length (by omega)) (hn j hj) ?_
  have h1 := chunk_flat (f := fun j => entB (entOf (chunk b j))) (l := List.range (b.length / 16)) (fun x _ => entB_length (ent_le _)) j (by simpa using hj)
  rw [← bytes_ents, he] at h1
  simpa using h1.symm
theorem ent_back {e : Ent} (h : e.1.length ≤ 11) (h0 : 0 ≤ e.2) (h1 : e.2 < 4294967296) : entOf (entB e) = e ∧ goodC (entB e) = true := by
  obtain ⟨x, y⟩ := e
  obtain ⟨n, rfl⟩ : ∃ n : Nat, y = n := ⟨y.toNat, by simp at h0; omega⟩
  simp only at h h0 h1
  have hl := entB_length (e := (x, (n : Int))) h
  have b1 : (be x.length 1).length = 1 := be_length _ _
  have hh : hdN (entB (x, (n : Int))) = x.length := by
    unfold hdN entB
    rw [List.take_left' b1, num_be_of (by show x.length < 256 ^ 1; omega)]
  have hd1 : (entB (x, (n : Int))).drop 1 = x ++ (List.replicate (11 - x.length) 0 ++ be n 4) := by
    unfold entB
    rw [List.drop_left' b1]
    rfl
  have hnm : nmR (entB (x, (n : Int))) = x ++ List.replicate (11 - x.length) 0 := by
    unfold nmR
    rw [hd1, ← List.append_assoc]
    exact List.take_left' (by simp; omega)
  have hnd : ndN (entB (x, (n : Int))) = n := by
    unfold ndN
    have e : (entB (x, (n : Int))).drop 12 = ((entB (x, (n : Int))).drop 1).drop 11 := by rw [List.drop_drop]
    rw [e, hd1, ← List.append_assoc, List.drop_left' (by simp; omega), List.take_of_length_le (by rw [be_length]; omega), num_be_of (by omega)]
  have hm : min x.length 11 = x.length := by omega
  constructor
  · unfold entOf
    rw [hnm, hh, hnd, hm, List.take_left]
  · unfold goodC padOf
    rw [hnm, hh, hm, List.drop_left, Bool.and_eq_true]
    exact ⟨by simpa using h, by simp⟩
/-- What is put is got. -/
theorem get_bytes {l : List Ent} (h : checkE l = 0) : getE (bytesE l) = (l, 0) := by
  obtain ⟨h32, hall⟩ := check_fine h
  have hle : ∀ e ∈ l, e.1.length ≤ 11 ∧ 0 ≤ e.2 ∧ e.2 < 4294967296 := fun e he => by
    obtain ⟨j, hj, rfl⟩ := List.getElem_of_mem he
    obtain ⟨a, b, c⟩ := hall j hj
    exact ⟨a.2.2.2.1, by omega, by omega⟩
  have hlen := bytesE_length (fun e he => (hle e he).1)
  have hdiv : (bytesE l).length / 16 = l.length := by rw [hlen]; omega
  have hch : ∀ j (hj : j < l.length), chunk (bytesE l) j = entB l[j] := fun j hj => chunk_flat (f := entB) (fun x hx => entB_length (hle x hx).1) j hj
  have hents : entsE (bytesE l) = l := by
    unfold entsE
    rw [hdiv]
    apply List.ext_getElem (by simp)
    intro j h1 h2
    have hj : j < l.length := by simpa using h1
    simp only [List.getElem_map, List.getElem_range]
    obtain ⟨a, b, c⟩ := hle _ (List.getElem_mem hj)
    rw [hch j hj, (ent_back a b c).1]
  have hgood : goodE (bytesE l) = true := by
    unfold goodE
    rw [hdiv, List.all_eq_true]
    intro j hj
    have hj := List.mem_range.1 hj
    obtain ⟨a, b, c⟩ := hle _ (List.getElem_mem hj)
    rw [hch j hj, (ent_back a b c).2]
  unfold getE
  rw [if_neg (by omega), if_neg (by omega), if_pos ⟨hgood, by rw [hents]; exact h⟩, hents]
theorem get_ok {b : List UInt8} (h : (getE b).2 = 0) : b.length ≤ 512 ∧ b.length % 16 = 0 ∧ goodE b = true ∧ checkE (entsE b) = 0 ∧ getE b = (entsE b, 0) := by
  unfold getE at h ⊢
  split at h
  · cases h
  · rename_i h1
    rw [if_neg h1]
    split at h
    · cases h
    · rename_i h2
      rw [if_neg h2]
      split at h
      · rename_i h3
        rw [if_pos h3]
        exact ⟨by omega, by omega, h3.1, h3.2, rfl⟩
      · cases h
end Go.Cat.Dir
