/- Patches by rising keys, those of one key as they stood; patches that were put are read back: plain. No condition. -/
import Derived.Test.YtjdpljhhlmcbaaaVolPut
import Derived.Test.YtjdpljhhlmcbaaaVolGetV
import Derived.Test.YtjdpljhhlmcbaaaFixBack
import Derived.Test.YtjdpljhhlmcbaaaStableV
namespace Go.Cat.Vol
open Go.RowKit Go.Cat
/-- A patch, and the place at which it stood. -/
abbrev TV := Pv × Nat
def leT (x y : TV) : Bool := decide (x.1.key < y.1.key) || (decide (x.1.key = y.1.key) && decide (x.2 ≤ y.2))
theorem leT_iff (x y : TV) : leT x y = true ↔ x.1.key < y.1.key ∨ (x.1.key = y.1.key ∧ x.2 ≤ y.2) := by
  unfold leT
  rw [Bool.or_eq_true, Bool.and_eq_true, decide_eq_true_iff, decide_eq_true_iff, decide_eq_true_iff]
def sortV (l : List Pv) : List Pv := ((l.zipIdx).mergeSort leT).map (·.1)
theorem sort_uniq {l : List Pv} {S : List TV} (hp : S.Perm l.zipIdx) (hs : S.Pairwise fun x y => leT x y = true) : S.map (·.1) = sortV l := by
  have hm : ((l.zipIdx).mergeSort leT).Pairwise fun x y => leT x y = true := List.pairwise_mergeSort (le := leT)
    (fun a b c h1 h2 => by rw [leT_iff] at *; omega) (fun a b => by
      rw [Bool.or_eq_true, leT_iff, leT_iff]; omega) l.zipIdx
  have hp2 : S.Perm ((l.zipIdx).mergeSort leT) := hp.trans (List.mergeSort_perm _ _).symm
  have he : S = (l.zipIdx).mergeSort leT := by
    refine List.Perm.eq_of_pairwise (le := fun x y => leT x y = true) ?_ hs hm hp2
    intro a b ha hb h1 h2
    rw [leT_iff] at h1 h2
    have hab : a.2 = b.2 := by omega
    have ha' := hp.mem_iff.1 ha
    have hb' := (List.mergeSort_perm l.zipIdx leT).mem_iff.1 hb
    obtain ⟨p, i⟩ := a
    obtain ⟨q, j⟩ := b
    simp only at hab
    subst hab
    rw [List.mk_mem_zipIdx_iff_getElem?] at ha' hb'
    rw [ha'] at hb'
    injection hb' with hb'
    rw [hb']
  unfold sortV
  rw [he]
theorem sortV_perm (l : List Pv) : (sortV l).Perm l := by
  have h := (List.mergeSort_perm l.zipIdx leT).map (·.1)
  rw [List.zipIdx_map_fst] at h
  exact h
/-- One more is put behind all that are not above it. -/
theorem ins_pair {S : List TV} {p : TV} {k : Nat} (hk : k ≤ S.length) (hs : S.Pairwise fun x y => leT x y = true) (ht : ∀ x ∈ S, x.2 < p.2) (hlo : ∀ h0 : 0 < k, (S[k - 1]'(by omega)).1.key ≤ p.1.key) (hhi : ∀ j (hj : j < S.length), k ≤ j → p.1.key < S[j].1.key) :
    (S.take k ++ [p] ++ S.drop k).Pairwise fun x y => leT x y = true := by
  have hsp : (S.take k ++ S.drop k).Pairwise fun x y => leT x y = true := by rw [List.take_append_drop]; exact hs
  rw [List.pairwise_append] at hsp
  have hd : ∀ x ∈ S.drop k, leT p x = true := fun x hx => by
    obtain ⟨j, hj, rfl⟩ := List.getElem_of_mem hx
    rw [List.length_drop] at hj
    rw [List.getElem_drop, leT_iff]
    exact .inl (hhi (k + j) (by omega) (by omega))
  have htk : ∀ x ∈ S.take k, leT x p = true := fun x hx => by
    obtain ⟨j, hj, rfl⟩ := List.getElem_of_mem hx
    rw [List.length_take] at hj
    rw [List.getElem_take]
    have h0 : 0 < k := by omega
    have h1 := hlo h0
    have h2 := ht _ (List.getElem_mem (show j < S.length by omega))
    have h3 : S[j].1.key ≤ (S[k - 1]'(by omega)).1.key := by
      by_cases e : j = k - 1
      · subst e; exact Int.le_refl _
      · have := List.pairwise_iff_getElem.1 hs j (k - 1) (by omega) (by omega) (by omega)
        rw [leT_iff] at this
        omega
    rw [leT_iff]
    omega
  rw [List.append_assoc, List.pairwise_append]
  refine ⟨hsp.1, ?_, fun a ha b hb => ?_⟩
  · show (p :: S.drop k).Pairwise _
    exact List.pairwise_cons.2 ⟨hd, hsp.2.1⟩
  · rcases List.mem_cons.1 (show b ∈ p :: S.drop k from hb) with rfl | hb
    · exact htk a ha
    · exact hsp.2.2 a ha b hb
theorem ins_permT (S : List TV) (p : TV) (k : Nat) : (S.take k ++ [p] ++ S.drop k).Perm (S ++ [p]) := by
  have h1 : (S.take k ++ [p] ++ S.drop k).Perm (S.take k ++ S.drop k ++ [p]) := by
    rw [List.append_assoc, List.append_assoc]
    exact (List.Perm.refl _).append List.perm_append_comm
  rw [List.take_append_drop] at h1
  exact h1
theorem zip_snoc {α : Type} (l : List α) {k : Nat} (hk : k < l.length) : (l.take (k + 1)).zipIdx = (l.take k).zipIdx ++ [(l[k], k)] := by
  rw [List.take_succ_eq_append_getElem hk, List.zipIdx_append]
  simp [Nat.min_eq_left (Nat.le_of_lt hk)]

/-- Reading what was put. -/
theorem text_be {s : IS} {b rest : List UInt8} {most : Int} (he : s.e = 0) (hb : s.b = be b.length 2 ++ (b ++ rest)) (hl : b.length < 65536) (hm : (b.length : Int) ≤ most) : s.text most = (⟨rest, 0⟩, b) := by
  have hlen : ¬ s.b.length < 2 := by rw [hb, List.length_append, be_length]; omega
  have hx : s.next 2 = (⟨b ++ rest, 0⟩, be b.length 2, true) := by
    unfold IS.next
    rw [if_neg (by simpa using he), if_neg hlen, hb, List.take_left' (be_length _ _), List.drop_left' (be_length _ _)]
  have hn : num (be b.length 2) = b.length := num_be_of (by omega)
  have hy : (⟨b ++ rest, 0⟩ : IS).next b.length = (⟨rest, 0⟩, b, true) := by
    unfold IS.next
    rw [if_neg (by simp), if_neg (by simp), List.take_left' rfl, List.drop_left' rfl]
  unfold IS.text
  rw [hx, if_neg (by simp)]
  show (if most < (num (be b.length 2) : Int) then _ else _) = _
  rw [hn, if_neg (by omega)]
  show (((⟨b ++ rest, 0⟩ : IS).next b.length).1, ((⟨b ++ rest, 0⟩ : IS).next b.length).2.1) = _
  rw [hy]
theorem one_be {s : IS} {p : Pv} {rest : List UInt8} (he : s.e = 0) (hb : s.b = encP p ++ rest) (h1 : 0 ≤ p.key) (h2 : p.key < 4294967296) (h3 : 0 ≤ p.ver) (h4 : p.ver < 18446744073709551616) (h5 : p.b.length ≤ 64) : one s = (⟨rest, 0⟩, p) := by
  have e1 : s.upto 4 18446744073709551615 = (⟨be p.ver.toNat 8 ++ (be p.b.length 2 ++ (p.b ++ rest)), 0⟩, p.key) := by
    have := IS.upto_be (s := s) (v := p.key.toNat) (n := 4) (rest := be p.ver.toNat 8 ++ (be p.b.length 2 ++ (p.b ++ rest))) (most := 18446744073709551615) he (by rw [hb]; unfold encP; simp only [List.append_assoc]) (by omega) (by omega)
    rw [this, show ((p.key.toNat : Nat) : Int) = p.key by omega]
  have e2 : (⟨be p.ver.toNat 8 ++ (be p.b.length 2 ++ (p.b ++ rest)), 0⟩ : IS).upto 8 18446744073709551615 = (⟨be p.b.length 2 ++ (p.b ++ rest), 0⟩, p.ver) := by
    have := IS.upto_be (s := ⟨be p.ver.toNat 8 ++ (be p.b.length 2 ++ (p.b ++ rest)), 0⟩) (v := p.ver.toNat) (n := 8) (rest := be p.b.length 2 ++ (p.b ++ rest)) (most := 18446744073709551615) rfl rfl (by omega) (by omega)
    rw [this, show ((p.ver.toNat : Nat) : Int) = p.ver by omega]
  have e3 : (⟨be p.b.length 2 ++ (p.b ++ rest), 0⟩ : IS).text 64 = (⟨rest, 0⟩, p.b) := text_be rfl rfl (by omega) (by omega)
  unfold one
  rw [e1]
  show ((((⟨be p.ver.toNat 8 ++ (be p.b.length 2 ++ (p.b ++ rest)), 0⟩ : IS).upto 8 18446744073709551615).1.text 64).1, (⟨p.key, ((⟨be p.ver.toNat 8 ++ (be p.b.length 2 ++ (p.b ++ rest)), 0⟩ : IS).upto 8 18446744073709551615).2, (((⟨be p.ver.toNat 8 ++ (be p.b.length 2 ++ (p.b ++ rest)), 0⟩ : IS).upto 8 18446744073709551615).1.text 64).2⟩ : Pv)) = _
  rw [e2]
  show (((⟨be p.b.length 2 ++ (p.b ++ rest), 0⟩ : IS).text 64).1, (⟨p.key, p.ver, ((⟨be p.b.length 2 ++ (p.b ++ rest), 0⟩ : IS).text 64).2⟩ : Pv)) = _
  rw [e3]
/-- What a patch must be within to be read back. -/
def Fits (p : Pv) : Prop := 0 ≤ p.key ∧ p.key < 4294967296 ∧ 0 ≤ p.ver ∧ p.ver < 18446744073709551616 ∧ p.b.length ≤ 64
theorem parse_be {l : List Pv} {s : IS} {rest : List UInt8} (he : s.e = 0) (hb : s.b = l.flatMap encP ++ rest) (hf : ∀ p ∈ l, Fits p) : ∀ k, k ≤ l.length → parse s k = (⟨(l.drop k).flatMap encP ++ rest, 0⟩, l.take k)
  | 0, _ => by
    show (s, []) = _
    rw [List.drop_zero, ← hb]
    cases s
    simp only at he
    subst he
    rfl
  | k + 1, hk => by
    have ih := parse_be he hb hf k (by omega)
    have hkl : k < l.length := by omega
    have hd : l.drop k = l[k] :: l.drop (k + 1) := List.drop_eq_getElem_cons hkl
    obtain ⟨f1, f2, f3, f4, f5⟩ := hf l[k] (List.getElem_mem hkl)
    have ho : one (⟨(l.drop k).flatMap encP ++ rest, 0⟩ : IS) = (⟨(l.drop (k + 1)).flatMap encP ++ rest, 0⟩, l[k]) := one_be rfl (by show (l.drop k).flatMap encP ++ rest = _; rw [hd, List.flatMap_cons, List.append_assoc]) f1 f2 f3 f4 f5
    show ((one (parse s k).1).1, (parse s k).2 ++ [(one (parse s k).1).2]) = _
    rw [ih]
    show ((one (⟨(l.drop k).flatMap encP ++ rest, 0⟩ : IS)).1, l.take k ++ [(one (⟨(l.drop k).flatMap encP ++ rest, 0⟩ : IS)).2]) = _
    rw [ho, List.take_succ_eq_append_getElem hkl]
theorem get_put {I B : Int} {l : List Pv} (hc : checkV I B l = 0) (hl : l ≠ []) (hf : ∀ p ∈ l, Fits p) : getV I B (encs l) = (l, 0) := by
  obtain ⟨h1, h2, _⟩ := check_zero hc
  have hcount : count (encs l) = (⟨l.flatMap encP, 0⟩, (l.length : Int)) := IS.upto_be rfl rfl (by omega) (by omega)
  have hp : readP (encs l) = (⟨[], 0⟩, l) := by
    unfold readP
    rw [hcount]
    have := parse_be (l := l) (s := ⟨l.flatMap encP, 0⟩) (rest := []) rfl (by simp) hf l.length (Nat.le_refl _)
    show parse ⟨l.flatMap encP, 0⟩ ((l.length : Int)).toNat = _
    rw [Int.toNat_natCast, this, List.drop_length, List.take_length]
    rfl
  have hne : encs l ≠ [] := by
    intro e
    have := congrArg List.length e
    unfold encs at this
    rw [List.length_append, be_length] at this
    simp at this
  have := getV_ok (I := I) (B := B) hne h1 (by rw [hp]; rfl) (by rw [hp]; exact hl) (by rw [hp]; exact hc)
  rw [this, hp]
theorem fits_of {I B : Int} {l : List Pv} (hc : checkV I B l = 0) (hk : ∀ p ∈ l, 0 ≤ p.key ∧ p.key < 4294967296 ∧ 0 ≤ p.ver ∧ p.ver < 18446744073709551616) : ∀ p ∈ l, Fits p := by
  obtain ⟨_, _, h3⟩ := check_zero hc
  intro p hp
  obtain ⟨j, hj, rfl⟩ := List.getElem_of_mem hp
  have h4 := fine_keys (I := I) (B := B) (l := l) (k := j) (p := l[j]) (fun i hi => h3 i (by omega)) (List.getElem?_eq_getElem hj)
  obtain ⟨a, b, c, d⟩ := hk _ hp
  exact ⟨a, b, c, d, h4.2⟩
end Go.Cat.Vol
