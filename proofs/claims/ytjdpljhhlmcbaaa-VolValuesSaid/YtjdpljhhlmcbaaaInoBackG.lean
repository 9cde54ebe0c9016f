/- What is got of bytes has these bytes, and what was put is got: plain. No condition. -/
import Derived.Test.YtjdpljhhlmcbaaaInoPut
import Derived.Test.YtjdpljhhlmcbaaaInoGetV
import Derived.Test.YtjdpljhhlmcbaaaFixBack
namespace Go.Cat.Ino
open Go.RowKit Go.Cat
theorem oneE_split {s : IS} (h : (oneE s).1.e = 0) : s.e = 0 ∧ s.b = encE (oneE s).2 ++ (oneE s).1.b := by
  obtain ⟨a', b'⟩ := IS.upto_split (show (IS.upto _ 2 18446744073709551615).1.e = 0 from h)
  obtain ⟨a'', b''⟩ := IS.upto_split a'
  refine ⟨a'', ?_⟩
  rw [b'', b']
  unfold encE oneE
  simp [List.append_assoc]
theorem parseE_split {s : IS} : ∀ k, (parseE s k).1.e = 0 → s.e = 0 ∧ s.b = (parseE s k).2.flatMap encE ++ (parseE s k).1.b
  | 0, h => ⟨h, by show s.b = [] ++ s.b; rfl⟩
  | k + 1, h => by
    obtain ⟨a, b⟩ := oneE_split (s := (parseE s k).1) h
    obtain ⟨a', b'⟩ := parseE_split k a
    refine ⟨a', ?_⟩
    show s.b = ((parseE s k).2 ++ [(oneE (parseE s k).1).2]).flatMap encE ++ (oneE (parseE s k).1).1.b
    rw [List.flatMap_append, b', b]
    simp [List.append_assoc]
theorem readI_back {b : List UInt8} (h : (rdE b).1.done = 0) : encIv (rdM b).2 (rdZ b).2 (rdE b).2 = b := by
  obtain ⟨a, c⟩ := IS.done_zero h
  obtain ⟨a1, c1⟩ := parseE_split (s := (rdZ b).1) _ a
  obtain ⟨a2, c2⟩ := IS.upto_split (s := (rdN b).1) (n := 4) (most := 18446744073709551615) a1
  obtain ⟨a3, c3⟩ := IS.upto_split (s := (rdM b).1) (n := 1) (most := 8) a2
  obtain ⟨a4, c4⟩ := IS.upto_split (s := ⟨b, 0⟩) (n := 1) (most := 2) a3
  have h1 : b = be (rdM b).2.toNat 1 ++ (rdM b).1.b := c4
  have h2 : (rdM b).1.b = be (rdN b).2.toNat 1 ++ (rdN b).1.b := c3
  have h3 : (rdN b).1.b = be (rdZ b).2.toNat 4 ++ (rdZ b).1.b := c2
  have h4 : (rdZ b).1.b = (rdE b).2.flatMap encE ++ (rdE b).1.b := c1
  have h5 : (rdE b).1.b = [] := c
  rw [h5, List.append_nil] at h4
  unfold encIv
  rw [rdE_length, ← h4, ← h3, ← h2, ← h1]
theorem putI_back {b : List UInt8} (h0 : b ≠ []) (h : (getI b).2 = 0) : putI (getI b).1.1 (getI b).1.2.1 (getI b).1.2.2 = (b, 0) := by
  by_cases hd : (rdE b).1.done = 0
  · by_cases hc : checkI (rdM b).2 (rdZ b).2 (rdE b).2 = 0
    · rw [getI_ok h0 hd hc]
      show putI (rdM b).2 (rdZ b).2 (rdE b).2 = _
      rw [putI_yes hc, readI_back hd]
    · rw [getI_form h0 hd hc] at h; cases h
  · rw [getI_done h0 hd] at h
    exact absurd h hd
theorem check_none : checkI 0 0 [] = 0 := MayBe.check ⟨by omega, by omega, by omega, by omega, fun _ => ⟨rfl, rfl⟩, by simp, ⟨fun i hi => absurd hi (Nat.not_lt_zero i), by simp [blks]⟩, rfl⟩
theorem putI_nil : (putI (getI []).1.1 (getI []).1.2.1 (getI []).1.2.2).2 = 0 := by
  rw [getI_nil]
  show (putI 0 0 []).2 = 0
  rw [putI_yes check_none]
theorem gotI_in {b : List UInt8} : ∀ e ∈ (getI b).1.2.2, ExK e := by
  by_cases h0 : b = []
  · subst h0; rw [getI_nil]; intro e he; cases he
  · by_cases hd : (rdE b).1.done = 0
    · by_cases hc : checkI (rdM b).2 (rdZ b).2 (rdE b).2 = 0
      · rw [getI_ok h0 hd hc]; exact rdE_in b
      · rw [getI_form h0 hd hc]; intro e he; cases he
    · rw [getI_done h0 hd]; intro e he; cases he
theorem gotI_len {b : List UInt8} : (getI b).1.2.2.length ≤ 8 := by
  by_cases h0 : b = []
  · subst h0; rw [getI_nil]; exact Nat.zero_le _
  · by_cases hd : (rdE b).1.done = 0
    · by_cases hc : checkI (rdM b).2 (rdZ b).2 (rdE b).2 = 0
      · rw [getI_ok h0 hd hc]; exact (check_zero hc).len
      · rw [getI_form h0 hd hc]; exact Nat.zero_le _
    · rw [getI_done h0 hd]; exact Nat.zero_le _
theorem oneE_enc {s : IS} {p : Ext} {rest : List UInt8} (he : s.e = 0) (hb : s.b = encE p ++ rest) (hp : InE p) : oneE s = (⟨rest, 0⟩, p) := by
  have h1 := hp.s0
  have h2 := hp.s1
  have h3 := hp.right.1
  have h4 := hp.right.2
  have e1 : s.upto 2 18446744073709551615 = (⟨be p.2.toNat 2 ++ rest, 0⟩, (p.1.toNat : Int)) := IS.upto_be he (by rw [hb]; unfold encE; rw [List.append_assoc]) (by show p.1.toNat < 65536; omega) (by omega)
  have e2 : (⟨be p.2.toNat 2 ++ rest, 0⟩ : IS).upto 2 18446744073709551615 = (⟨rest, 0⟩, (p.2.toNat : Int)) := IS.upto_be rfl rfl (by show p.2.toNat < 65536; omega) (by omega)
  unfold oneE
  rw [e1]
  show ((IS.upto ⟨be p.2.toNat 2 ++ rest, 0⟩ 2 18446744073709551615).1, ((p.1.toNat : Int), (IS.upto ⟨be p.2.toNat 2 ++ rest, 0⟩ 2 18446744073709551615).2)) = _
  rw [e2]
  show ((⟨rest, 0⟩ : IS), ((p.1.toNat : Int), (p.2.toNat : Int))) = _
  rw [Int.toNat_of_nonneg h1, Int.toNat_of_nonneg (by omega)]
theorem parseE_enc {s : IS} {xs : List Ext} (he : s.e = 0) (hb : s.b = xs.flatMap encE) (hx : ∀ e ∈ xs, InE e) : ∀ k, k ≤ xs.length → parseE s k = (⟨(xs.drop k).flatMap encE, 0⟩, xs.take k)
  | 0, _ => by
    show (s, []) = _
    rw [List.drop_zero, List.take_zero, ← hb, ← he]
  | k + 1, hk => by
    have ih := parseE_enc he hb hx k (by omega)
    have hd : xs.drop k = xs[k] :: xs.drop (k + 1) := List.drop_eq_getElem_cons (by omega)
    have h1 : oneE (parseE s k).1 = (⟨(xs.drop (k + 1)).flatMap encE, 0⟩, xs[k]) := by
      rw [ih]
      refine oneE_enc rfl ?_ (hx _ (List.getElem_mem _))
      show (xs.drop k).flatMap encE = _
      rw [hd, List.flatMap_cons]
    show ((oneE (parseE s k).1).1, (parseE s k).2 ++ [(oneE (parseE s k).1).2]) = _
    rw [h1, ih, List.take_succ_eq_append_getElem (by omega)]
theorem getI_put {m z : Int} {xs : List Ext} (h : checkI m z xs = 0) : getI (encIv m z xs) = ((m, z, xs), 0) := by
  have mb := check_zero h
  have h1 := mb.m0
  have h2 := mb.m2
  have h3 := mb.s0
  have h4 := mb.s1
  have h5 := mb.len
  have hx : ∀ e ∈ xs, InE e := fun e he => by
    obtain ⟨i, hi, rfl⟩ := List.getElem_of_mem he
    exact (mb.fine.1 i hi _ (List.getElem?_eq_getElem hi)).1
  have e1 : rdM (encIv m z xs) = (⟨be xs.length 1 ++ (be z.toNat 4 ++ xs.flatMap encE), 0⟩, (m.toNat : Int)) := IS.upto_be rfl rfl (by show m.toNat < 256; omega) (by omega)
  have e2 : rdN (encIv m z xs) = (⟨be z.toNat 4 ++ xs.flatMap encE, 0⟩, (xs.length : Int)) := by
    unfold rdN; rw [e1]; exact IS.upto_be rfl rfl (by show xs.length < 256; omega) (by omega)
  have e3 : rdZ (encIv m z xs) = (⟨xs.flatMap encE, 0⟩, (z.toNat : Int)) := by
    unfold rdZ; rw [e2]; exact IS.upto_be rfl rfl (by show z.toNat < 4294967296; omega) (by omega)
  have e4 : rdE (encIv m z xs) = (⟨[], 0⟩, xs) := by
    unfold rdE
    rw [e3, e2]
    show parseE ⟨xs.flatMap encE, 0⟩ xs.length = _
    rw [parseE_enc rfl rfl hx xs.length (Nat.le_refl _), List.drop_length, List.take_length]
    rfl
  have h0 : encIv m z xs ≠ [] := by
    intro e
    have := congrArg List.length e
    unfold encIv at this
    simp [be_length] at this
  have hm : (rdM (encIv m z xs)).2 = m := by rw [e1]; exact Int.toNat_of_nonneg h1
  have hz : (rdZ (encIv m z xs)).2 = z := by rw [e3]; exact Int.toNat_of_nonneg h3
  have hxs : (rdE (encIv m z xs)).2 = xs := by rw [e4]
  rw [getI_ok h0 (by rw [e4]; rfl) (by rw [hm, hz, hxs]; exact h), hm, hz, hxs]
end Go.Cat.Ino
