/- The contracts of a block's readers: clean, Clean, Last, Dirty, Pick. Condition: at most 65536 rising versions of at most 65536 bytes. -/
import Derived.Test.YtobndboogafjpaaVersFind
namespace Go.Cat.Vers

/-- Versions whose numbers and seqs rise. -/
def Rising (l : List Ver) : Prop := ∀ i j, i < j → j < l.length → (l.getD i zero).seq < (l.getD j zero).seq ∧ (l.getD i zero).ver < (l.getD j zero).ver
theorem Rising.seq {l : List Ver} (h : Rising l) {i j : Nat} (hij : i ≤ j) (hj : j < l.length) : (l.getD i zero).seq ≤ (l.getD j zero).seq := by
  rcases Nat.lt_or_ge i j with hlt | hge
  · exact Int.le_of_lt (h i j hlt hj).1
  · obtain rfl : i = j := by omega
    exact Int.le_refl _
theorem Rising.ver {l : List Ver} (h : Rising l) {i j : Nat} (hij : i ≤ j) (hj : j < l.length) : (l.getD i zero).ver ≤ (l.getD j zero).ver := by
  rcases Nat.lt_or_ge i j with hlt | hge
  · exact Int.le_of_lt (h i j hlt hj).2
  · obtain rfl : i = j := by omega
    exact Int.le_refl _
theorem Rising.mono_seq {l : List Ver} (h : Rising l) (done : Int) : ∀ i j, i ≤ j → j < l.length → decide (done < (l.getD i zero).seq) = true → decide (done < (l.getD j zero).seq) = true := by
  intro i j hij hj hd
  have h1 := h.seq hij hj
  have h2 : done < (l.getD i zero).seq := by simpa using hd
  simp; simp at h1 h2; omega
theorem Rising.mono_ver {l : List Ver} (h : Rising l) (ver : Int) : ∀ i j, i ≤ j → j < l.length → decide (ver ≤ (l.getD i zero).ver) = true → decide (ver ≤ (l.getD j zero).ver) = true := by
  intro i j hij hj hd
  have h1 := h.ver hij hj
  have h2 : ver ≤ (l.getD i zero).ver := by simpa using hd
  simp; simp at h1 h2; omega

/-- k versions are clean. -/
structure Cleaned (l : List Ver) (done : Int) (k : Nat) : Prop where
  le : k ≤ l.length
  lo : ∀ i, i < k → (l.getD i zero).seq ≤ done
  hi : ∀ i, k ≤ i → i < l.length → done < (l.getD i zero).seq

theorem Cleaned.uniq {l : List Ver} {done : Int} {k k' : Nat} (h : Cleaned l done k) (h' : Cleaned l done k') : k = k' := by
  rcases Nat.lt_trichotomy k k' with h1 | h1 | h1
  · have a := h.hi k (Nat.le_refl _) (by have := h'.le; omega)
    have b := h'.lo k h1
    omega
  · exact h1
  · have a := h'.hi k' (Nat.le_refl _) (by have := h.le; omega)
    have b := h.lo k' h1
    omega

/-- What Pick tells: the version of that number; else the clean one if it is newer; else nothing. -/
def Picked (l : List Ver) (ver done : Int) (v : Ver) : Prop :=
  (v ∈ l ∧ v.ver = ver) ∨ ((∀ u ∈ l, u.ver ≠ ver) ∧ ∃ k, Cleaned l done k ∧ ((ver < (atV l ((k : Int) - 1)).ver ∧ v = atV l ((k : Int) - 1)) ∨ ((atV l ((k : Int) - 1)).ver ≤ ver ∧ v = zero)))
end Go.Cat.Vers
namespace Go.Proofs.Ytobndboogafjpaa
open Go.RowKit Go.Cat Go.Cat.Vers

/-- The place of the clean one is told. -/
def ToldK (l : List Ver) (done : Int) (w : World) (e : Ending) (w' : World) : Prop := ∃ k, Cleaned l done k ∧ e = .returned (.int .i64 ((k : Int) - 1)) ∧ Below w.heap.size w w'
theorem ToldK.mk {l : List Ver} {done : Int} {w w' : World} {e : Ending} (k : Nat) (h : Cleaned l done k) (he : e = .returned (.int .i64 ((k : Int) - 1))) (hB : Below w.heap.size w w') : ToldK l done w e w' := ⟨k, h, he, hB⟩

theorem found_cleaned {l : List Ver} {done : Int} {k : Nat} (h1 : k ≤ l.length) (h3 : ∀ i, i < k → decide (done < (l.getD i zero).seq) = false) (h4 : ∀ i, k ≤ i → i < l.length → decide (done < (l.getD i zero).seq) = true) : Cleaned l done k :=
  ⟨h1, fun i hi => by have := h3 i hi; rw [decide_eq_false_iff_not] at this; omega, fun i a b => by have := h4 i a b; rwa [decide_eq_true_iff] at this⟩

theorem clean_any (p : Option Addr) (l : List Ver) (done : Int) (w : World) (hb : Blk w p l) (hs : Small l) (hr : Rising l) :
    Calls Try.prog 30 #[.pointer p, .int .u64 done] w (ToldK l done w) := by
  obtain ⟨W, hW⟩ : ∃ W, W = (w.alloc (.cells #[.pointer p] 26)).alloc (.cells #[.int .u64 done] 22) := ⟨_, rfl⟩
  obtain ⟨k0, k1, k2, k3, hsz, hB⟩ := two_boxes (w := w) (a := #[.pointer p]) (b := #[.int .u64 done]) (t := 26) (u := 22) (Below.refl _ _)
  have hbW : Blk W p l := by rw [hW]; exact (hb.alloc _).alloc _
  have c0 : W.cell? ⟨w.heap.size, 0, none⟩ = some (.pointer p) := by rw [hW, k0]; rfl
  have c1 : W.cell? ⟨w.heap.size + 1, 0, none⟩ = some (.int .u64 done) := by rw [hW, k2]; rfl
  rw [← hW] at hB
  have hsrch := search_clean w.heap.size (w.heap.size + 1) p done l W c0 c1 hbW hs.len (hr.mono_seq done)
  have hlen := len_any p l W hbW
  rw [hW] at hsrch hlen
  have HS := Lib.hid hsrch
  have HL := Lib.hid hlen
  have HW := Lib.hid hW
  have hl := hs.len
  clear hsrch hlen k0 k1 k2 k3 hsz c0 c1 hW hs hr
  go_enter Try.func30, Try.ntmps30
  go_wp2_with fail
  refine (HL.out).mono ?_
  rintro e w1 ⟨rfl, rfl⟩
  go_wp2_with fail
  refine (HS.out).mono ?_
  rintro e w1 ⟨k, h1, rfl, h3, h4, m, rfl⟩
  have hc := found_cleaned h1 h3 h4
  have HC := Lib.hid hc
  clear h3 h4 hc
  go_wp2
  go_ret
  exact ToldK.mk k HC.out (ret_int (by omega)) (below_drewN (by rw [← HW.out]; exact hB) _)

/-- The told version, stored into the result's cell, behind a call in a world with that cell. -/
theorem stored_told {w w1 : World} {v : Ver} {A1 : Option Addr} {c1 : Nat} (ho : w1.ownsRow (w.heap.size + 1) 5 1 (.slice A1 v.data.length c1) v.data.length (v.data.map by8)) (hB : Below w.heap.size w w1) :
    (((w1.setCell ⟨w.heap.size, 0, none⟩ (.int .u64 v.ver)).setCell ⟨w.heap.size, 1, none⟩ (.int .u64 v.seq)).setCell ⟨w.heap.size, 2, none⟩ (.slice A1 v.data.length c1)).ownsRow w.heap.size 5 1 (.slice A1 v.data.length c1) v.data.length (v.data.map by8) ∧
    Below w.heap.size w (((w1.setCell ⟨w.heap.size, 0, none⟩ (.int .u64 v.ver)).setCell ⟨w.heap.size, 1, none⟩ (.int .u64 v.seq)).setCell ⟨w.heap.size, 2, none⟩ (.slice A1 v.data.length c1)) :=
  ⟨own_mono (ownsRow_setCell_below (ownsRow_setCell_below (ownsRow_setCell_below ho (by simp) _) (by simp) _) (by simp) _) (by omega), ((hB.setCell (by simp) _).setCell (by simp) _).setCell (by simp) _⟩

theorem stored_at {w w1 : World} {v : Ver} {A1 : Option Addr} {c1 r base : Nat} (hr : w.heap.size ≤ r) (hb : r < base) (ho : w1.ownsRow base 5 1 (.slice A1 v.data.length c1) v.data.length (v.data.map by8)) (hB : Below w.heap.size w w1) :
    (((w1.setCell ⟨r, 0, none⟩ (.int .u64 v.ver)).setCell ⟨r, 1, none⟩ (.int .u64 v.seq)).setCell ⟨r, 2, none⟩ (.slice A1 v.data.length c1)).ownsRow w.heap.size 5 1 (.slice A1 v.data.length c1) v.data.length (v.data.map by8) ∧
    Below w.heap.size w (((w1.setCell ⟨r, 0, none⟩ (.int .u64 v.ver)).setCell ⟨r, 1, none⟩ (.int .u64 v.seq)).setCell ⟨r, 2, none⟩ (.slice A1 v.data.length c1)) :=
  ⟨own_mono (ownsRow_setCell_below (ownsRow_setCell_below (ownsRow_setCell_below ho hb _) hb _) hb _) (by omega), ((hB.setCell hr _).setCell hr _).setCell hr _⟩

theorem stored_cells {w1 : World} {r : Nat} {x y z a b c : Value} (hr : r < w1.heap.size) (h : ∀ i, w1.cell? ⟨r, i, none⟩ = #[x, y, z][i]?) (o : Obj) :
    ((((w1.setCell ⟨r, 0, none⟩ a).setCell ⟨r, 1, none⟩ b).setCell ⟨r, 2, none⟩ c).alloc o).cell? ⟨r, 0, none⟩ = some a ∧ ((((w1.setCell ⟨r, 0, none⟩ a).setCell ⟨r, 1, none⟩ b).setCell ⟨r, 2, none⟩ c).alloc o).cell? ⟨r, 1, none⟩ = some b ∧
    ((((w1.setCell ⟨r, 0, none⟩ a).setCell ⟨r, 1, none⟩ b).setCell ⟨r, 2, none⟩ c).alloc o).cell? ⟨r, 2, none⟩ = some c := by
  have hs : ∀ i, (⟨r, i, none⟩ : Addr).block < (((w1.setCell ⟨r, 0, none⟩ a).setCell ⟨r, 1, none⟩ b).setCell ⟨r, 2, none⟩ c).heap.size := fun i => by simpa [World.setCell] using hr
  exact ⟨(World.cell?_alloc_lt _ o _ (hs 0)).trans (by simp [go_sem, h]), (World.cell?_alloc_lt _ o _ (hs 1)).trans (by simp [go_sem, h]), (World.cell?_alloc_lt _ o _ (hs 2)).trans (by simp [go_sem, h])⟩

theorem last_any (p : Option Addr) (l : List Ver) (w : World) (hb : Blk w p l) (hs : Small l) :
    Calls Try.prog 12 #[.pointer p] w (ToldV (atV l ((l.length : Int) - 1)) w) := by
  have hl := hs.len
  obtain ⟨v, hv⟩ : ∃ v, v = atV l ((l.length : Int) - 1) := ⟨_, rfl⟩
  rw [← hv]
  have HV := Lib.hid hv
  clear hv
  go_enter Try.func12, Try.ntmps12
  go_wp2_with fail
  refine (len_any p l _ (hb.alloc _)).mono ?_
  rintro e w1 ⟨rfl, rfl⟩
  go_wp2_with fail
  refine (at_any p l _ _ (hb.alloc _) hs).mono ?_
  rintro e w1 ⟨A1, c1, rfl, ho, hB1⟩
  rw [← HV.out] at ho
  rw [← HV.out]
  obtain ⟨k0, k1, hsz, hB2⟩ := one_box hB1
  replace ho : w1.ownsRow (w.heap.size + 1) 5 1 (.slice A1 v.data.length c1) v.data.length (v.data.map by8) := by simpa using ho
  have hst := stored_told ho hB2
  have HSt := Lib.hid hst
  clear hB1 ho hst
  go_wp2
  exact bodyPost_ret (v := .agg #[.int .u64 v.ver, .int .u64 v.seq, .slice A1 v.data.length c1]) (by simp [results, Try.results12, go_sem, k0]) rfl (ToldV.mk A1 c1 rfl HSt.out.1 HSt.out.2)

/-- The clean version is told. -/
def ToldC (l : List Ver) (done : Int) (w : World) (e : Ending) (w' : World) : Prop := ∃ k, Cleaned l done k ∧ ToldV (atV l ((k : Int) - 1)) w e w'
theorem ToldC.mk {l : List Ver} {done : Int} {w w' : World} {e : Ending} (k : Nat) (h : Cleaned l done k) (ht : ToldV (atV l ((k : Int) - 1)) w e w') : ToldC l done w e w' := ⟨k, h, ht⟩

theorem cleanV_any (p : Option Addr) (l : List Ver) (done : Int) (w : World) (hb : Blk w p l) (hs : Small l) (hr : Rising l) :
    Calls Try.prog 13 #[.pointer p, .int .u64 done] w (ToldC l done w) := by
  have hl := hs.len
  go_enter Try.func13, Try.ntmps13
  go_wp2_with fail
  refine (clean_any p l done _ (hb.alloc _) hs hr).mono ?_
  rintro e w0 ⟨k, hk, rfl, hB0⟩
  have hb0 := (hb.alloc _).below hB0
  have HK := Lib.hid hk
  have hkl := hk.le
  obtain ⟨v, hv⟩ : ∃ v, v = atV l ((k : Int) - 1) := ⟨_, rfl⟩
  have HV := Lib.hid hv
  clear hk hv hr
  go_wp2_with fail
  refine (at_any p l _ _ hb0 hs).mono ?_
  rintro e w1 ⟨A1, c1, rfl, ho, hB1⟩
  rw [← HV.out] at ho
  rw [← HV.out]
  replace hB1 := hB0.trans (hB1.mono hB0.size)
  replace ho := own_mono ho hB0.size
  obtain ⟨k0, k1, hsz, hB2⟩ := one_box hB1
  replace ho : w1.ownsRow (w.heap.size + 1) 5 1 (.slice A1 v.data.length c1) v.data.length (v.data.map by8) := by simpa using ho
  have hst := stored_told ho hB2
  have HSt := Lib.hid hst
  clear hB1 ho hst hB0 hb0
  go_wp2
  exact bodyPost_ret (v := .agg #[.int .u64 v.ver, .int .u64 v.seq, .slice A1 v.data.length c1]) (by simp [results, Try.results13, go_sem, k0]) rfl (ToldC.mk k HK.out (by rw [← HV.out]; exact ToldV.mk A1 c1 rfl HSt.out.1 HSt.out.2))

def dirty (l : List Ver) (done : Int) : Bool := decide (0 < l.length) && decide (done < (atV l ((l.length : Int) - 1)).seq)

theorem dirty_any (p : Option Addr) (l : List Ver) (done : Int) (w : World) (hb : Blk w p l) (hs : Small l) :
    Calls Try.prog 14 #[.pointer p, .int .u64 done] w fun e w' => e = .returned (.bool (dirty l done)) ∧ Below w.heap.size w w' := by
  have hl := hs.len
  have hlen := len_any p l w hb
  by_cases h0 : l.length = 0
  · have hd : dirty l done = false := by simp [dirty, h0]
    rw [hd]
    have d0 : decide (0 < l.length) = false := by simp [h0]
    have HL := Lib.hid hlen
    clear hlen hd h0
    go_enter Try.func14, Try.ntmps14
    go_wp2_with (go_at_call 18; refine (HL.out).mono ?_; rintro e w1 ⟨rfl, rfl⟩)
    go_ret
    exact ⟨rfl, Below.refl _ _⟩
  · obtain ⟨n, hn⟩ : ∃ n, l.length = n + 1 := ⟨l.length - 1, by omega⟩
    rcases hb with ⟨rfl, rfl⟩ | ⟨g, A, c, rfl, hc, hlc, hv⟩
    · simp at hn
    · obtain ⟨b, off, A', c', rfl, hbs, e0, e1, e2, e3⟩ := hv.at_ (k := n) (by omega)
      have hd : dirty l done = decide (done < (l[n]'(by omega)).seq) := by
        unfold dirty
        rw [show ((l.length : Int) - 1) = ((n : Nat) : Int) from by omega, atV_in (by omega)]
        simp [hn]
      rw [hd]
      obtain ⟨v, hvk⟩ : ∃ v, v = l[n]'(by omega) := ⟨_, rfl⟩
      rw [← hvk] at e1 ⊢
      rw [hn] at hlen hc
      have d0 : decide (0 < n + 1) = true := by simp
      have HL := Lib.hid hlen
      clear hlen hd h0 hvk hv e0 e2 e3 hlc
      have hn2 : n ≤ 65536 := by omega
      have HN := Lib.hid hn
      clear hn hl hs
      go_enter Try.func14, Try.ntmps14
      go_wp2_with (go_at_call 18; refine (HL.out).mono ?_; rintro e w1 ⟨rfl, rfl⟩)
      go_ret
      exact ⟨rfl, Below.refl _ _⟩

/-- The picked version is told. -/
def ToldP (l : List Ver) (ver done : Int) (w : World) (e : Ending) (w' : World) : Prop := ∃ v, Picked l ver done v ∧ ToldV v w e w'
theorem ToldP.mk {l : List Ver} {ver done : Int} {w w' : World} {e : Ending} (v : Ver) (h : Picked l ver done v) (ht : ToldV v w e w') : ToldP l ver done w e w' := ⟨v, h, ht⟩

theorem found_pick {l : List Ver} {ver : Int} {k : Nat} (hpos : ∀ v ∈ l, 0 < v.ver) (hr : Rising l) (h1 : k ≤ l.length) (h3 : ∀ i, i < k → decide (ver ≤ (l.getD i zero).ver) = false) (h4 : ∀ i, k ≤ i → i < l.length → decide (ver ≤ (l.getD i zero).ver) = true) :
    ((atV l (k : Int)).ver = ver ∧ (atV l (k : Int) ∈ l ∨ (l = [] ∧ ver = 0 ∧ atV l (k : Int) = zero))) ∨ ((atV l (k : Int)).ver ≠ ver ∧ ∀ u ∈ l, u.ver ≠ ver) := by
  by_cases he : (atV l (k : Int)).ver = ver
  · left
    refine ⟨he, ?_⟩
    by_cases hk : k < l.length
    · left; rw [atV_in hk]; exact List.getElem_mem hk
    · right
      have hz : atV l (k : Int) = zero := atV_big (by omega)
      rw [hz] at he
      have he : ver = 0 := he.symm
      refine ⟨?_, he, hz⟩
      cases l with
      | nil => rfl
      | cons a l =>
        have := h3 0 (by simp at hk; omega)
        simp at this
        have hp := hpos a (by simp)
        omega
  · right
    refine ⟨he, fun u hu hv => ?_⟩
    obtain ⟨i, hi, rfl⟩ := List.getElem_of_mem hu
    have hg : l.getD i zero = l[i] := by simp [List.getD_eq_getElem?_getD, hi]
    rcases Nat.lt_trichotomy i k with hlt | heq | hgt
    · have := h3 i hlt
      rw [hg, decide_eq_false_iff_not] at this
      omega
    · subst heq
      rw [atV_in hi] at he
      exact he hv
    · have hk : k < l.length := by omega
      have h5 := (hr k i hgt hi).2
      have h6 := h4 k (Nat.le_refl _) hk
      rw [decide_eq_true_iff] at h6
      rw [hg] at h5
      omega

set_option maxRecDepth 100000 in
theorem pick_any (p : Option Addr) (l : List Ver) (ver done : Int) (w : World) (hb : Blk w p l) (hs : Small l) (hr : Rising l) (hpos : ∀ v ∈ l, 0 < v.ver) :
    Calls Try.prog 25 #[.pointer p, .int .u64 ver, .int .u64 done] w (ToldP l ver done w) := by
  obtain ⟨W, hW⟩ : ∃ W, W = ((w.alloc (.cells #[.pointer p] 26)).alloc (.cells #[.int .u64 ver] 22)).alloc (.cells #[.int .u64 0, .int .u64 0, .slice none 0 0] 29) := ⟨_, rfl⟩
  obtain ⟨k0, k1, k2, k3, k4, k5, hsz, hB⟩ := three_boxes (w := w) (a := #[.pointer p]) (b := #[.int .u64 ver]) (c := #[.int .u64 0, .int .u64 0, .slice none 0 0]) (t := 26) (u := 22) (v := 29) (Below.refl _ _)
  have hbW : Blk W p l := by rw [hW]; exact ((hb.alloc _).alloc _).alloc _
  have c0 : W.cell? ⟨w.heap.size, 0, none⟩ = some (.pointer p) := by rw [hW, k0]; rfl
  have c1 : W.cell? ⟨w.heap.size + 1, 0, none⟩ = some (.int .u64 ver) := by rw [hW, k2]; rfl
  rw [← hW] at hB
  have hsrch := search_pick w.heap.size (w.heap.size + 1) p ver l W c0 c1 hbW hs.len (hr.mono_ver ver)
  have hlen := len_any p l W hbW
  have hl := hs.len
  clear k0 k1 k2 k3 k4 k5 c0 c1
  rw [hW] at hsrch hlen
  have HS := Lib.hid hsrch
  have HL := Lib.hid hlen
  have HW := Lib.hid hW
  have HR := Lib.hid hr
  have HP := Lib.hid hpos
  clear hsrch hlen hsz hW hr hpos
  go_enter Try.func25, Try.ntmps25
  go_wp2_with fail
  refine (HL.out).mono ?_
  rintro e w1 ⟨rfl, rfl⟩
  go_wp2_with fail
  refine (HS.out).mono ?_
  rintro e w1 ⟨k, h1, rfl, h3, h4, m, rfl⟩
  have hfd := found_pick HP.out HR.out h1 h3 h4
  have HF := Lib.hid hfd
  clear h3 h4 hfd
  obtain ⟨k0, k1, k2, k3, k4, k5, hsz, hB0⟩ := three_boxes (w := w) (a := #[.pointer p]) (b := #[.int .u64 ver]) (c := #[.int .u64 0, .int .u64 0, .slice none 0 0]) (t := 26) (u := 22) (v := 29) (below_drewN (Below.refl _ _) m)
  have hb0 : Blk ((((w.alloc (.cells #[.pointer p] 26)).alloc (.cells #[.int .u64 ver] 22)).alloc (.cells #[.int .u64 0, .int .u64 0, .slice none 0 0] 29)).drewN m) p l := (((hb.alloc _).alloc _).alloc _).drewN m
  obtain ⟨v1, hv1⟩ : ∃ v, v = atV l (k : Int) := ⟨_, rfl⟩
  have HV1 := Lib.hid hv1
  clear hv1 HW hB hbW
  go_wp2_with fail
  refine (at_any p l (k : Int) _ hb0 hs).mono ?_
  rintro e w1 ⟨A1, c1, rfl, ho1, hB1⟩
  rw [← HV1.out] at ho1
  rw [← HV1.out]
  obtain ⟨r0, r1, r2, r3, r4, r5, hsz1, hBB⟩ := three_boxes (w := w) (a := #[.pointer p]) (b := #[.int .u64 ver]) (c := #[.int .u64 0, .int .u64 0, .slice none 0 0]) (t := 26) (u := 22) (v := 29) ((below_drewN (Below.refl _ _) m).trans hB1)
  have hb1 := hb0.below hB1
  have q0 := fun o => (World.cell?_alloc_lt w1 o ⟨w.heap.size, 0, none⟩ (by show w.heap.size < _; omega)).trans (r0 0)
  have q1 := fun o => (World.cell?_alloc_lt w1 o ⟨w.heap.size + 1, 0, none⟩ (by show w.heap.size + 1 < _; omega)).trans (r2 0)
  replace ho1 := own_mono ho1 (show w.heap.size + 2 + 1 ≤ _ by simp)
  clear k0 k1 k2 k3 k4 k5 hsz hB0 hb0 r0 r1 r2 r3 hB1
  have hdat : Bytes w1 A1 v1.data := Sees.of_own ho1
  by_cases he : v1.ver = ver
  · have t1 : (v1.ver == ver) = true := by simpa using he
    have HE := Lib.hid he
    clear he
    have hst := stored_at (r := w.heap.size + 1 + 1) (by omega) (by omega) ho1 hBB
    have HSt := Lib.hid hst
    have hgs := fun o => stored_cells (a := .int .u64 v1.ver) (b := .int .u64 v1.seq) (c := .slice A1 v1.data.length c1) hsz1 r4 o
    have HG := Lib.hid hgs
    clear hst ho1 hgs
    go_wp2_with fail
    obtain ⟨g0, g1, g2⟩ := HG.out (.cells #[.int .u64 v1.ver, .int .u64 v1.seq, .slice A1 v1.data.length c1] 29)
    refine bodyPost_ret (v := .agg #[.int .u64 v1.ver, .int .u64 v1.seq, .slice A1 v1.data.length c1]) (by simp [results, Try.results25, go_sem, g0, g1, g2]) rfl (ToldP.mk v1 ?_ (ToldV.mk A1 c1 rfl ?_ ?_))
    · rcases HF.out with ⟨_, hin | ⟨h2, h3, h4⟩⟩ | ⟨hne, _⟩
      · rw [HV1.out]; rw [HV1.out] at HE; exact .inl ⟨hin, HE.out⟩
      · rw [HV1.out, h2, h3]
        exact .inr ⟨by simp, 0, ⟨by simp, by simp, by simp⟩, .inr ⟨by rw [atV_neg (by omega)]; exact Int.le_refl _, atV_big (by simp)⟩⟩
      · exact absurd (by rw [← HV1.out]; exact HE.out) hne
    · exact ownsRow_upd HSt.out.1 (Upd.alloc (S := []) (Upd.refl 0 [] _) _) (by simp)
    · exact HSt.out.2.alloc (by have := HSt.out.2.size; omega) _
  · have t1 : (v1.ver == ver) = false := by simpa using he
    have HE := Lib.hid he
    have hno : ∀ u ∈ l, u.ver ≠ ver := by
      rcases HF.out with ⟨h2, _⟩ | ⟨_, h2⟩
      · exact absurd (by rw [HV1.out]; exact h2) he
      · exact h2
    have NO := Lib.hid hno
    clear he hno
    have hb2 : Blk (w1.alloc (.cells #[.int .u64 v1.ver, .int .u64 v1.seq, .slice A1 v1.data.length c1] 29)) p l := hb1.alloc _
    have hB2 : Below w.heap.size w (w1.alloc (.cells #[.int .u64 v1.ver, .int .u64 v1.seq, .slice A1 v1.data.length c1] 29)) := hBB.alloc (by have := hBB.size; omega) _
    have q4 := fun o i => (World.cell?_alloc_lt w1 o ⟨w.heap.size + 1 + 1, i, none⟩ (by show w.heap.size + 1 + 1 < _; omega)).trans (r4 i)
    have hW2 := q4 (.cells #[.int .u64 v1.ver, .int .u64 v1.seq, .slice A1 v1.data.length c1] 29)
    have f4 : (w1.alloc (.cells #[.int .u64 v1.ver, .int .u64 v1.seq, .slice A1 v1.data.length c1] 29)).heap[w.heap.size + 1 + 1]? = w1.heap[w.heap.size + 1 + 1]? := Below.heap_alloc _ _ _ hsz1
    have u0 := q0 (.cells #[.int .u64 v1.ver, .int .u64 v1.seq, .slice A1 v1.data.length c1] 29)
    have u1 := q1 (.cells #[.int .u64 v1.ver, .int .u64 v1.seq, .slice A1 v1.data.length c1] 29)
    have U0 := Lib.hid u0
    have U1 := Lib.hid u1
    have HW2 := Lib.hid hW2
    have HF4 := Lib.hid f4
    have H4 := Lib.hid r4
    have H5 := Lib.hid r5
    clear q4 hW2 f4 r4 u0 u1 r5
    go_wp2_with fail
    obtain ⟨w2, hw2⟩ : ∃ w2, w2 = (w1.alloc (.cells #[.int .u64 v1.ver, .int .u64 v1.seq, .slice A1 v1.data.length c1] 29)) := ⟨_, rfl⟩
    have hsz2 : w1.heap.size < w2.heap.size := by rw [hw2]; simp
    rw [← hw2] at hb2 hB2 U0 U1 HW2 HF4 ⊢
    have HSM := Lib.hid hw2
    clear q0 q1 hw2
    refine (cleanV_any p l done _ hb2 hs HR.out).mono ?_
    rintro e w3 ⟨kc, hkc, A3, c3, rfl, ho3, hB3⟩
    obtain ⟨v3, hv3⟩ : ∃ v3, v3 = atV l ((kc : Int) - 1) := ⟨_, rfl⟩
    rw [← hv3] at ho3 ⊢
    have HK := Lib.hid hkc
    have HV3 := Lib.hid hv3
    have hr3 : w.heap.size + 1 + 1 < w3.heap.size := by have := hB3.size; omega
    have hr2 : w.heap.size + 1 + 1 < w2.heap.size := by omega
    have hc3 : ∀ i, w3.cell? ⟨w.heap.size + 1 + 1, i, none⟩ = #[.int .u64 0, .int .u64 0, .slice none 0 0][i]? := fun i => (hB3.cell hr2).trans (HW2.out i)
    have m0 := (hB3.cell (p := ⟨w.heap.size, 0, none⟩) (by show w.heap.size < _; omega)).trans U0.out
    have m1 := (hB3.cell (p := ⟨w.heap.size + 1, 0, none⟩) (by show w.heap.size + 1 < _; omega)).trans U1.out
    have hfr : w3.heap[w.heap.size + 1 + 1]? = w1.heap[w.heap.size + 1 + 1]? := (hB3.block _ hr2).trans HF4.out
    have hBB3 : Below w.heap.size w w3 := hB2.trans (hB3.mono hB2.size)
    have r5 : ∀ i, w3.frozen? ⟨w.heap.size + 1 + 1, i, none⟩ = false := fun i => by have := H5.out i; unfold World.frozen? at this ⊢; rw [hfr]; exact this
    have q0 := fun o => (World.cell?_alloc_lt w3 o ⟨w.heap.size, 0, none⟩ (by show w.heap.size < _; omega)).trans m0
    have q1 := fun o => (World.cell?_alloc_lt w3 o ⟨w.heap.size + 1, 0, none⟩ (by show w.heap.size + 1 < _; omega)).trans m1
    have r4 := hc3
    replace ho3 := own_mono ho3 (show w.heap.size + 2 + 1 ≤ _ by omega)
    by_cases hgt : ver < v3.ver
    · have t3 : decide (ver < v3.ver) = true := by simpa using hgt
      have HGt := Lib.hid hgt
      have hst := stored_at (r := w.heap.size + 1 + 1) (by omega) (by omega) ho3 hBB3
      have HSt := Lib.hid hst
      have hgs := fun o => stored_cells (a := .int .u64 v3.ver) (b := .int .u64 v3.seq) (c := .slice A3 v3.data.length c3) hr3 hc3 o
      have HG := Lib.hid hgs
      clear hst ho3 hgs hkc hv3 hc3 hfr hgt
      go_wp2_with fail
      obtain ⟨g0, g1, g2⟩ := HG.out (.cells #[.int .u64 v3.ver, .int .u64 v3.seq, .slice A3 v3.data.length c3] 29)
      refine bodyPost_ret (v := .agg #[.int .u64 v3.ver, .int .u64 v3.seq, .slice A3 v3.data.length c3]) (by simp [results, Try.results25, go_sem, g0, g1, g2]) rfl (ToldP.mk v3 ?_ (ToldV.mk A3 c3 rfl ?_ ?_))
      · exact .inr ⟨NO.out, kc, HK.out, .inl ⟨by rw [← HV3.out]; exact HGt.out, HV3.out⟩⟩
      · exact ownsRow_upd HSt.out.1 (Upd.alloc (S := []) (Upd.refl 0 [] _) _) (by simp)
      · exact HSt.out.2.alloc (by have := HSt.out.2.size; omega) _
    · have t3 : decide (ver < v3.ver) = false := by simpa using hgt
      have HGt := Lib.hid hgt
      have hgs := fun o => stored_cells (a := .int .u64 0) (b := .int .u64 0) (c := .slice none 0 0) hr3 hc3 o
      have HG := Lib.hid hgs
      clear hgs hkc hv3 hc3 hfr hgt
      go_wp2_with fail
      obtain ⟨g0, g1, g2⟩ := HG.out (.cells #[.int .u64 v3.ver, .int .u64 v3.seq, .slice A3 v3.data.length c3] 29)
      have hnone : w3.ownsRow (w.heap.size + 1 + 1 + 1) 5 1 (.slice none zero.data.length 0) zero.data.length (zero.data.map by8) := World.ownsRow_nil _ _ _ _
      have hst := stored_at (w := w) (v := zero) (r := w.heap.size + 1 + 1) (by omega) (by omega) hnone hBB3
      refine bodyPost_ret (v := .agg #[.int .u64 0, .int .u64 0, .slice none 0 0]) (by simp [results, Try.results25, go_sem, g0, g1, g2]) rfl (ToldP.mk zero ?_ (ToldV.mk none 0 rfl ?_ ?_))
      · exact .inr ⟨NO.out, kc, HK.out, .inr ⟨by rw [← HV3.out]; have := HGt.out; omega, rfl⟩⟩
      · exact ownsRow_upd hst.1 (Upd.alloc (S := []) (Upd.refl 0 [] _) _) (by simp)
      · exact hst.2.alloc (by have := hst.2.size; omega) _
end Go.Proofs.Ytobndboogafjpaa
