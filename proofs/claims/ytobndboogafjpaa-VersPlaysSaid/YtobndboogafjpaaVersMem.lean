/- Versions in memory: what it is that a slice shows versions, a pointer a block of them; and the contracts of own, Len and at. Condition: at most 65536 versions of at most 65536 bytes. -/
import Derived.Test.YtobndboogafjpaaClone
import Derived.Test.YtobndboogafjpaaVersPure
namespace Go.Cat.Vers
open Go.RowKit

/-- A version's three cells; where its bytes lie. -/
def cells (r : Ver × Option Addr × Nat) : List Value := [.int .u64 r.1.ver, .int .u64 r.1.seq, .slice r.2.1 r.1.data.length r.2.2]
def rows (rs : List (Ver × Option Addr × Nat)) : List Value := rs.flatMap cells

theorem rows_length (rs : List (Ver × Option Addr × Nat)) : (rows rs).length = rs.length * 3 := by
  induction rs with
  | nil => rfl
  | cons r rs ih => simp only [rows, List.flatMap_cons, List.length_append, List.length_cons] at ih ⊢; rw [ih]; simp [cells]; omega
theorem rows_append (a b : List (Ver × Option Addr × Nat)) : rows (a ++ b) = rows a ++ rows b := by simp [rows]
theorem rows_at {rs : List (Ver × Option Addr × Nat)} {k j : Nat} (hk : k < rs.length) (hj : j < 3) : (rows rs)[k * 3 + j]? = (cells rs[k])[j]? := by
  induction rs generalizing k with
  | nil => simp at hk
  | cons r rs ih =>
    have e : rows (r :: rs) = cells r ++ rows rs := by simp [rows]
    rw [e]
    cases k with
    | zero => rw [List.getElem?_append_left (by simp [cells]; omega)]; simp
    | succ k =>
      rw [List.getElem?_append_right (by simp [cells]; omega), show (k + 1) * 3 + j - (cells r).length = k * 3 + j from by simp [cells]; omega, ih (by simpa using hk)]
      simp

/-- The slice shows the versions. -/
def VersR (w : World) (A : Option Addr) (l : List Ver) : Prop :=
  ∃ rs : List (Ver × Option Addr × Nat), rs.map (·.1) = l ∧ Sees w A (rows rs) ∧ ∀ r ∈ rs, Bytes w r.2.1 r.1.data

/-- The pointer leads to a block of these versions; nil is a block of none. -/
def Blk (w : World) (p : Option Addr) (l : List Ver) : Prop :=
  (p = none ∧ l = []) ∨ ∃ g A c, p = some ⟨g, 0, none⟩ ∧ w.cell? ⟨g, 0, none⟩ = some (.slice A l.length c) ∧ l.length ≤ c ∧ VersR w A l

structure Small (l : List Ver) : Prop where
  len : l.length ≤ 65536
  data : ∀ v ∈ l, v.data.length ≤ 65536

section
variable {w w' : World} {A p : Option Addr} {l : List Ver}
theorem VersR.below (h : VersR w A l) (hb : Below w.heap.size w w') : VersR w' A l := by
  obtain ⟨rs, h1, h2, h3⟩ := h
  exact ⟨rs, h1, h2.below hb, fun r hr => (h3 r hr).below hb⟩
theorem Blk.below (h : Blk w p l) (hb : Below w.heap.size w w') : Blk w' p l := by
  rcases h with h | ⟨g, A, c, hp, hc, hl, hv⟩
  · exact .inl h
  · exact .inr ⟨g, A, c, hp, (hb.cell (World.block_lt_of_cell? w _ hc)).trans hc, hl, hv.below hb⟩
theorem VersR.drew (h : VersR w A l) : VersR w.drew A l := h.below (Below.refl _ _).drew
theorem Blk.alloc (h : Blk w p l) (o : Obj) : Blk (w.alloc o) p l := h.below ((Below.refl _ _).alloc (Nat.le_refl _) o)
theorem Blk.drewN (h : Blk w p l) (n : Nat) : Blk (w.drewN n) p l := h.below (below_drewN (Below.refl _ _) n)

theorem VersR.at_ (h : VersR w A l) {k : Nat} (hk : k < l.length) : ∃ b off A' c', A = some ⟨b, off, none⟩ ∧ b < w.heap.size ∧
    w.cell? ⟨b, off + k * 3, none⟩ = some (.int .u64 l[k].ver) ∧ w.cell? ⟨b, off + k * 3 + 1, none⟩ = some (.int .u64 l[k].seq) ∧ w.cell? ⟨b, off + k * 3 + 2, none⟩ = some (.slice A' l[k].data.length c') ∧ Bytes w A' l[k].data := by
  obtain ⟨rs, h1, h2, h3⟩ := h
  have hrl : rs.length = l.length := by rw [← h1]; simp
  have hkr : k < rs.length := by omega
  rcases h2 with h2 | ⟨b, off, hA, hc⟩
  · have := rows_length rs; rw [h2] at this; simp at this; omega
  · have e : rs[k].1 = l[k] := by simp [← h1]
    have g0 := hc (k * 3 + 0) _ ((rows_at hkr (by omega)).trans rfl)
    have g1 := hc (k * 3 + 1) _ ((rows_at hkr (by omega)).trans rfl)
    have g2 := hc (k * 3 + 2) _ ((rows_at hkr (by omega)).trans rfl)
    rw [e] at g0 g1 g2
    have hd := h3 rs[k] (List.getElem_mem hkr)
    rw [e] at hd
    refine ⟨b, off, rs[k].2.1, rs[k].2.2, hA, World.block_lt_of_cell? w _ g0, by simpa using g0, by rw [Nat.add_assoc]; exact g1, by rw [Nat.add_assoc]; exact g2, hd⟩
end
end Go.Cat.Vers
namespace Go.Proofs.Ytobndboogafjpaa
open Go.RowKit Go.Cat Go.Cat.Vers

/-- A version is told, its bytes in new memory. -/
def ToldV (v : Ver) (w : World) (e : Ending) (w' : World) : Prop :=
  ∃ A' c', e = .returned (.agg #[.int .u64 v.ver, .int .u64 v.seq, .slice A' v.data.length c']) ∧ w'.ownsRow w.heap.size 5 1 (.slice A' v.data.length c') v.data.length (v.data.map by8) ∧ Below w.heap.size w w'
theorem ToldV.mk {v : Ver} {w w' : World} {e : Ending} (A' : Option Addr) (c' : Nat) (he : e = .returned (.agg #[.int .u64 v.ver, .int .u64 v.seq, .slice A' v.data.length c'])) (ho : w'.ownsRow w.heap.size 5 1 (.slice A' v.data.length c') v.data.length (v.data.map by8)) (hB : Below w.heap.size w w') : ToldV v w e w' := ⟨A', c', he, ho, hB⟩

theorem own_any (A : Option Addr) (n c : Nat) (v : Ver) (w : World) (hb : Bytes w A v.data) (hn : n = v.data.length) (hm : v.data.length ≤ 65536) :
    Calls Try.prog 29 #[.agg #[.int .u64 v.ver, .int .u64 v.seq, .slice A n c]] w (ToldV v w) := by
  go_enter Try.func29, Try.ntmps29
  go_wp2_with fail
  refine (clone_any A v.data.length c v.data _ ((hb.alloc _).alloc _) rfl (by omega)).mono ?_
  rintro e w1 ⟨A1, c1, rfl, hown, hB⟩
  obtain ⟨k0, k1, k2, k3, hsz, hB1⟩ := two_boxes hB
  have ho1 : w1.ownsRow (w.heap.size + 1 + 1) 5 1 (.slice A1 v.data.length c1) v.data.length (v.data.map by8) := by simpa using hown
  clear hown hB
  go_wp2
  refine bodyPost_ret (v := .agg #[.int .u64 v.ver, .int .u64 v.seq, .slice A1 v.data.length c1]) (by simp [results, Try.results29, go_sem, k2]) rfl (ToldV.mk A1 c1 rfl ?_ ?_)
  · exact own_mono (ownsRow_setCell_below (ownsRow_setCell_below (ownsRow_setCell_below (ownsRow_setCell_below ho1 (by simp; omega) _) (by simp) _) (by simp) _) (by simp) _) (by omega)
  · exact (((hB1.setCell (by simp) _).setCell (by simp) _).setCell (by simp) _).setCell (by simp) _

theorem len_any (p : Option Addr) (l : List Ver) (w : World) (hb : Blk w p l) :
    Calls Try.prog 18 #[.pointer p] w fun e w' => e = .returned (.int .i64 (l.length : Int)) ∧ w = w' := by
  rcases hb with ⟨rfl, rfl⟩ | ⟨g, A, c, rfl, hc, hl, hv⟩
  · go_enter Try.func18, Try.ntmps18
    go_wp2
    go_ret
    exact ⟨rfl, rfl⟩
  · go_enter Try.func18, Try.ntmps18
    go_wp2
    go_ret
    exact ⟨rfl, rfl⟩

theorem at_any (p : Option Addr) (l : List Ver) (i : Int) (w : World) (hb : Blk w p l) (hs : Small l) :
    Calls Try.prog 32 #[.pointer p, .int .i64 i] w (ToldV (atV l i) w) := by
  have zero_own : ∀ W : World, W.ownsRow w.heap.size 5 1 (.slice none ([] : List UInt8).length 0) ([] : List UInt8).length (([] : List UInt8).map by8) := fun W => World.ownsRow_nil _ _ _ _
  rcases hb with ⟨rfl, rfl⟩ | ⟨g, A, c, rfl, hc, hl, hv⟩
  · have hz : atV [] i = zero := by
      by_cases h : i < 0
      · exact atV_neg h
      · exact atV_big (by simp; omega)
    rw [hz]
    go_enter Try.func32, Try.ntmps32
    go_wp2
    refine bodyPost_ret (v := .agg #[.int .u64 0, .int .u64 0, .slice none 0 0]) (by simp [results, Try.results32, go_sem]) rfl (ToldV.mk none 0 rfl (zero_own _) ?_)
    exact (Below.refl _ _).alloc (Nat.le_refl _) _
  · have hg := World.block_lt_of_cell? w _ hc
    have hcA := fun o => (World.cell?_alloc_lt w o ⟨g, 0, none⟩ hg).trans hc
    have hB0 : Below w.heap.size w (w.alloc (.cells #[.int .u64 0, .int .u64 0, .slice none 0 0] 29)) := (Below.refl _ _).alloc (Nat.le_refl _) _
    by_cases h0 : i < 0
    · rw [atV_neg h0]
      go_enter Try.func32, Try.ntmps32
      go_wp2
      refine bodyPost_ret (v := .agg #[.int .u64 0, .int .u64 0, .slice none 0 0]) (by simp [results, Try.results32, go_sem]) rfl (ToldV.mk none 0 rfl (zero_own _) ?_)
      exact hB0
    · have d0 : decide (i < 0) = false := by simpa using h0
      by_cases h1 : (l.length : Int) ≤ i
      · rw [atV_big h1]
        go_enter Try.func32, Try.ntmps32
        go_wp2
        refine bodyPost_ret (v := .agg #[.int .u64 0, .int .u64 0, .slice none 0 0]) (by simp [results, Try.results32, go_sem]) rfl (ToldV.mk none 0 rfl (zero_own _) ?_)
        exact hB0
      · have d1 : decide ((l.length : Int) ≤ i) = false := by simpa using h1
        obtain ⟨k, rfl⟩ := Int.eq_ofNat_of_zero_le (by omega : 0 ≤ i)
        have hk : k < l.length := by omega
        rw [atV_in hk]
        obtain ⟨b, off, A', c', rfl, hbs, e0, e1, e2, hd⟩ := hv.at_ hk
        obtain ⟨v, hvk⟩ : ∃ v, v = l[k] := ⟨_, rfl⟩
        rw [← hvk] at e0 e1 e2 hd ⊢
        have hdl : v.data.length ≤ 65536 := by rw [hvk]; exact hs.data _ (List.getElem_mem hk)
        have hkI : (k : Int) < (l.length : Int) := by omega
        have E0 := fun o => (World.cell?_alloc_lt w o _ hbs).trans e0
        have E1 := fun o => (World.cell?_alloc_lt w o _ hbs).trans e1
        have E2 := fun o => (World.cell?_alloc_lt w o _ hbs).trans e2
        clear e0 e1 e2 hc
        clear hvk h0 h1 hv hs
        go_enter Try.func32, Try.ntmps32
        go_wp2_with fail
        refine (own_any A' v.data.length c' v _ (hd.alloc _) rfl hdl).mono ?_
        rintro e w1 ⟨A1, c1, rfl, ho, hB1⟩
        obtain ⟨k0, k1, hsz, hB2⟩ := one_box hB1
        have ho1 : w1.ownsRow (w.heap.size + 1) 5 1 (.slice A1 v.data.length c1) v.data.length (v.data.map by8) := by simpa using ho
        clear ho hB1
        go_wp2
        refine bodyPost_ret (v := .agg #[.int .u64 v.ver, .int .u64 v.seq, .slice A1 v.data.length c1]) (by simp [results, Try.results32, go_sem, k0]) rfl (ToldV.mk A1 c1 rfl ?_ ?_)
        · exact own_mono (ownsRow_setCell_below (ownsRow_setCell_below (ownsRow_setCell_below ho1 (by simp) _) (by simp) _) (by simp) _) (by omega)
        · exact ((hB2.setCell (by simp) _).setCell (by simp) _).setCell (by simp) _
end Go.Proofs.Ytobndboogafjpaa
