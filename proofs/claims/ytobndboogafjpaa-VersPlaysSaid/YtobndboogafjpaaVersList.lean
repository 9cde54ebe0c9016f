/- The contract of List: a new row of versions in new memory. Condition: at most 65536 versions of at most 65536 bytes. -/
import Derived.Test.YtobndboogafjpaaVersPutOk
import Derived.OwnWalk
namespace Go.Proofs.Ytobndboogafjpaa
open Go.RowKit Go.Cat Go.Cat.Vers

theorem rows_set (rs : List (Ver × Option Addr × Nat)) (i : Nat) (r : Ver × Option Addr × Nat) (hi : i < rs.length) :
    rows (rs.set i r) = (((rows rs).set (i * 3) (.int .u64 r.1.ver)).set (i * 3 + 1) (.int .u64 r.1.seq)).set (i * 3 + 2) (.slice r.2.1 r.1.data.length r.2.2) := by
  induction rs generalizing i with
  | nil => simp at hi
  | cons a rs ih =>
    have e : ∀ x xs, rows (x :: xs) = cells x ++ rows xs := by simp [rows]
    cases i with
    | zero => simp [e, cells]
    | succ i =>
      rw [List.set_cons_succ, e, ih i (by simpa using hi), e]
      simp only [cells, Nat.succ_mul, List.cons_append, List.nil_append]
      rw [show i * 3 + 3 = (i * 3) + 1 + 1 + 1 from by omega, show i * 3 + 1 + 1 + 1 + 1 = (i * 3 + 1) + 1 + 1 + 1 from by omega, show i * 3 + 1 + 1 + 1 + 2 = (i * 3 + 2) + 1 + 1 + 1 from by omega]
      simp only [List.set_cons_succ]

theorem rows_zero (n : Nat) : (madeCells #[.int .u64 0, .int .u64 0, .slice none 0 0] (n * 3)).toList = rows (List.replicate n (zero, none, 0)) := by
  apply List.ext_getElem?
  intro j
  by_cases hj : j < n * 3
  · have hk : j / 3 < (List.replicate n ((zero, none, 0) : Ver × Option Addr × Nat)).length := by simp; omega
    have h := rows_at hk (j := j % 3) (by omega)
    rw [show j / 3 * 3 + j % 3 = j from by omega] at h
    rw [h]
    simp only [List.getElem_replicate, cells, zero]
    have h3 : j % 3 = 0 ∨ j % 3 = 1 ∨ j % 3 = 2 := by omega
    simp [madeCells, hj]
    rcases h3 with h3 | h3 | h3 <;> simp [h3]
  · rw [List.getElem?_eq_none (by simp [madeCells]; omega), List.getElem?_eq_none (by rw [rows_length]; simp; omega)]

/-- A version's bytes are in memory of the call's own. -/
def OwnD (base : Nat) (w : World) (r : Ver × Option Addr × Nat) : Prop := w.ownsRow base 5 1 (.slice r.2.1 r.1.data.length r.2.2) r.1.data.length (r.1.data.map by8)

/-- A row of versions of the call's own, their bytes too. -/
def ToldList (l : List Ver) (w : World) (e : Ending) (w' : World) : Prop :=
  ∃ rs A c, e = .returned (.slice A l.length c) ∧ rs.map (·.1) = l ∧ w'.ownsRow w.heap.size 29 3 (.slice A l.length c) l.length (rows rs) ∧ (∀ r ∈ rs, OwnD w.heap.size w' r) ∧ Below w.heap.size w w'

theorem own_apart {w : World} {b1 b2 s1 s2 n1 n2 k : Nat} {e1 e2 : TypeId} {v1 v2 : Value} {xs1 xs2 : List Value} (h1 : w.ownsRow b1 e1 s1 v1 n1 xs1) (h2 : w.ownsRow b2 e2 s2 v2 n2 xs2) (he : e1 ≠ e2) (hk : v1.ownBlock = some k) : v2.ownBlock ≠ some k := by
  intro hk2
  rcases h1.2 with ⟨rfl, _⟩ | ⟨g1, _, _, rfl, _, hh1, _⟩
  · cases hk
  · rcases h2.2 with ⟨rfl, _⟩ | ⟨g2, _, _, rfl, _, hh2, _⟩
    · cases hk2
    · simp only [Value.ownBlock, Option.some.injEq] at hk hk2
      subst hk
      subst hk2
      rw [hh1] at hh2
      injection hh2 with hh2
      injection hh2 with _ hh2
      exact he hh2

theorem own_below {w w' : World} {base size n : Nat} {e : TypeId} {v : Value} {xs : List Value} (h : w.ownsRow base e size v n xs) (hb : Below w.heap.size w w') : w'.ownsRow base e size v n xs :=
  own_touch (K := fun _ => False) h (Tch.of_below hb) fun _ _ h => h

theorem take_set {l : List Ver} {rs : List (Ver × Option Addr × Nat)} {k : Nat} {r : Ver × Option Addr × Nat} (hl : rs.length = l.length) (hk : k < l.length) (h : (rs.map (·.1)).take k = l.take k) (hr : r.1 = l[k]) :
    ((rs.set k r).map (·.1)).take (k + 1) = l.take (k + 1) := by
  rw [List.map_set, List.take_succ_eq_append_getElem (by simp; omega), List.take_succ_eq_append_getElem hk]
  congr 1
  · rw [List.take_set_of_le (Nat.le_refl _), h]
  · simp [hr]

/-- A version stored in its row. -/
theorem row_set {w1 : World} {base n k c1 : Nat} {rs : List (Ver × Option Addr × Nat)} {v : Ver} {A1 : Option Addr} {g : Nat} (hr : w1.ownsRow base 29 3 (.slice (some ⟨g, 0, none⟩) n n) n (rows rs)) (hl : rs.length = n) (hk : k < n) (hd : ∀ r ∈ rs, OwnD base w1 r) (ho : OwnD base w1 (v, A1, c1)) :
    ((((w1.setCell ⟨g, k * 3, none⟩ (.int .u64 v.ver)).setCell ⟨g, k * 3 + 1, none⟩ (.int .u64 v.seq)).setCell ⟨g, k * 3 + 2, none⟩ (.slice A1 v.data.length c1)).ownsRow base 29 3 (.slice (some ⟨g, 0, none⟩) n n) n (rows (rs.set k (v, A1, c1)))) ∧
    (∀ r ∈ rs.set k (v, A1, c1), OwnD base (((w1.setCell ⟨g, k * 3, none⟩ (.int .u64 v.ver)).setCell ⟨g, k * 3 + 1, none⟩ (.int .u64 v.seq)).setCell ⟨g, k * 3 + 2, none⟩ (.slice A1 v.data.length c1)) r) := by
  have s1 := (hr.stored (k * 3) (.int .u64 v.ver)).1
  have s2 := (s1.stored (k * 3 + 1) (.int .u64 v.seq)).1
  have s3 := (s2.stored (k * 3 + 2) (.slice A1 v.data.length c1)).1
  have hT : Tch (fun j => j = g) w1 (((w1.setCell ⟨g, k * 3, none⟩ (.int .u64 v.ver)).setCell ⟨g, k * 3 + 1, none⟩ (.int .u64 v.seq)).setCell ⟨g, k * 3 + 2, none⟩ (.slice A1 v.data.length c1)) :=
    ⟨rfl, rfl, rfl, by simp [World.setCell], fun j _ hn => by rw [Below.heap_setCell _ _ _ _ hn, Below.heap_setCell _ _ _ _ hn, Below.heap_setCell _ _ _ _ hn]⟩
  refine ⟨by rw [rows_set rs k _ (by omega)]; exact s3, fun r hr2 => ?_⟩
  have hr3 : OwnD base w1 r := by
    rcases List.mem_or_eq_of_mem_set hr2 with h | h
    · exact hd r h
    · rw [h]; exact ho
  exact own_touch hr3 hT fun j hj e => by
    subst e
    exact own_apart hr3 hr (by decide) hj rfl

set_option maxRecDepth 100000 in
theorem list_any (p : Option Addr) (l : List Ver) (w : World) (hb : Blk w p l) (hs : Small l) :
    Calls Try.prog 20 #[.pointer p] w (ToldList l w) := by
  have hlen := len_any p l w hb
  have HL := Lib.hid hlen
  have hl := hs.len
  obtain ⟨n, hn⟩ : ∃ n, n = l.length := ⟨_, rfl⟩
  rw [← hn] at hl HL
  obtain ⟨i0, hi, hz0, hz1, hz2⟩ := info_parts info_ver
  have HN := Lib.hid hn
  clear hlen hn
  go_enter Try.func20, Try.ntmps20
  go_wp2_with (first
    | (go_at_call 18; refine (HL.out).mono ?_; rintro e w' ⟨rfl, rfl⟩)
    | (at_make; refine wpList_make_full _ rfl _ _ 50 rfl w.heap.size 29 i0 (.agg #[.int .u64 0, .int .u64 0, .slice none 0 0]) 3 Try.underlying50 hi hz0 hz1 _ _ _ _ n rfl rfl rfl rfl ?m1 ?m2 ?m3 ?_))
  case m1 => rw [hz2]; omega
  case m2 => unfold maxLen; omega
  case m3 => exact Nat.le_refl _
  intro w1 hown1 hg1
  rw [rows_zero] at hown1
  have hB1 : Below w.heap.size w w1 := (Below.refl _ _).grown hg1 (Nat.le_refl _) (fun k hk => by cases hk)
  have hd1 : ∀ r ∈ List.replicate n ((zero, none, 0) : Ver × Option Addr × Nat), OwnD w.heap.size w1 r := by
    intro r hr
    rw [List.eq_of_mem_replicate hr]
    exact World.ownsRow_nil _ _ _ _
  have HOwn := Lib.hid hown1
  have HD1 := Lib.hid hd1
  clear hown1 hg1 hi hz0 hz1 hz2 hd1
  go_wp2
  go_loopw [10] (fun i wr => ∃ (k : Nat) (rs : List (Ver × Option Addr × Nat)), k ≤ n ∧ i = .int .i64 k ∧ rs.length = n ∧ Hid ((rs.map (·.1)).take k = l.take k) ∧ Hid (wr.ownsRow w.heap.size 29 3 (.slice (some ⟨w.heap.size, 0, none⟩) n n) n (rows rs)) ∧ Hid (∀ r ∈ rs, OwnD w.heap.size wr r) ∧ Below w.heap.size w wr) (fun i _ => n - (intOf i).toNat)
  case atStart => exact ⟨0, _, Nat.zero_le _, rfl, List.length_replicate, Lib.hid (by simp), HOwn, HD1, hB1⟩
  case round =>
    obtain ⟨k, rs, hk, rfl, hrl, HTk, HRow, HDs, hbel⟩ := hrel
    by_cases hlt : k < n
    · have hbr := hb.below hbel
      have hkI : (k : Int) < (n : Int) := by omega
      have hk0 : (0 : Int) ≤ (k : Int) := by omega
      obtain ⟨v, hv⟩ : ∃ v, v = atV l (k : Int) := ⟨_, rfl⟩
      have HV := Lib.hid hv
      have HRl := Lib.hid hrl
      clear hv hrl
      go_wp2_with fail
      refine (at_any p l (k : Int) wr hbr hs).mono ?_
      rintro e w2 ⟨A1, c1, rfl, ho, hB2⟩
      rw [← HV.out] at ho
      rw [← HV.out]
      have hrow2 := own_below HRow.out hB2
      have hd2 : ∀ r ∈ rs, OwnD w.heap.size w2 r := fun r hr => own_below (HDs.out r hr) hB2
      have hrs := row_set hrow2 HRl.out hlt hd2 (own_mono ho hbel.size)
      obtain ⟨x0, x1, x2, y0, y1, y2⟩ : ∃ x0 x1 x2, w2.cell? ⟨w.heap.size, k * 3, none⟩ = some x0 ∧ w2.cell? ⟨w.heap.size, k * 3 + 1, none⟩ = some x1 ∧ w2.cell? ⟨w.heap.size, k * 3 + 2, none⟩ = some x2 := by
        have hx : ∀ j, j < (rows rs).length → ∃ x, w2.cell? ⟨w.heap.size, j, none⟩ = some x := fun j hj => ⟨_, (hrow2.cellAt (g := w.heap.size) j (by rw [← hrow2.1]; exact hj)).trans (List.getElem?_eq_getElem hj)⟩
        have hlen := rows_length rs
        rw [HRl.out] at hlen
        obtain ⟨x0, h0⟩ := hx (k * 3) (by omega)
        obtain ⟨x1, h1⟩ := hx (k * 3 + 1) (by omega)
        obtain ⟨x2, h2⟩ := hx (k * 3 + 2) (by omega)
        exact ⟨x0, x1, x2, h0, h1, h2⟩
      have z0 := hrow2.frozenAt (k * 3)
      have z1 := hrow2.frozenAt (k * 3 + 1)
      have z2 := hrow2.frozenAt (k * 3 + 2)
      have HRs := Lib.hid hrs
      have HTk2 : Hid (((rs.set k (v, A1, c1)).map (·.1)).take (k + 1) = l.take (k + 1)) := Lib.hid (take_set (by rw [HRl.out, HN.out]) (by rw [← HN.out]; exact hlt) HTk.out (by rw [HV.out, atV_in (by rw [← HN.out]; exact hlt)]))
      have hB3 := hbel.trans (hB2.mono hbel.size)
      have HRl2 : Hid ((rs.set k (v, A1, c1)).length = n) := Lib.hid (by rw [List.length_set, HRl.out])
      clear hrs hrow2 hd2 ho
      go_wp2_with fail
      go_roundw
      case rel => exact ⟨k + 1, _, by omega, by go_num, HRl2.out, HTk2, Lib.hid HRs.out.1, Lib.hid HRs.out.2, ((hB3.setCell (Nat.le_refl _) _).setCell (Nat.le_refl _) _).setCell (Nat.le_refl _) _⟩
      case measure => simp [intOf]; omega
    · obtain rfl : k = n := by omega
      have HRl := Lib.hid hrl
      clear hrl
      go_wp2_with fail
      go_ret
      refine ⟨rs, some ⟨w.heap.size, 0, none⟩, k, by rw [← HN.out]; rfl, ?_, by rw [← HN.out]; exact HRow.out, HDs.out, hbel⟩
      have := HTk.out
      rwa [List.take_of_length_le (by simp [HRl.out]), List.take_of_length_le (by rw [HN.out]; exact Nat.le_refl _)] at this
end Go.Proofs.Ytobndboogafjpaa
