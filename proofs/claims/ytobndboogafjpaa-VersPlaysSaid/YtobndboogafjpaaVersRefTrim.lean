/- The contract of the reference's Trim. Condition: at most 65536 rising versions. -/
import Derived.Test.YtobndboogafjpaaVersRefPut
namespace Go.Proofs.Ytobndboogafjpaa
open Go.RowKit Go.Cat Go.Cat.Vers

/-- Trim keeps what stands from the clean one on, in a new row. -/
def RTrimmed (rs : List (Ver × Option Addr × Nat)) (l : List Ver) (done : Int) (w : World) (e : Ending) (w' : World) : Prop :=
  ∃ k, Cleaned l done k ∧ ∃ A' c', e = .returned (.tuple #[.slice A' (rs.drop (k - 1)).length c', .int .i64 ((k - 1 : Nat) : Int)]) ∧
    w'.ownsRow w.heap.size 40 3 (.slice A' (rs.drop (k - 1)).length c') (rs.drop (k - 1)).length (rows (rs.drop (k - 1))) ∧ Below w.heap.size w w'

def kept (s : Int) (rs : List (Ver × Option Addr × Nat)) : List (Ver × Option Addr × Nat) := rs.filter fun r => decide (s ≤ r.1.seq)
theorem kept_hit {s : Int} {rs : List (Ver × Option Addr × Nat)} {k : Nat} (hk : k < rs.length) (h : s ≤ rs[k].1.seq) : kept s (rs.take (k + 1)) = kept s (rs.take k) ++ [rs[k]] := by
  rw [List.take_succ_eq_append_getElem hk, kept, List.filter_append]
  simp [h, kept]
theorem kept_miss {s : Int} {rs : List (Ver × Option Addr × Nat)} {k : Nat} (hk : k < rs.length) (h : ¬ s ≤ rs[k].1.seq) : kept s (rs.take (k + 1)) = kept s (rs.take k) := by
  rw [List.take_succ_eq_append_getElem hk, kept, List.filter_append]
  have : ¬ s ≤ rs[k].1.seq := h
  simp [h, kept]
theorem kept_le {s : Int} (rs : List (Ver × Option Addr × Nat)) (k : Nat) : (kept s (rs.take k)).length ≤ k := Nat.le_trans (List.length_filter_le _ _) (List.length_take_le _ _)
theorem kept_cut {rs : List (Ver × Option Addr × Nat)} {l : List Ver} (hrs : rs.map (·.1) = l) (hr : Rising l) {done : Int} {k : Nat} (h : Cleaned l done k) (hp : ∀ v ∈ l, 0 < v.seq) : kept (atV l ((k : Int) - 1)).seq rs = rs.drop (k - 1) := by
  have hl : rs.length = l.length := by rw [← hrs]; simp
  have hf := filter_cut hr h hp
  have e : (kept (atV l ((k : Int) - 1)).seq rs).map (·.1) = (rs.drop (k - 1)).map (·.1) := by
    rw [List.map_drop, hrs, ← hf, ← hrs, List.filter_map]
    rfl
  have hsub : (kept (atV l ((k : Int) - 1)).seq rs).length = (rs.drop (k - 1)).length := by simpa using congrArg List.length e
  -- what is cut off is not kept; what is left is
  have hk := h.le
  obtain ⟨s, hs⟩ : ∃ s, s = (atV l ((k : Int) - 1)).seq := ⟨_, rfl⟩
  rw [← hs] at hsub ⊢
  have h2 : kept s rs = kept s (rs.take (k - 1)) ++ kept s (rs.drop (k - 1)) := by
    conv => lhs; rw [← List.take_append_drop (k - 1) rs]
    exact List.filter_append ..
  have h3 : (kept s (rs.drop (k - 1))).length ≤ (rs.drop (k - 1)).length := List.length_filter_le _ _
  have h4 : kept s (rs.drop (k - 1)) = rs.drop (k - 1) := by
    unfold kept
    rw [List.filter_eq_self]
    intro r hr2
    have hm : r.1 ∈ l.drop (k - 1) := by rw [← hrs, ← List.map_drop]; exact List.mem_map_of_mem hr2
    rw [← hf, List.mem_filter] at hm
    rw [hs]
    exact hm.2
  rw [h2, h4, List.length_append] at hsub
  have h5 : kept s (rs.take (k - 1)) = [] := List.eq_nil_of_length_eq_zero (by omega)
  rw [h2, h4, h5, List.nil_append]

theorem own_drewN {w : World} {base size n : Nat} {e : TypeId} {v : Value} {xs : List Value} (h : w.ownsRow base e size v n xs) (q : Nat) : (w.drewN q).ownsRow base e size v n xs := h

theorem ret_tup {a : Value} {x y : Int} (h : x = y) : Ending.returned (.tuple #[a, .int .i64 x]) = .returned (.tuple #[a, .int .i64 y]) := by rw [h]

theorem trim_round {w w1 wr w2 : World} {q m c1 : Nat} {v : Ver} {A1 Ao : Option Addr} {co : Nat} {xs : List Value} {o : Obj} {v2 : Value} {m2 : Nat} {ys : List Value} (ho : wr.ownsRow (w1.heap.size + 1) 40 3 (.slice Ao m co) m xs) (hb : VBox 40 w1.heap.size v A1 c1 wr) (hbel : Below w.heap.size w wr) (hs : w.heap.size ≤ w1.heap.size)
    (_ho2 : w2.ownsRow (w1.heap.size + 1) 40 3 v2 m2 ys) (hg : ((wr.drewN q).alloc o).grownBy w2 (Value.slice Ao m co).ownBlock) :
    VBox 40 w1.heap.size v A1 c1 w2 ∧ Below w.heap.size w w2 := by
  have h1 : Below (w1.heap.size + 1) wr w2 := (below_drewN (Below.refl _ _) q).trans (((Below.refl (w1.heap.size + 1) (wr.drewN q)).alloc (show w1.heap.size + 1 ≤ (wr.drewN q).heap.size from Nat.succ_le_of_lt hb.lt) o).own ((own_drewN ho q).alloc o) hg (by have := hb.lt; simp; omega) (Nat.le_refl _))
  exact ⟨(h1.block _ (Nat.lt_succ_self _)).trans hb, hbel.trans (h1.mono (by omega))⟩

set_option maxRecDepth 100000 in
set_option maxHeartbeats 1000000 in
theorem rtrim_any (A : Option Addr) (rs : List (Ver × Option Addr × Nat)) (l : List Ver) (c : Nat) (done : Int) (w0 w : World) (hrs : rs.map (·.1) = l) (hsee : Sees w A (rows rs)) (hby : ∀ r ∈ rs, Bytes w0 r.2.1 r.1.data) (hl : l.length ≤ 65536) (hr : Rising l) (hp : ∀ v ∈ l, 0 < v.seq) :
    Calls Try.prog 17 #[.slice A l.length c, .int .u64 done] w (RTrimmed rs l done w) := by
  have hrl : rs.length = l.length := by rw [← hrs]; simp
  have p1 := rclean_any A l c done w0 w ⟨rs, hrs, hsee, hby⟩ hl hr
  obtain ⟨n, hn⟩ : ∃ n, n = l.length := ⟨_, rfl⟩
  rw [← hn] at p1 hl hrl ⊢
  have P1 := Lib.hid p1
  have HN := Lib.hid hn
  have HRS := Lib.hid hrs
  have HP := Lib.hid hp
  have HR := Lib.hid hr
  clear p1 hn hrs hby hp hr
  go_enter Try.func17, Try.ntmps17
  go_wp2_with fail
  refine (P1.out).mono ?_
  rintro e w1 ⟨kc, hkc, A1, c1, rfl, _, hB1⟩
  obtain ⟨v, hvk⟩ : ∃ v, v = atV l ((kc : Int) - 1) := ⟨_, rfl⟩
  rw [← hvk]
  have HV := Lib.hid hvk
  have HK := Lib.hid hkc
  have hbx : VBox 40 w1.heap.size v A1 c1 (w1.alloc (.cells #[.int .u64 v.ver, .int .u64 v.seq, .slice A1 v.data.length c1] 40)) := heap_alloc_new w1 _
  have hB2 : Below w.heap.size w (w1.alloc (.cells #[.int .u64 v.ver, .int .u64 v.seq, .slice A1 v.data.length c1] 40)) := hB1.alloc (hB1.size) _
  have hs1 : w.heap.size ≤ w1.heap.size := hB1.size
  clear hvk hkc hB1
  go_wp2_with fail
  go_loopw [7, 8] (fun o i wr => ∃ (k m : Nat) (Ao : Option Addr) (co : Nat), k ≤ n ∧ i = .int .i64 k ∧ m ≤ k ∧ o = .slice Ao m co ∧ Hid (m = (kept v.seq (rs.take k)).length) ∧ Hid (wr.ownsRow (w1.heap.size + 1) 40 3 (.slice Ao m co) m (rows (kept v.seq (rs.take k)))) ∧
      VBox 40 w1.heap.size v A1 c1 wr ∧ Below w.heap.size w wr) (fun _ i _ => n - (intOf i).toNat)
  case atStart => exact ⟨0, 0, none, 0, Nat.zero_le _, rfl, Nat.le_refl _, rfl, Lib.hid rfl, Lib.hid (World.ownsRow_nil _ _ _ _), hbx, hB2⟩
  case round =>
    obtain ⟨k, m, Ao, co, hk, rfl, hmk, rfl, HM, HO, hb, hbel⟩ := hrel
    have hblt := hb.lt
    by_cases hlt : k < n
    · have hkr : k < rs.length := by omega
      obtain ⟨b, off, rfl, hbs, hc⟩ := hsee.elem (f := cells) (k := 3) (fun _ => rfl) (by omega) (by omega)
      obtain ⟨r, hr⟩ : ∃ r, r = rs[k] := ⟨_, rfl⟩
      have e0 := (hbel.cell (p := ⟨b, _, none⟩) hbs).trans (hc k hkr 0 (by omega))
      have e1 := (hbel.cell (p := ⟨b, _, none⟩) hbs).trans (hc k hkr 1 (by omega))
      have e2 := (hbel.cell (p := ⟨b, _, none⟩) hbs).trans (hc k hkr 2 (by omega))
      rw [← hr] at e0 e1 e2
      replace e0 : wr.cell? ⟨b, off + k * 3, none⟩ = some (.int .u64 r.1.ver) := e0
      replace e1 : wr.cell? ⟨b, off + k * 3 + 1, none⟩ = some (.int .u64 r.1.seq) := by rw [Nat.add_assoc]; exact e1
      replace e2 : wr.cell? ⟨b, off + k * 3 + 2, none⟩ = some (.slice r.2.1 r.1.data.length r.2.2) := by rw [Nat.add_assoc]; exact e2
      have HRk := Lib.hid hr
      have HKr := Lib.hid hkr
      have HRL := Lib.hid hrl
      obtain ⟨q0, q1, q2, _, _, _⟩ := hb.cells
      have hkI : (k : Int) < (n : Int) := by omega
      have hk0 : (0 : Int) ≤ (k : Int) := by omega
      have Hb := Lib.hid hb
      have HSee := Lib.hid hsee
      have HC := Lib.hid hc
      clear hr hrl hb hc hsee
      by_cases hs : v.seq ≤ r.1.seq
      · have t1 : decide (v.seq ≤ r.1.seq) = true := by simpa using hs
        have HS := Lib.hid hs
        clear hs
        go_wp2_with fail
        go_quiet (fail)
        go_wp2_with (at_builtin; refine wpList_app elem_rver rfl (.tmp 26) (.tmp 31) rfl (w1.heap.size + 1) (.slice Ao m co) m (rows (kept v.seq (rs.take k))) rfl ((own_drewN HO.out _).alloc _) (some ⟨_, 0, none⟩) 1 1 (cells r) rfl (sees_new _ _ _) rfl (one_cells _) (by omega) (by simp; omega) ?_)
        intro v2 w2 hown2 hg2 _
        obtain ⟨A2, c2, rfl, _, _⟩ := own_full hown2
        have hst := trim_round HO.out Hb.out hbel hs1 hown2 hg2
        have HSt := Lib.hid hst
        have HOw := Lib.hid hown2
        clear hst hown2 hg2
        go_wp2_with fail
        go_roundw
        case rel =>
          have ek : kept v.seq (rs.take (k + 1)) = kept v.seq (rs.take k) ++ [r] := by rw [HRk.out]; exact kept_hit HKr.out (by rw [← HRk.out]; exact HS.out)
          refine ⟨k + 1, m + 1, A2, c2, by omega, by go_num, by omega, rfl, Lib.hid (by rw [ek, List.length_append, ← HM.out]; rfl), Lib.hid ?_, HSt.out.1, HSt.out.2⟩
          rw [ek, rows_append]
          have := HOw.out
          simpa [rows] using this
        case measure => simp [intOf]; omega
      · have t1 : decide (v.seq ≤ r.1.seq) = false := by simpa using hs
        have HS := Lib.hid hs
        clear hs
        go_wp2_with fail
        go_quiet (fail)
        go_wp2_with fail
        go_roundw
        case rel =>
          have ek : kept v.seq (rs.take (k + 1)) = kept v.seq (rs.take k) := kept_miss HKr.out (by rw [← HRk.out]; have := HS.out; omega)
          refine ⟨k + 1, m, Ao, co, by omega, by go_num, by omega, rfl, Lib.hid (by rw [ek]; exact HM.out), Lib.hid (by rw [ek]; exact own_drewN HO.out _), Hb.out, below_drewN hbel _⟩
        case measure => simp [intOf]; omega
    · obtain rfl : k = n := by omega
      have HRL := Lib.hid hrl
      have Hb := Lib.hid hb
      clear hb hrl
      go_wp2_with fail
      go_ret2
      have e1 : kept v.seq (rs.take k) = rs.drop (kc - 1) := by
        rw [List.take_of_length_le (by rw [HRL.out]; exact Nat.le_refl _), HV.out]
        exact kept_cut HRS.out HR.out HK.out HP.out
      have hm := HM.out
      rw [e1] at hm
      have hle := HK.out.le
      have hm2 : (m : Int) + ((kc - 1 : Nat) : Int) = (k : Int) := by
        rw [List.length_drop, HRL.out] at hm
        have := HN.out
        omega
      have ho := own_mono HO.out (Nat.le_succ_of_le hs1)
      rw [e1] at ho
      refine ⟨kc, HK.out, Ao, co, ?_, by rw [← hm]; exact ho, hbel⟩
      rw [← hm]
      exact ret_tup (by omega)
end Go.Proofs.Ytobndboogafjpaa
