/- The contracts of the parts RefNum, RefIn, RefGet, RefRead, RefText, VolCheckR, VolGetR, VolBack, VolLaw, Cut8, VolGets, in one text. Conditions: those told at each part. -/
import Derived.Test.YtjdpljhhlmcbaaaFixNum
import Derived.Test.YtjdpljhhlmcbaaaFixGet
import Derived.Laws.ResultCell
import Derived.Test.YtjdpljhhlmcbaaaFixDone
import Derived.Test.YtjdpljhhlmcbaaaFixText
import Derived.Test.YtjdpljhhlmcbaaaVolCheckP
import Derived.Test.YtjdpljhhlmcbaaaVolGetP
import Derived.Deep.DeepCutAuto
import Derived.Test.YtjdpljhhlmcbaaaVolPut
import Derived.Test.YtjdpljhhlmcbaaaVolGetV
import Derived.Test.YtjdpljhhlmcbaaaFixBack
import Derived.Test.YtjdpljhhlmcbaaaVolWhat
import Derived.Deep.RegionHeld3
import Derived.Test.YtjdpljhhlmcbaaaProg
import Derived.Test.YtjdpljhhlmcbaaaLib
import Derived.Test.YtjdpljhhlmcbaaaVolLike
section
/- The number that bytes are, the reference's. Condition: at most 8 bytes. -/
namespace Go.Cat
open Go.RowKit
theorem mul_add8 {n : Nat} {b : UInt8} (h : n < 72057594037927936) : IntKind.u64.wrap (IntKind.u64.wrap ((n : Int) * 256) + IntKind.u64.wrap (b.toNat : Int)) = ((n * 256 + b.toNat : Nat) : Int) := by
  have hb := b.toNat_lt
  have e : IntKind.u64.wrap ((n : Int) * 256) = ((n * 256 : Nat) : Int) := by
    rw [show ((n : Int) * 256) = ((n * 256 : Nat) : Int) by simp]
    exact IntWalk.u64_in _ (by omega)
  have e2 : IntKind.u64.wrap (b.toNat : Int) = (b.toNat : Int) := IntWalk.u64_in _ (by omega)
  rw [e, e2, IntWalk.u64_in _ (by omega)]
  simp
end Go.Cat
namespace Go.Proofs.Ytjdpljhhlmcbaaa
open Go.RowKit Go.Cat

set_option maxRecDepth 100000 in
theorem rnum_any (A : Option Addr) (c : Nat) (bs : List UInt8) (w : World) (hb : Bytes w A bs) (hl : bs.length ≤ 8) :
    Calls Try.prog 67 #[.slice A bs.length c] w fun e w' => e = .returned (.int .u64 (num bs : Int)) ∧ w = w' := by
  obtain ⟨n, hn⟩ : ∃ n, n = bs.length := ⟨_, rfl⟩
  rw [← hn] at hl ⊢
  have HN := Lib.hid hn
  have HB := Lib.hid hb
  clear hn hb
  go_enter Try.func67, Try.ntmps67
  go_wp2_with fail
  go_loopw [3, 4] (fun v iv wr => ∃ k : Nat, k ≤ n ∧ iv = .int .i64 k ∧ v = .int .u64 (num (bs.take k) : Int) ∧ wr = w) (fun _ iv _ => n - (intOf iv).toNat)
  case atStart => exact ⟨0, Nat.zero_le _, rfl, rfl, rfl⟩
  case round =>
    obtain ⟨k, hk, rfl, rfl, rfl⟩ := hrel
    by_cases hlt : k < n
    · have hkp : k < bs.length := by rw [← HN.out]; exact hlt
      have t1 : decide ((k : Int) < (n : Int)) = true := by simp; omega
      rcases HB.out with h | ⟨b, off, rfl, hc⟩
      · exfalso
        have : bs = [] := by simpa using h
        rw [this] at hkp
        simp at hkp
      have hc1 := hc k (by8 bs[k]) (by rw [List.getElem?_map, List.getElem?_eq_getElem hkp]; rfl)
      have hnt := num_take hkp
      have hlt2 := num_lt_take bs k
      have hp : 256 ^ k ≤ 256 ^ 7 := Nat.pow_le_pow_right (by omega) (by omega)
      obtain ⟨q, hq⟩ : ∃ q, q = bs[k] := ⟨_, rfl⟩
      obtain ⟨m, hm⟩ : ∃ m, m = num (bs.take k) := ⟨_, rfl⟩
      rw [← hq] at hc1 hnt
      rw [← hm] at hnt hlt2 ⊢
      simp only [by8] at hc1
      have hso := mul_add8 (n := m) (b := q) (by omega)
      have HNt := Lib.hid hnt
      have HSo := Lib.hid hso
      have hkI : (k : Int) < (n : Int) := by omega
      have hk0 : (0 : Int) ≤ (k : Int) := by omega
      clear hc hnt hlt2 hp hq hm hso hkp
      go_wp2_with fail
      go_roundw
      case rel =>
        exact ⟨k + 1, by omega, by go_num, by rw [HNt.out, ← HSo.out], trivial⟩
      case measure => simp [intOf]; omega
    · obtain rfl : k = n := by omega
      have t1 : decide ((k : Int) < (k : Int)) = false := by simp
      have he : bs.take k = bs := by rw [HN.out]; exact List.take_length
      rw [he]
      clear he
      go_wp2_with fail
      go_ret
      exact ⟨rfl, rfl⟩
end Go.Proofs.Ytjdpljhhlmcbaaa
end

section
/- Bytes that are read, the reference's: the contracts of Fail, Raw. Condition: lengths within a slice's. -/
namespace Go.Cat
open Go.RowKit
/-- The reference's picture of bytes that are read. -/
structure RI (s : IS) (A : Option Addr) (c : Nat) (w : World) : Prop where
  bad : s.e ≠ 0 → s.b = []
  sees : Bytes w A s.b
  le : s.b.length ≤ c
  max : c ≤ maxLen
  nil : A = none → c = 0
theorem RI.below {s : IS} {A : Option Addr} {c : Nat} {w w' : World} (h : RI s A c w) (hb : Below w.heap.size w w') : RI s A c w' := ⟨h.bad, h.sees.below hb, h.le, h.max, h.nil⟩
theorem RI.fresh (w : World) (e : Int) : RI ⟨[], e⟩ none 0 w := ⟨fun _ => rfl, .inl rfl, Nat.le_refl _, by unfold maxLen; omega, fun _ => rfl⟩
theorem heap2 (w : World) (o1 o2 : Obj) : ((w.alloc o1).alloc o2).heap[w.heap.size + 1]? = some o2 := by
  have := heap_alloc_new (w.alloc o1) o2
  rwa [show (w.alloc o1).heap.size = w.heap.size + 1 by simp] at this
theorem heap21 (w : World) (o1 o2 : Obj) : ((w.alloc o1).alloc o2).heap[w.heap.size]? = some o1 := by
  exact (((Below.refl (w.alloc o1).heap.size (w.alloc o1)).alloc (Nat.le_refl _) o2).block _ (by simp)).trans (heap_alloc_new _ _)
theorem below2 (w : World) (o1 o2 : Obj) : Below w.heap.size w ((w.alloc o1).alloc o2) := ((Below.refl w.heap.size w).alloc (Nat.le_refl _) o1).alloc (by simp) o2
end Go.Cat
namespace Go.Proofs.Ytjdpljhhlmcbaaa
open Go.RowKit Go.Cat

abbrev ri (A : Option Addr) (n c : Nat) (e : Int) : Value := .agg #[.slice A n c, .int .i64 e]

theorem ret_ri {fn : Func} {p u : Tmp} (h : fn.results = #[.cell p 83, .tmp u]) {tmps : Array Value} {w : World} {g : Nat} {a b : Value} {fr : Nat × Nat} (hp : tmps.getD p undef = .pointer (some ⟨g, 0, none⟩)) (hg : w.heap[g]? = some (.cells #[a, b] 83 fr)) :
    (results fn tmps).run Try.prog w = .ok (.tuple #[.agg #[a, b], tmps.getD u undef]) w := by
  have hp' : tmps[p]?.getD undef = .pointer (some ⟨g, 0, none⟩) := by simpa using hp
  simp [results, h, hp', asAddr, run_loadVar_row w g _ _ _ _ _ hg Try.underlying83 rfl (by kernel_rfl)]

theorem rfail_any (A : Option Addr) (n c : Nat) (err : Int) (w : World) :
    Calls Try.prog 65 #[ri A n c 0, .int .i64 err] w fun e w' => e = .returned (ri none 0 0 err) ∧ Below w.heap.size w w' := by
  go_enter Try.func65, Try.ntmps65
  go_wp2_with fail
  refine bodyPost_ret (results_cell_row rfl _ _ _ _ _ _ _ (by rfl) (heap2 _ _ _) Try.underlying83 rfl (by kernel_rfl)) rfl ?_
  exact ⟨rfl, below2 _ _ _⟩

/-- What the reference's reads tell. -/
def ToldRR (s : IS) (out : List UInt8) (w0 w : World) (e : Ending) (w' : World) : Prop :=
  ∃ A c A' c', e = .returned (.tuple #[ri A s.b.length c s.e, .slice A' out.length c']) ∧ RI s A c w0 ∧ Bytes w0 A' out ∧ Below w.heap.size w w'

set_option maxRecDepth 100000 in
theorem rraw_any (s : IS) (A : Option Addr) (c n : Nat) (w0 w : World) (h : RI s A c w0) (hn : n ≤ 9223372036854775807) :
    Calls Try.prog 66 #[ri A s.b.length c s.e, .int .i64 (n : Int)] w (ToldRR (s.next n).1 (s.next n).2.1 w0 w) := by
  have HH := Lib.hid h
  have d0 : decide ((n : Int) < 0) = false := by simp
  by_cases he : s.e = 0
  · have d : (s.e != 0) = false := by simpa using he
    by_cases hl : s.b.length < n
    · have d2 : decide (s.b.length < n) = true := by simpa using hl
      have hs : s.next n = (⟨[], 3⟩, [], false) := by unfold IS.next; rw [if_neg (by simpa using he), if_pos hl]
      rw [hs, he]
      rw [he] at d
      have P1 := fun w => rfail_any A s.b.length c 3 w
      have HP := Lib.hid P1
      clear h he hl hs P1
      go_enter Try.func66, Try.ntmps66
      go_wp2_with fail
      refine (HP.out _).mono ?_
      rintro e w1 ⟨rfl, hB⟩
      have hbx : w1.heap[w.heap.size + 1]? = some (.cells #[.slice none 0 0, .int .i64 0] 83 (0, 0)) := (hB.block _ (by simp)).trans (heap2 _ _ _)
      have m0 : w1.cell? ⟨w.heap.size + 1, 0, none⟩ = some (.slice none 0 0) := cell_of_row w1 _ 0 _ _ _ hbx
      have m1 : w1.cell? ⟨w.heap.size + 1, 1, none⟩ = some (.int .i64 0) := cell_of_row w1 _ 1 _ _ _ hbx
      have g0 : w1.frozen? ⟨w.heap.size + 1, 0, none⟩ = false := frozen_of_row w1 _ 0 _ _ hbx
      have g1 : w1.frozen? ⟨w.heap.size + 1, 1, none⟩ = false := frozen_of_row w1 _ 1 _ _ hbx
      have hB1 : Below w.heap.size w w1 := (below2 w _ _).trans (hB.mono (by simp; omega))
      have HBx := Lib.hid hbx
      clear hB hbx
      go_wp2_with fail
      refine bodyPost_ret (ret_ri rfl (by rfl) (set_block _ (set_block _ HBx.out))) rfl ?_
      exact ⟨none, 0, none, 0, rfl, RI.fresh _ 3, .inl rfl, (hB1.setCell (Nat.le_succ _) _).setCell (Nat.le_succ _) _⟩
    · have d2 : decide (s.b.length < n) = false := by simpa using hl
      have hs : s.next n = (⟨s.b.drop n, 0⟩, s.b.take n, true) := by unfold IS.next; rw [if_neg (by simpa using he), if_neg hl]
      rw [hs, he]
      rw [he] at d
      obtain ⟨m, hm⟩ : ∃ m, m = s.b.length := ⟨_, rfl⟩
      rw [← hm] at d2 hl ⊢
      have HM := Lib.hid hm
      have hmc : m ≤ c := by rw [hm]; exact h.le
      have hln : n ≤ m := by omega
      have hnc : n ≤ c := by omega
      by_cases hc : c = n
      · subst hc
        have hmn : m = c := by omega
        have fin : ∀ W', Below w.heap.size w W' → ToldRR ⟨s.b.drop c, 0⟩ (s.b.take c) w0 w (.returned (.tuple #[ri A 0 0 0, .slice A c c])) W' := by
          intro W' hB
          have hd : s.b.drop c = [] := by rw [List.drop_eq_nil_iff]; omega
          have ht : s.b.take c = s.b := List.take_of_length_le (by omega)
          rw [hd, ht]
          exact ⟨A, 0, A, c, by rw [← hm, hmn]; rfl, ⟨fun h => absurd rfl h, .inl rfl, Nat.le_refl _, by show 0 ≤ maxLen; omega, fun _ => rfl⟩, h.sees, hB⟩
        clear h he hl hs hm
        go_enter Try.func66, Try.ntmps66
        go_wp2_with fail
        first | go_region_with (fail) | fail
        all_goals
          go_wp2_with fail
          refine bodyPost_ret (ret_ri rfl (by rfl) (heap2 _ _ _)) rfl ?_
          exact fin _ (below2 _ _ _).drew
      · have fin : ∀ W', Below w.heap.size w W' → ToldRR ⟨s.b.drop n, 0⟩ (s.b.take n) w0 w (.returned (.tuple #[ri (A.map fun x => x.add n) (m - n) (c - n) 0, .slice A n c])) W' := by
          intro W' hB
          have hb := h.sees
          refine ⟨A.map fun x => x.add n, c - n, A, c, by rw [List.length_drop, List.length_take, ← hm, Nat.min_eq_left hln], ⟨fun h => absurd rfl h, bytes_drop hb n, by rw [List.length_drop, ← hm]; show m - n ≤ c - n; omega, by have := h.max; omega, fun h' => ?_⟩, bytes_take hb n, hB⟩
          have := h.nil (by simpa using h')
          omega
        clear h he hl hs hm
        go_enter Try.func66, Try.ntmps66
        go_wp2_with fail
        first | go_region_with (fail) | fail
        all_goals
          go_wp2_with fail
          refine bodyPost_ret (ret_ri rfl (by rfl) (heap2 _ _ _)) rfl ?_
          exact fin _ (below2 _ _ _).drew
  · have d : (s.e != 0) = true := by simpa using he
    rw [IS.next_bad h.bad n he]
    clear h he
    go_enter Try.func66, Try.ntmps66
    go_wp2_with fail
    refine bodyPost_ret (ret_ri rfl (by rfl) (heap2 _ _ _)) rfl ?_
    exact ⟨A, c, none, 0, rfl, HH.out, .inl rfl, below2 _ _ _⟩
end Go.Proofs.Ytjdpljhhlmcbaaa
end

section
/- Bytes that are read, the reference's: the contracts of Upto, Get, Read, Done. Condition: lengths within a slice's; widths 1 to 8. -/
namespace Go.Cat
open Go.RowKit
theorem alloc_keeps {w : World} {g : Nat} {x : Obj} (h : w.heap[g]? = some x) (o : Obj) : (w.alloc o).heap[g]? = some x :=
  (((Below.refl w.heap.size w).alloc (Nat.le_refl _) o).block g (Array.getElem?_eq_some_iff.1 h).1).trans h
theorem IS.next_not {s : IS} {n : Nat} (h : (s.next n).2.2 = false) : (s.next n).1.e ≠ 0 ∧ (s.next n).2.1 = [] := by
  unfold IS.next at h ⊢
  split at h
  · rename_i h1; rw [if_pos h1]; exact ⟨h1, rfl⟩
  · rename_i h1
    split at h
    · rename_i h2; rw [if_neg h1, if_pos h2]; exact ⟨by decide, rfl⟩
    · cases h
end Go.Cat
namespace Go.Proofs.Ytjdpljhhlmcbaaa
open Go.RowKit Go.Cat

/-- What the reference's reads of numbers tell. -/
def ToldRU (r : IS × Int) (w0 w : World) (e : Ending) (w' : World) : Prop :=
  ∃ A c, e = .returned (.tuple #[ri A r.1.b.length c r.1.e, .int .u64 r.2]) ∧ RI r.1 A c w0 ∧ Below w.heap.size w w'

set_option maxRecDepth 100000 in
theorem rupto_any (s : IS) (A : Option Addr) (c n : Nat) (most : Int) (w0 w : World) (h : RI s A c w0) (hw : Below w0.heap.size w0 w) (hn1 : 1 ≤ n) (hn8 : n ≤ 8) :
    Calls Try.prog 39 #[ri A s.b.length c s.e, .int .i64 (n : Int), .int .u64 most] w (ToldRU (s.upto n most) w0 w) := by
  have p1 := fun w' => rraw_any s A c n w0 w' h (by omega)
  have hu : s.upto n most = if (s.next n).2.2 = false then ((s.next n).1, 0) else if most < (num (s.next n).2.1 : Int) then (⟨[], 4⟩, 0) else ((s.next n).1, (num (s.next n).2.1 : Int)) := rfl
  have hnk := IS.next_ok (s := s) (n := n)
  have hnn := IS.next_not (s := s) (n := n)
  obtain ⟨s1, hs1⟩ : ∃ s1, s1 = (s.next n).1 := ⟨_, rfl⟩
  obtain ⟨out, hout⟩ : ∃ out, out = (s.next n).2.1 := ⟨_, rfl⟩
  obtain ⟨ok, hok⟩ : ∃ ok, ok = (s.next n).2.2 := ⟨_, rfl⟩
  rw [← hs1, ← hout, ← hok] at hnk hnn hu
  rw [← hs1, ← hout] at p1
  have P1 := Lib.hid p1
  have HU := Lib.hid hu
  have HK := Lib.hid hnk
  have HN := Lib.hid hnn
  have d1 : decide (n < 1) = false := by simp; omega
  have d1' : decide ((n : Int) < 1) = false := by simp; omega
  have d1'' : decide (n = 0) = false := by simp; omega
  have d2 : decide ((8 : Int) < (n : Int)) = false := by simp; omega
  have d2' : decide (8 < n) = false := by simp; omega
  have hB0 := below2 w (.cells #[.slice A s.b.length c, .int .i64 s.e] 83) (.cells #[.slice none 0 0, .int .i64 0] 83)
  clear p1 h hs1 hout hok hu hnk hnn
  go_enter Try.func39, Try.ntmps39
  go_wp2_with fail
  refine (P1.out _).mono ?_
  rintro e w1 ⟨A1, c1, A2, c2, rfl, hr1, hb1, hB1⟩
  have hbx : w1.heap[w.heap.size + 1]? = some (.cells #[.slice none 0 0, .int .i64 0] 83 (0, 0)) := (hB1.block _ (by simp)).trans (heap2 _ _ _)
  have m0 : w1.cell? ⟨w.heap.size + 1, 0, none⟩ = some (.slice none 0 0) := cell_of_row w1 _ 0 _ _ _ hbx
  have m1 : w1.cell? ⟨w.heap.size + 1, 1, none⟩ = some (.int .i64 0) := cell_of_row w1 _ 1 _ _ _ hbx
  have g0 : w1.frozen? ⟨w.heap.size + 1, 0, none⟩ = false := frozen_of_row w1 _ 0 _ _ hbx
  have g1 : w1.frozen? ⟨w.heap.size + 1, 1, none⟩ = false := frozen_of_row w1 _ 1 _ _ hbx
  have hlt1 : w.heap.size + 1 < w1.heap.size := (Array.getElem?_eq_some_iff.1 hbx).1
  have hlt0 : w.heap.size < w1.heap.size := by omega
  have hne1 : ¬ w.heap.size + 1 = w1.heap.size := by omega
  have hB1w : Below w.heap.size w w1 := hB0.trans (hB1.mono hB0.size)
  have HBx := Lib.hid hbx
  have HR1 := Lib.hid hr1
  have HB1 := Lib.hid hb1
  have HBw := Lib.hid hB1w
  clear hr1 hb1 hB1 hB1w hB0 hbx
  cases ok with
  | false =>
    have hk := HN.out rfl
    have e1 : (s1.e != 0) = true := by simpa using hk.1
    have hu : s.upto n most = (s1, 0) := by rw [HU.out, if_pos rfl]
    have HV := Lib.hid hu
    clear hk hu
    go_wp2_with fail
    refine bodyPost_ret (ret_ri rfl (by rfl) (alloc_keeps (set_block _ (set_block _ HBx.out)) _)) rfl ?_
    rw [HV.out]
    exact ⟨A1, c1, rfl, HR1.out, ((HBw.out.setCell (Nat.le_succ _) _).setCell (Nat.le_succ _) _).alloc (by simp; omega) _⟩
  | true =>
    have hk := HK.out rfl
    have e1 : (s1.e != 0) = false := by simpa using hk.1
    have p3 := fun w' (hB : Below w0.heap.size w0 w') => rnum_any A2 c2 out w' (HB1.out.below hB) (by omega)
    obtain ⟨z, hz⟩ : ∃ z : Int, z = (num out : Int) := ⟨_, rfl⟩
    rw [← hz] at p3
    have P3 := Lib.hid p3
    have HZ := Lib.hid hz
    have HE := Lib.hid hk.1
    clear hk hz p3
    by_cases hm : most < z
    · have t2 : decide (most < z) = true := by simpa using hm
      have hu : s.upto n most = (⟨[], 4⟩, 0) := by rw [HU.out, if_neg (by simp), if_pos (by rw [← HZ.out]; exact hm)]
      have HV := Lib.hid hu
      clear hu hm
      have hB2 : Below w0.heap.size w0 (w1.alloc (.cells #[.slice A1 s1.b.length c1, .int .i64 s1.e] 83)) := (hw.trans (HBw.out.mono hw.size)).alloc (Nat.le_trans hw.size HBw.out.size) _
      go_wp2_with fail
      refine (P3.out _ hB2).mono ?_
      rintro e w3 ⟨rfl, rfl⟩
      have PF := Lib.hid (fun w => rfail_any A1 s1.b.length c1 4 w)
      rw [HE.out]
      go_wp2_with fail
      refine (PF.out _).mono ?_
      rintro e w4 ⟨rfl, hB4⟩
      have hb4 : w4.heap[w.heap.size + 1]? = some (.cells #[.slice none 0 0, .int .i64 0] 83 (0, 0)) := (hB4.block _ (by simp; omega)).trans (alloc_keeps HBx.out _)
      have x0 : w4.cell? ⟨w.heap.size + 1, 0, none⟩ = some (.slice none 0 0) := cell_of_row w4 _ 0 _ _ _ hb4
      have x1 : w4.cell? ⟨w.heap.size + 1, 1, none⟩ = some (.int .i64 0) := cell_of_row w4 _ 1 _ _ _ hb4
      have y0 : w4.frozen? ⟨w.heap.size + 1, 0, none⟩ = false := frozen_of_row w4 _ 0 _ _ hb4
      have y1 : w4.frozen? ⟨w.heap.size + 1, 1, none⟩ = false := frozen_of_row w4 _ 1 _ _ hb4
      have hB4w : Below w.heap.size w w4 := (HBw.out.alloc (by omega) _).trans (hB4.mono (by simp; omega))
      have HB4 := Lib.hid hb4
      clear hB4 hb4
      go_wp2_with fail
      refine bodyPost_ret (ret_ri rfl (by rfl) (set_block _ (set_block _ HB4.out))) rfl ?_
      rw [HV.out]
      exact ⟨none, 0, rfl, RI.fresh _ 4, (hB4w.setCell (Nat.le_succ _) _).setCell (Nat.le_succ _) _⟩
    · have t2 : decide (most < z) = false := by simpa using hm
      have hu : s.upto n most = (s1, z) := by rw [HU.out, if_neg (by simp), if_neg (by rw [← HZ.out]; exact hm), ← HZ.out]
      have HV := Lib.hid hu
      clear hu hm
      have hB2 : Below w0.heap.size w0 (w1.alloc (.cells #[.slice A1 s1.b.length c1, .int .i64 s1.e] 83)) := (hw.trans (HBw.out.mono hw.size)).alloc (Nat.le_trans hw.size HBw.out.size) _
      go_wp2_with fail
      refine (P3.out _ hB2).mono ?_
      rintro e w3 ⟨rfl, rfl⟩
      go_wp2_with fail
      have fin : ∀ W', Below w.heap.size w W' → ToldRU (s.upto n most) w0 w (.returned (.tuple #[ri A1 s1.b.length c1 s1.e, .int .u64 z])) W' := fun W' hB => by
        rw [HV.out]
        exact ⟨A1, c1, rfl, HR1.out, hB⟩
      have HFin := Lib.hid fin
      clear fin
      first | go_region_with (go_at_call 67; refine (P3.out _ (by first | exact hB2 | exact hB2.drew)).mono ?_; rintro e w4 ⟨rfl, rfl⟩) | fail
      all_goals
        go_wp2_with fail
        refine bodyPost_ret (ret_ri rfl (by rfl) (alloc_keeps (set_block _ (set_block _ HBx.out)) _)) rfl ?_
        exact HFin.out _ (((HBw.out.setCell (Nat.le_succ _) _).setCell (Nat.le_succ _) _).alloc (by simp; omega) _).drew
end Go.Proofs.Ytjdpljhhlmcbaaa
end

section
/- Bytes that are read, the reference's: the contracts of Get, Read, Done. Condition: lengths within a slice's; widths 1 to 8. -/
namespace Go.Proofs.Ytjdpljhhlmcbaaa
open Go.RowKit Go.Cat

theorem rget_any (s : IS) (A : Option Addr) (c n : Nat) (w0 w : World) (h : RI s A c w0) (hw : Below w0.heap.size w0 w) (hn1 : 1 ≤ n) (hn8 : n ≤ 8) :
    Calls Try.prog 40 #[ri A s.b.length c s.e, .int .i64 (n : Int)] w (ToldRU (s.upto n 18446744073709551615) w0 w) := by
  have hB0 := below2 w (.cells #[.slice A s.b.length c, .int .i64 s.e] 83) (.cells #[.slice none 0 0, .int .i64 0] 83)
  have p1 := fun w' (hB : Below w.heap.size w w') => rupto_any s A c n 18446744073709551615 w0 w' h (hw.trans (hB.mono hw.size)) hn1 hn8
  obtain ⟨r, hr⟩ : ∃ r, r = s.upto n 18446744073709551615 := ⟨_, rfl⟩
  rw [← hr] at p1 ⊢
  have P1 := Lib.hid p1
  clear p1 h hr hn1 hn8
  go_enter Try.func40, Try.ntmps40
  go_wp2_with fail
  refine (P1.out _ hB0).mono ?_
  rintro e w1 ⟨A1, c1, rfl, hr1, hB1⟩
  have hbx : w1.heap[w.heap.size + 1]? = some (.cells #[.slice none 0 0, .int .i64 0] 83 (0, 0)) := (hB1.block _ (by simp)).trans (heap2 _ _ _)
  have m0 : w1.cell? ⟨w.heap.size + 1, 0, none⟩ = some (.slice none 0 0) := cell_of_row w1 _ 0 _ _ _ hbx
  have m1 : w1.cell? ⟨w.heap.size + 1, 1, none⟩ = some (.int .i64 0) := cell_of_row w1 _ 1 _ _ _ hbx
  have g0 : w1.frozen? ⟨w.heap.size + 1, 0, none⟩ = false := frozen_of_row w1 _ 0 _ _ hbx
  have g1 : w1.frozen? ⟨w.heap.size + 1, 1, none⟩ = false := frozen_of_row w1 _ 1 _ _ hbx
  have hB1w : Below w.heap.size w w1 := hB0.trans (hB1.mono hB0.size)
  have HBx := Lib.hid hbx
  have HR1 := Lib.hid hr1
  have HBw := Lib.hid hB1w
  clear hr1 hB1 hB1w hB0 hbx
  go_wp2_with fail
  refine bodyPost_ret (ret_ri rfl (by rfl) (set_block _ (set_block _ HBx.out))) rfl ?_
  exact ⟨A1, c1, rfl, HR1.out, (HBw.out.setCell (Nat.le_succ _) _).setCell (Nat.le_succ _) _⟩

theorem rdone_any (s : IS) (A : Option Addr) (c : Nat) (w : World) :
    Calls Try.prog 42 #[ri A s.b.length c s.e] w fun e w' => e = .returned (.int .i64 s.done) ∧ Below w.heap.size w w' := by
  have hd : s.done = if s.e ≠ 0 then s.e else if 0 < s.b.length then 4 else 0 := rfl
  by_cases he : s.e = 0
  · have d : (s.e == 0) = true := by simpa using he
    by_cases hl : 0 < s.b.length
    · have d2 : decide (0 < s.b.length) = true := by simpa using hl
      rw [if_neg (by simpa using he), if_pos hl] at hd
      have HD := Lib.hid hd
      clear hd he hl
      go_enter Try.func42, Try.ntmps42
      go_wp2_with fail
      go_ret
      rw [HD.out]
      exact ⟨rfl, (Below.refl _ _).alloc (Nat.le_refl _) _⟩
    · have d2 : decide (0 < s.b.length) = false := by simpa using hl
      rw [if_neg (by simpa using he), if_neg hl] at hd
      have HD := Lib.hid hd
      have HE := Lib.hid he
      clear hd he hl
      go_enter Try.func42, Try.ntmps42
      go_wp2_with fail
      go_ret
      rw [HD.out]
      exact ⟨by show Ending.returned (.int .i64 s.e) = _; rw [HE.out], (Below.refl _ _).alloc (Nat.le_refl _) _⟩
  · have d : (s.e == 0) = false := by simpa using he
    rw [if_pos (by simpa using he)] at hd
    have HD := Lib.hid hd
    clear hd he
    go_enter Try.func42, Try.ntmps42
    go_wp2_with fail
    go_ret
    rw [HD.out]
    exact ⟨rfl, (Below.refl _ _).alloc (Nat.le_refl _) _⟩
end Go.Proofs.Ytjdpljhhlmcbaaa
end

section
/- Bytes that are read, the reference's: the contract of Read. Condition: lengths within a slice's. -/
namespace Go.Proofs.Ytjdpljhhlmcbaaa
open Go.RowKit Go.Cat

set_option maxRecDepth 100000 in
theorem rread_any (s : IS) (A : Option Addr) (c : Nat) (most : Int) (w0 w : World) (h : RI s A c w0) (hw : Below w0.heap.size w0 w) :
    Calls Try.prog 41 #[ri A s.b.length c s.e, .int .i64 most] w (ToldRR (s.text most).1 (s.text most).2 w0 w) := by
  have hB0 := below2 w (.cells #[.slice A s.b.length c, .int .i64 s.e] 83) (.cells #[.slice none 0 0, .int .i64 0] 83)
  have p1 := fun w' (hB : Below w.heap.size w w') => rget_any s A c 2 w0 w' h (hw.trans (hB.mono hw.size)) (by omega) (by omega)
  have hu : s.text most = if (s.next 2).2.2 = false then ((s.next 2).1, []) else if most < (num (s.next 2).2.1 : Int) then (⟨[], 6⟩, []) else (((s.next 2).1.next (num (s.next 2).2.1)).1, ((s.next 2).1.next (num (s.next 2).2.1)).2.1) := rfl
  have hup : s.upto 2 18446744073709551615 = if (s.next 2).2.2 = false then ((s.next 2).1, 0) else if (18446744073709551615 : Int) < (num (s.next 2).2.1 : Int) then (⟨[], 4⟩, 0) else ((s.next 2).1, (num (s.next 2).2.1 : Int)) := rfl
  have hnk := IS.next_ok (s := s) (n := 2)
  have hnn := IS.next_not (s := s) (n := 2)
  obtain ⟨s1, hs1⟩ : ∃ s1, s1 = (s.next 2).1 := ⟨_, rfl⟩
  obtain ⟨out, hout⟩ : ∃ out, out = (s.next 2).2.1 := ⟨_, rfl⟩
  obtain ⟨ok, hok⟩ : ∃ ok, ok = (s.next 2).2.2 := ⟨_, rfl⟩
  rw [← hs1, ← hout, ← hok] at hnk hnn hu hup
  have HU := Lib.hid hu
  obtain ⟨z, hz⟩ : ∃ z, z = (if ok = false then 0 else num out) := ⟨_, rfl⟩
  have hz5 : z ≤ 65535 := by
    rw [hz]
    split
    · omega
    · exact num2_le (hnk (by simpa using ‹¬ok = false›)).2
  have hup2 : s.upto 2 18446744073709551615 = (s1, (z : Int)) := by
    rw [hup, hz]
    split
    · rfl
    · rename_i h1
      have := num2_le (hnk (by simpa using h1)).2
      rw [if_neg (by omega)]
  rw [hup2] at p1
  have P1 := Lib.hid p1
  have HK := Lib.hid hnk
  have HN := Lib.hid hnn
  have HZ := Lib.hid hz
  have hwz : IntKind.i64.wrap (z : Int) = (z : Int) := IntWalk.i64_in _ (by omega)
  clear p1 h hs1 hout hok hu hup hup2 hnk hnn hz
  go_enter Try.func41, Try.ntmps41
  go_wp2_with fail
  refine (P1.out _ hB0).mono ?_
  rintro e w1 ⟨A1, c1, rfl, hr1, hB1⟩
  have hbx : w1.heap[w.heap.size + 1]? = some (.cells #[.slice none 0 0, .int .i64 0] 83 (0, 0)) := (hB1.block _ (by simp)).trans (heap2 _ _ _)
  have m0 : w1.cell? ⟨w.heap.size + 1, 0, none⟩ = some (.slice none 0 0) := cell_of_row w1 _ 0 _ _ _ hbx
  have m1 : w1.cell? ⟨w.heap.size + 1, 1, none⟩ = some (.int .i64 0) := cell_of_row w1 _ 1 _ _ _ hbx
  have g0 : w1.frozen? ⟨w.heap.size + 1, 0, none⟩ = false := frozen_of_row w1 _ 0 _ _ hbx
  have g1 : w1.frozen? ⟨w.heap.size + 1, 1, none⟩ = false := frozen_of_row w1 _ 1 _ _ hbx
  have hlt1 : w.heap.size + 1 < w1.heap.size := (Array.getElem?_eq_some_iff.1 hbx).1
  have hlt0 : w.heap.size < w1.heap.size := by omega
  have hne1 : ¬ w.heap.size + 1 = w1.heap.size := by omega
  have hB1w : Below w.heap.size w w1 := hB0.trans (hB1.mono hB0.size)
  have HBx := Lib.hid hbx
  have HR1 := Lib.hid hr1
  have HBw := Lib.hid hB1w
  clear hr1 hB1 hB1w hB0 hbx
  cases ok with
  | false =>
    have hk := HN.out rfl
    have e1 : (s1.e != 0) = true := by simpa using hk.1
    have hu : s.text most = (s1, []) := by rw [HU.out, if_pos rfl]
    have HV := Lib.hid hu
    clear hk hu
    go_wp2_with fail
    refine bodyPost_ret (ret_ri rfl (by rfl) (alloc_keeps (set_block _ (set_block _ HBx.out)) _)) rfl ?_
    rw [HV.out]
    exact ⟨A1, c1, none, 0, rfl, HR1.out, .inl rfl, ((HBw.out.setCell (Nat.le_succ _) _).setCell (Nat.le_succ _) _).alloc (by simp; omega) _⟩
  | true =>
    have hk := HK.out rfl
    have e1 : (s1.e != 0) = false := by simpa using hk.1
    have hz2 : z = num out := by rw [HZ.out]; rfl
    have HZ2 := Lib.hid hz2
    have HE := Lib.hid hk.1
    clear hk hz2
    by_cases hm : most < (z : Int)
    · have t2 : decide (most < (z : Int)) = true := by simpa using hm
      have hu : s.text most = (⟨[], 6⟩, []) := by rw [HU.out, if_neg (by simp), if_pos (by rw [← HZ2.out]; exact hm)]
      have HV := Lib.hid hu
      have PF := Lib.hid (fun w => rfail_any A1 s1.b.length c1 6 w)
      rw [HE.out]
      clear hu hm
      go_wp2_with fail
      refine (PF.out _).mono ?_
      rintro e w4 ⟨rfl, hB4⟩
      have hb4 : w4.heap[w.heap.size + 1]? = some (.cells #[.slice none 0 0, .int .i64 0] 83 (0, 0)) := (hB4.block _ (by simp; omega)).trans (alloc_keeps HBx.out _)
      have x0 : w4.cell? ⟨w.heap.size + 1, 0, none⟩ = some (.slice none 0 0) := cell_of_row w4 _ 0 _ _ _ hb4
      have x1 : w4.cell? ⟨w.heap.size + 1, 1, none⟩ = some (.int .i64 0) := cell_of_row w4 _ 1 _ _ _ hb4
      have y0 : w4.frozen? ⟨w.heap.size + 1, 0, none⟩ = false := frozen_of_row w4 _ 0 _ _ hb4
      have y1 : w4.frozen? ⟨w.heap.size + 1, 1, none⟩ = false := frozen_of_row w4 _ 1 _ _ hb4
      have hB4w : Below w.heap.size w w4 := (HBw.out.alloc (by omega) _).trans (hB4.mono (by simp; omega))
      have HB4 := Lib.hid hb4
      clear hB4 hb4
      go_wp2_with fail
      refine bodyPost_ret (ret_ri rfl (by rfl) (set_block _ (set_block _ HB4.out))) rfl ?_
      rw [HV.out]
      exact ⟨none, 0, none, 0, rfl, RI.fresh _ 6, .inl rfl, (hB4w.setCell (Nat.le_succ _) _).setCell (Nat.le_succ _) _⟩
    · have t2 : decide (most < (z : Int)) = false := by simpa using hm
      have hu : s.text most = ((s1.next z).1, (s1.next z).2.1) := by rw [HU.out, if_neg (by simp), if_neg (by rw [← HZ2.out]; exact hm), ← HZ2.out]
      have HV := Lib.hid hu
      have p4 := fun w' => rraw_any s1 A1 c1 z w0 w' HR1.out (by omega)
      have P4 := Lib.hid p4
      clear hu hm p4
      go_wp2_with fail
      refine (P4.out _).mono ?_
      rintro e w4 ⟨A4, c4, A5, c5, rfl, hr4, hb5, hB4⟩
      have hb4 : w4.heap[w.heap.size + 1]? = some (.cells #[.slice none 0 0, .int .i64 0] 83 (0, 0)) := (hB4.block _ (by simp; omega)).trans (alloc_keeps HBx.out _)
      have x0 : w4.cell? ⟨w.heap.size + 1, 0, none⟩ = some (.slice none 0 0) := cell_of_row w4 _ 0 _ _ _ hb4
      have x1 : w4.cell? ⟨w.heap.size + 1, 1, none⟩ = some (.int .i64 0) := cell_of_row w4 _ 1 _ _ _ hb4
      have y0 : w4.frozen? ⟨w.heap.size + 1, 0, none⟩ = false := frozen_of_row w4 _ 0 _ _ hb4
      have y1 : w4.frozen? ⟨w.heap.size + 1, 1, none⟩ = false := frozen_of_row w4 _ 1 _ _ hb4
      have hB4w : Below w.heap.size w w4 := (HBw.out.alloc (by omega) _).trans (hB4.mono (by simp; omega))
      have HB4 := Lib.hid hb4
      have HR4 := Lib.hid hr4
      have HB5 := Lib.hid hb5
      clear hB4 hb4 hr4 hb5
      go_wp2_with fail
      refine bodyPost_ret (ret_ri rfl (by rfl) (set_block _ (set_block _ HB4.out))) rfl ?_
      rw [HV.out]
      exact ⟨A4, c4, A5, c5, rfl, HR4.out, HB5.out, (hB4w.setCell (Nat.le_succ _) _).setCell (Nat.le_succ _) _⟩
end Go.Proofs.Ytjdpljhhlmcbaaa
end

section
/- The contract of the reference's Check. Condition: keys are uint32, lengths within a slice's. -/
namespace Go.Proofs.Ytjdpljhhlmcbaaa
open Go.RowKit Go.Cat Go.Cat.Vol

set_option maxRecDepth 100000 in
set_option maxHeartbeats 2000000 in
theorem rcheck_any (I B : Int) (A : Option Addr) (rs : List Pr) (c : Nat) (w : World) (hs : Sees w A (prows rs)) (hin : ∀ r ∈ rs, PvK r.1) :
    Calls Try.prog 25 #[.agg #[.int .i64 I, .int .i64 B], .slice A rs.length c] w fun e w' => e = .returned (.int .i64 (checkV I B (rs.map (·.1)))) ∧ Below w.heap.size w w' := by
  obtain ⟨l, hl⟩ : ∃ l, l = rs.map (·.1) := ⟨_, rfl⟩
  rw [← hl]
  obtain ⟨n, hn⟩ : ∃ n, n = rs.length := ⟨_, rfl⟩
  have hll : l.length = n := by rw [hl, hn]; simp
  rw [← hn]
  have HL := Lib.hid hl
  have HN := Lib.hid hn
  have HLL := Lib.hid hll
  have HS := Lib.hid hs
  have HIn := Lib.hid hin
  clear hl hn hll hs hin
  by_cases hr : rightP I B
  · have HR := Lib.hid hr
    by_cases hbig : 20 < n
    · rw [check_full hr (by rw [HLL.out]; exact hbig)]
      have d1 : decide ((20 : Int) < (n : Int)) = true := by simp; omega
      have d1' : decide (20 < n) = true := by simpa using hbig
      clear hr
      go_enter Try.func25, Try.ntmps25
      go_wp2_with (go_at_call 10; refine (rright_yes _ HR.out).mono ?_; rintro e w1 ⟨rfl, hB1⟩; obtain ⟨c0, c1, hB2⟩ := boxed2 hB1)
      go_ret
      exact ⟨rfl, hB2⟩
    · have d1 : decide ((20 : Int) < (n : Int)) = false := by simp; omega
      have d1' : decide (20 < n) = false := by simpa using hbig
      have hbigl : ¬ 20 < l.length := by rw [HLL.out]; exact hbig
      obtain ⟨V, hV⟩ : ∃ V, V = checkV I B l := ⟨_, rfl⟩
      rw [← hV]
      have HV := Lib.hid hV
      have HBl := Lib.hid hbigl
      clear hr hV hbigl
      go_enter Try.func25, Try.ntmps25
      go_wp2_with (go_at_call 10; refine (rright_yes _ HR.out).mono ?_; rintro e w1 ⟨rfl, hB1⟩; obtain ⟨c0, c1, hB2⟩ := boxed2 hB1)
      have HC : Hid (ChkR w.heap.size I B w w1) := ⟨c0, c1, hB2⟩
      clear c0 c1 hB1 hB2
      go_loopw [5] (fun iv wr => ∃ k : Nat, k ≤ n ∧ iv = .int .i64 k ∧ Hid (Fine I B l k) ∧ Hid (ChkR w.heap.size I B w wr)) (fun iv _ => n - (intOf iv).toNat)
      case atStart => exact ⟨0, Nat.zero_le _, rfl, Fine.zero _ _ _, HC⟩
      case round =>
        clear HC
        obtain ⟨k, hk, rfl, HF, HC⟩ := hrel
        by_cases hlt : k < n
        · have hko : k < rs.length := by rw [← HN.out]; exact hlt
          obtain ⟨b, off, hAo, hbs, hc⟩ := HS.out.elem (f := pcells) (k := 3) (fun _ => rfl) (by omega) (by omega)
          obtain ⟨p, hp⟩ : ∃ p, p = rs[k] := ⟨_, rfl⟩
          have hin : PvK p.1 := HIn.out p (by rw [hp]; exact List.getElem_mem _)
          have hlk : l[k]? = some p.1 := by rw [HL.out, List.getElem?_map, List.getElem?_eq_getElem hko, hp]; rfl
          have bel := HC.out.bel
          have e0 := (bel.cell (p := ⟨b, _, none⟩) hbs).trans (hc k hko 0 (by omega))
          have e2 := (bel.cell (p := ⟨b, _, none⟩) hbs).trans (hc k hko 2 (by omega))
          rw [← hp] at e0 e2
          replace e0 : wr.cell? ⟨b, off + k * 3, none⟩ = some (.int .u32 p.1.key) := e0
          replace e2 : wr.cell? ⟨b, off + k * 3 + 2, none⟩ = some (.slice p.2.1 p.1.b.length p.2.2) := by rw [Nat.add_assoc]; exact e2
          have hprev : 0 < k → ∃ q : Pr, l[k - 1]? = some q.1 ∧ wr.cell? ⟨b, off + (k - 1) * 3, none⟩ = some (.int .u32 q.1.key) := fun h0 => by
            have hk1 : k - 1 < rs.length := by omega
            exact ⟨rs[k - 1], by rw [HL.out, List.getElem?_map, List.getElem?_eq_getElem hk1]; rfl, (bel.cell (p := ⟨b, _, none⟩) hbs).trans (hc (k - 1) hk1 0 (by omega))⟩
          have hpl : p.1.b.length ≤ maxLen := hin.len
          have hkind := fun W => rwhat_any I B p.1.key W hin.key0
          obtain ⟨K, hK⟩ : ∃ K, K = kind I B p.1.key := ⟨_, rfl⟩
          rw [← hK] at hkind
          have HKd := Lib.hid hkind
          have HKe := Lib.hid hK
          have HPrev := Lib.hid hprev
          have HLk := Lib.hid hlk
          have hkI : (k : Int) < (n : Int) := by omega
          have hk0 : (0 : Int) ≤ (k : Int) := by omega
          have c0 := HC.out.c0
          have c1 := HC.out.c1
          have hbr : b < wr.heap.size := World.block_lt_of_cell? _ _ e0
          have next : ∀ w2, Below wr.drew.heap.size wr.drew w2 → w2.cell? ⟨b, off + k * 3, none⟩ = some (.int .u32 p.1.key) ∧ w2.cell? ⟨b, off + k * 3 + 2, none⟩ = some (.slice p.2.1 p.1.b.length p.2.2) ∧ Hid (ChkR w.heap.size I B w w2) ∧ (∀ x, w2.cell? ⟨b, x, none⟩ = wr.cell? ⟨b, x, none⟩) := fun w2 h2 => by
            have h3 : Below wr.heap.size wr w2 := below_undrew h2
            exact ⟨(h3.cell (p := ⟨b, _, none⟩) hbr).trans e0, (h3.cell (p := ⟨b, _, none⟩) hbr).trans e2, HC.out.below h3, fun x => h3.cell (p := ⟨b, x, none⟩) hbr⟩
          have HNext := Lib.hid next
          unfold maxLen at hpl
          rw [hAo]
          clear hp hc hin bel hAo hprev hlk hkind hK hko next
          by_cases t0 : K < 2
          · have hbd : V = 20 := by rw [HV.out]; exact check_bad HR.out HBl.out (by rw [HLL.out]; exact hlt) HF.out (bad_range HLk.out (by rw [← HKe.out]; exact t0)) (by decide)
            have HBd := Lib.hid hbd
            have q0 : decide (K < 2) = true := by simpa using t0
            clear hbd t0
            go_wp2_with fail
            first | go_region_with (go_at_call 8; refine (HKd.out _).mono ?_; rintro e w2 ⟨rfl, h2⟩; obtain ⟨x0, x2, HC2, hold⟩ := HNext.out w2 h2; clear hold h2) | fail
            all_goals
              go_wp2
              rw [HBd.out]
              go_ret
              exact ⟨rfl, HC2.out.bel⟩
          · have q0 : decide (K < 2) = false := by simpa using t0
            have HK2 : Hid (¬ kind I B p.1.key < 2) := by show ¬ _; rw [← HKe.out]; exact t0
            clear t0
            by_cases hk1 : 0 < k
            · obtain ⟨q, hq1, hq2⟩ := HPrev.out hk1
              have HQ1 := Lib.hid hq1
              have g1 : decide (0 < k) = true := by simpa using hk1
              have g1' : decide ((0 : Int) < (k : Int)) = true := by simpa using hk1
              have hkm : (1 : Int) ≤ (k : Int) := by omega
              clear hq1
              by_cases hle : p.1.key ≤ q.1.key
              · have g2 : decide (p.1.key ≤ q.1.key) = true := by simpa using hle
                have hbd : V = 4 := by rw [HV.out]; exact check_bad HR.out HBl.out (by rw [HLL.out]; exact hlt) HF.out (bad_form HLk.out HK2.out hk1 HQ1.out hle) (by decide)
                have HBd := Lib.hid hbd
                clear hbd hle
                go_wp2_with fail
                first | go_region_with (go_at_call 8; refine (HKd.out _).mono ?_; rintro e w2 ⟨rfl, h2⟩; obtain ⟨x0, x2, HC2, hold⟩ := HNext.out w2 h2; have y0 := (hold _).trans hq2; clear hold h2) | fail
                all_goals
                  go_wp2_with fail
                  go_quiet (fail)
                  go_wp2
                  rw [HBd.out]
                  go_ret
                  exact ⟨rfl, below_drewN HC2.out.bel _⟩
              · have g2 : decide (p.1.key ≤ q.1.key) = false := by simpa using hle
                have HLt : Hid (0 < k → ∀ q, l[k - 1]? = some q → q.key < p.1.key) := fun _ q' hq' => by
                  have := HQ1.out.symm.trans hq'
                  injection this with this
                  rw [← this]; omega
                clear hle
                by_cases hlg : 64 < p.1.b.length
                · have g3 : decide ((64 : Int) < (p.1.b.length : Int)) = true := by simp; omega
                  have g3' : decide (64 < p.1.b.length) = true := by simpa using hlg
                  have hbd : V = 6 := by rw [HV.out]; exact check_bad HR.out HBl.out (by rw [HLL.out]; exact hlt) HF.out (bad_long HLk.out HK2.out HLt.out hlg) (by decide)
                  have HBd := Lib.hid hbd
                  clear hbd hlg
                  go_wp2_with fail
                  first | go_region_with (go_at_call 8; refine (HKd.out _).mono ?_; rintro e w2 ⟨rfl, h2⟩; obtain ⟨x0, x2, HC2, hold⟩ := HNext.out w2 h2; have y0 := (hold _).trans hq2; clear hold h2) | fail
                  all_goals
                    go_wp2_with fail
                    go_quiet (fail)
                    go_wp2
                    rw [HBd.out]
                    go_ret
                    exact ⟨rfl, below_drewN HC2.out.bel _⟩
                · have g3 : decide ((64 : Int) < (p.1.b.length : Int)) = false := by simp; omega
                  have g3' : decide (64 < p.1.b.length) = false := by simpa using hlg
                  have HFn : Hid (Fine I B l (k + 1)) := HF.out.succ (bad_not HLk.out HK2.out HLt.out hlg)
                  clear hlg
                  go_wp2_with fail
                  first | go_region_with (go_at_call 8; refine (HKd.out _).mono ?_; rintro e w2 ⟨rfl, h2⟩; obtain ⟨x0, x2, HC2, hold⟩ := HNext.out w2 h2; have y0 := (hold _).trans hq2; clear hold h2) | fail
                  all_goals
                    go_wp2_with fail
                    go_quiet (fail)
                    go_wp2
                    go_roundw
                    case rel => exact ⟨k + 1, by omega, by go_num, HFn, HC2.out.below (below_drewN (Below.refl _ _) _)⟩
                    case measure => simp [intOf]; omega
            · have g1 : decide (0 < k) = false := by simpa using hk1
              have g1' : decide ((0 : Int) < (k : Int)) = false := by simp; omega
              have HLt : Hid (0 < k → ∀ q, l[k - 1]? = some q → q.key < p.1.key) := fun h => absurd h hk1
              clear hk1
              by_cases hlg : 64 < p.1.b.length
              · have g3 : decide ((64 : Int) < (p.1.b.length : Int)) = true := by simp; omega
                have g3' : decide (64 < p.1.b.length) = true := by simpa using hlg
                have hbd : V = 6 := by rw [HV.out]; exact check_bad HR.out HBl.out (by rw [HLL.out]; exact hlt) HF.out (bad_long HLk.out HK2.out HLt.out hlg) (by decide)
                have HBd := Lib.hid hbd
                clear hbd hlg
                go_wp2_with fail
                first | go_region_with (go_at_call 8; refine (HKd.out _).mono ?_; rintro e w2 ⟨rfl, h2⟩; obtain ⟨x0, x2, HC2, hold⟩ := HNext.out w2 h2; clear hold h2) | fail
                all_goals
                  go_wp2_with fail
                  go_quiet (fail)
                  go_wp2
                  rw [HBd.out]
                  go_ret
                  exact ⟨rfl, below_drewN HC2.out.bel _⟩
              · have g3 : decide ((64 : Int) < (p.1.b.length : Int)) = false := by simp; omega
                have g3' : decide (64 < p.1.b.length) = false := by simpa using hlg
                have HFn : Hid (Fine I B l (k + 1)) := HF.out.succ (bad_not HLk.out HK2.out HLt.out hlg)
                clear hlg
                go_wp2_with fail
                first | go_region_with (go_at_call 8; refine (HKd.out _).mono ?_; rintro e w2 ⟨rfl, h2⟩; obtain ⟨x0, x2, HC2, hold⟩ := HNext.out w2 h2; clear hold h2) | fail
                all_goals
                  go_wp2_with fail
                  go_quiet (fail)
                  go_wp2
                  go_roundw
                  case rel => exact ⟨k + 1, by omega, by go_num, HFn, HC2.out.below (below_drewN (Below.refl _ _) _)⟩
                  case measure => simp [intOf]; omega
        · obtain rfl : k = n := by omega
          have hbd : V = 0 := by rw [HV.out]; exact check_fine HR.out HBl.out (by rw [HLL.out]; exact HF.out)
          have HBd := Lib.hid hbd
          clear hbd
          go_wp2
          rw [HBd.out]
          go_ret
          exact ⟨rfl, HC.out.bel⟩
  · rw [check_no hr]
    have HR := Lib.hid hr
    clear hr
    go_enter Try.func25, Try.ntmps25
    go_wp2_with (go_at_call 10; refine (rright_not _ HR.out).mono ?_; rintro e w1 ⟨rfl, hB1⟩; obtain ⟨c0, c1, hB2⟩ := boxed2 hB1)
    go_ret
    exact ⟨rfl, hB2⟩
end Go.Proofs.Ytjdpljhhlmcbaaa
end

section
/- The contract of the reference's Get of patches. Condition: lengths within a slice's. -/
namespace Go.Proofs.Ytjdpljhhlmcbaaa
open Go.RowKit Go.Cat Go.Cat.Vol

theorem info_rpatch : (Try.prog.info? 89).map (fun i => (i.zero, i.size, i.bytes)) = some (some (.agg #[.int .u32 0, .int .u64 0, .slice none 0 0]), 3, 40) := by kernel_rfl
theorem elem_rpatch : Elem Try.prog 41 89 (.agg #[.int .u32 0, .int .u64 0, .slice none 0 0]) 3 40 := ⟨Try.underlying41, info_rpatch, rfl, by decide, by decide⟩

/-- What the loop of the reference's reads keeps: the box H of what is left, the row of what was read. -/
structure RGet (H : Nat) (v : Value) (rs : List Pr) (s : IS) (I B : Int) (w wr : World) : Prop where
  box : ∃ A c, wr.heap[H]? = some (.cells #[.slice A s.b.length c, .int .i64 s.e] 83 (0, 0)) ∧ RI s A c w
  sh : wr.heap[w.heap.size]? = some (.cells #[.int .i64 I, .int .i64 B] 23 (0, 0))
  own : wr.ownsRow (H + 1) 89 3 v rs.length (prows rs)
  each : ∀ r ∈ rs, Bytes w r.2.1 r.1.b
  bel : Below w.heap.size w wr
  le : w.heap.size < H
section
variable {H : Nat} {v : Value} {rs : List Pr} {s s' : IS} {I B : Int} {w wr w' : World}
theorem RGet.lt (h : RGet H v rs s I B w wr) : H < wr.heap.size := by obtain ⟨A, c, h1, _⟩ := h.box; exact (Array.getElem?_eq_some_iff.1 h1).1
theorem RGet.below (h : RGet H v rs s I B w wr) (hb : Below wr.heap.size wr w') : RGet H v rs s I B w w' := by
  obtain ⟨A, c, h1, h2⟩ := h.box
  exact ⟨⟨A, c, (hb.block H (Array.getElem?_eq_some_iff.1 h1).1).trans h1, h2⟩, (hb.block _ (Array.getElem?_eq_some_iff.1 h.sh).1).trans h.sh, own_touch (K := fun _ => False) h.own (Tch.of_below hb) (fun _ _ e => e), h.each, h.bel.trans (hb.mono h.bel.size), h.le⟩
/-- A store into the box of what is left, and into another box of that type. -/
theorem RGet.store {A : Option Addr} {c : Nat} {K : Nat → Prop} (h : RGet H v rs s I B w wr) (hr : RI s' A c w) (ht : Tch K wr w') (hK : ∀ k, K k → w.heap.size < k ∧ ∃ cs fr, wr.heap[k]? = some (.cells cs 83 fr)) (hb : w'.heap[H]? = some (.cells #[.slice A s'.b.length c, .int .i64 s'.e] 83 (0, 0))) : RGet H v rs s' I B w w' :=
  ⟨⟨A, c, hb, hr⟩, (ht.block _ (Array.getElem?_eq_some_iff.1 h.sh).1 (fun e => by have := (hK _ e).1; omega)).trans h.sh, own_touch h.own ht (fun k hk e => by
    obtain ⟨cs, fr, hc⟩ := own_typeV h.own hk
    obtain ⟨_, cs', fr', hc'⟩ := hK k e
    rw [hc] at hc'
    injection hc' with hc'
    injection hc' with _ hc'
    exact absurd hc' (by decide)), h.each, h.bel.trans (ht.below h.bel.size (fun k e => Nat.le_of_lt (hK k e).1)), h.le⟩
theorem RGet.push {r : Pr} {v2 : Value} (h : RGet H v rs s I B w wr) (hr : Bytes w r.2.1 r.1.b)
    (ho : w'.ownsRow (H + 1) 89 3 v2 (rs.length + 1) (prows rs ++ pcells r)) (hg : wr.grownBy w' v.ownBlock) : RGet H v2 (rs ++ [r]) s I B w w' := by
  obtain ⟨A, c, h1, h2⟩ := h.box
  refine ⟨⟨A, c, (hg.block H h.lt (fun e => by have := (h.own.lt _ e.symm).1; omega)).trans h1, h2⟩, (hg.block _ (Array.getElem?_eq_some_iff.1 h.sh).1 (fun e => by have := (h.own.lt _ e.symm).1; have := h.le; omega)).trans h.sh, ?_, fun x hx => ?_, h.bel.own (base := H + 1) h.own hg h.bel.size (by have := h.le; omega), h.le⟩
  · rw [prows_snoc, List.length_append]; exact ho
  · rcases List.mem_append.1 hx with h1 | h1
    · exact h.each x h1
    · rw [List.mem_singleton.1 h1]; exact hr
theorem RGet.pats {A : Option Addr} {n c : Nat} (h : RGet H (.slice A n c) rs s I B w wr) : Pats wr A rs := by
  obtain ⟨A', c', he, _⟩ := own_full h.own
  injection he with _ hn _
  subst hn
  exact ⟨ownN_sees h.own, fun r hr => (h.each r hr).below h.bel⟩
end

theorem set2_block {w : World} {g : Nat} {a b : Value} {t : TypeId} {fr : Nat × Nat} (x y : Value) (h : w.heap[g]? = some (.cells #[a, b] t fr)) :
    ((w.setCell ⟨g, 0, none⟩ x).setCell ⟨g, 1, none⟩ y).heap[g]? = some (.cells #[x, y] t fr) := set_block y (set_block x h)
theorem tch_set2 (w : World) (g : Nat) (x y : Value) : Tch (fun k => k = g) w ((w.setCell ⟨g, 0, none⟩ x).setCell ⟨g, 1, none⟩ y) := (Tch.set _ _ _ _).trans (Tch.set _ _ _ _)

set_option maxRecDepth 100000 in
set_option maxHeartbeats 4000000 in
theorem rgetP_any (I B : Int) (A : Option Addr) (c : Nat) (bs : List UInt8) (w : World) (hb : Bytes w A bs) (hm : bs.length ≤ c) (hc : c ≤ maxLen) (hnil : A = none → c = 0) :
    Calls Try.prog 18 #[.agg #[.int .i64 I, .int .i64 B], .slice A bs.length c] w (GotP (getV I B bs) w) := by
  obtain ⟨V, hV⟩ : ∃ V, V = getV I B bs := ⟨_, rfl⟩
  rw [← hV]
  by_cases h0 : bs = []
  · subst h0
    rw [getV_nil] at hV
    subst hV
    clear hb hm
    go_enter Try.func18, Try.ntmps18
    go_wp2_with fail
    go_ret2
    exact GotP.no ((Below.refl _ _).alloc (Nat.le_refl _) _)
  · obtain ⟨n0, hn0⟩ : ∃ n0, n0 = bs.length := ⟨_, rfl⟩
    have hpos : 0 < n0 := by rw [hn0]; exact List.length_pos_iff.2 h0
    have t0 : ((n0 : Int) == 0) = false := by simp; omega
    rw [← hn0]
    have HN0 := Lib.hid hn0
    by_cases hr : rightP I B
    · have HR := Lib.hid hr
      have HV := Lib.hid hV
      have H0 := Lib.hid h0
      have hri : RI ⟨bs, 0⟩ A c w := ⟨fun h => absurd rfl h, hb, hm, hc, hnil⟩
      have p1 := fun W (hB : Below w.heap.size w W) => rupto_any ⟨bs, 0⟩ A c 1 20 w W hri hB (by omega) (by omega)
      obtain ⟨s1, hs1⟩ : ∃ s1, s1 = (count bs).1 := ⟨_, rfl⟩
      obtain ⟨n, hn⟩ : ∃ n : Nat, (n : Int) = (count bs).2 := ⟨(count bs).2.toNat, by have := (count_bounds bs).1; omega⟩
      have hn20 : n ≤ 20 := by have := (count_bounds bs).2; omega
      have hrd : readP bs = parse s1 n := by unfold readP; rw [← hs1, ← hn]; rfl
      have hcu : (⟨bs, 0⟩ : IS).upto 1 20 = (s1, (n : Int)) := by
        show count bs = _
        rw [hs1, hn]
      rw [hcu] at p1
      change ∀ W, Below w.heap.size w W → Calls Try.prog 39 #[ri A bs.length c 0, .int .i64 ((1 : Nat) : Int), .int .u64 20] W (ToldRU (s1, (n : Int)) w W) at p1
      rw [← hn0] at p1
      have P1 := Lib.hid p1
      have HRd := Lib.hid hrd
      clear hr hV h0 hb hn0 hm hc hnil hri p1 hs1 hn hrd hcu
      go_enter Try.func18, Try.ntmps18
      go_wp2_with fail
      refine (rright_yes _ HR.out).mono ?_
      rintro e w1 ⟨rfl, hB1⟩
      obtain ⟨hbx, hB2⟩ := boxed2' hB1
      have HBx := Lib.hid hbx
      have P1' := Lib.hid (P1.out w1 hB2)
      have HB2 := Lib.hid hB2
      clear hB1 hB2 hbx P1
      go_wp2_with fail
      refine (P1'.out).mono ?_
      rintro e w2 ⟨A1, c1, rfl, hr1, hB3⟩
      have hwlt : w.heap.size < w2.heap.size := by have := (Array.getElem?_eq_some_iff.1 HBx.out).1; have := hB3.size; omega
      obtain ⟨H, hH⟩ : ∃ H, H = w2.heap.size := ⟨_, rfl⟩
      obtain ⟨W3, hW3⟩ : ∃ W3, W3 = w2.alloc (.cells #[.slice A1 s1.b.length c1, .int .i64 s1.e] 83) := ⟨_, rfl⟩
      have hG : RGet H (.slice none 0 0) [] s1 I B w W3 := by
        have hb3 : Below w2.heap.size w2 W3 := by rw [hW3]; exact (Below.refl _ _).alloc (Nat.le_refl _) _
        refine ⟨⟨A1, c1, by rw [hW3, hH]; exact heap_alloc_new _ _, hr1⟩, ?_, World.ownsRow_nil _ _ _ _, fun r hr => (by cases hr), ?_, by rw [hH]; exact hwlt⟩
        · rw [hb3.block w.heap.size hwlt, hB3.block w.heap.size (Array.getElem?_eq_some_iff.1 HBx.out).1]; exact HBx.out
        · exact (HB2.out.trans (hB3.mono HB2.out.size)).trans (hb3.mono (by omega))
      have HG := Lib.hid hG
      have HH := Lib.hid hH
      have HW3 := Lib.hid hW3
      clear hr1 hB3 hG hH hW3 HB2 HBx P1'
      go_upto_region 6 with (fail)
      rw [← HW3.out, ← HH.out]
      clear HW3 HH hwlt
      go_wp2_with fail
      go_loopw [8, 9] (fun ov iv wr => ∃ (k : Nat) (A2 : Option Addr) (c2 : Nat) (rs : List Pr), k ≤ n ∧ iv = .int .u64 k ∧ ov = .slice A2 k c2 ∧ Hid (rs.length = k ∧ rs.map (·.1) = (parse s1 k).2) ∧ Hid (RGet H (.slice A2 k c2) rs (parse s1 k).1 I B w wr)) (fun _ iv _ => n - (intOf iv).toNat)
      case atStart => exact ⟨0, none, 0, [], Nat.zero_le _, rfl, rfl, ⟨rfl, rfl⟩, HG.out⟩
      case round =>
        clear HG
        obtain ⟨k, A2, c2, rs, hk, rfl, rfl, HL, HG⟩ := hrel
        by_cases hlt : k < n
        · have hkI : decide ((k : Int) < (n : Int)) = true := by simp; omega
          have hpar : parse s1 (k + 1) = ((one (parse s1 k).1).1, (parse s1 k).2 ++ [(one (parse s1 k).1).2]) := rfl
          have hin := one_in (parse s1 k).1
          obtain ⟨sk, hsk⟩ : ∃ sk, sk = (parse s1 k).1 := ⟨_, rfl⟩
          obtain ⟨A3, c3, hbx, hri⟩ := HG.out.box
          rw [← hsk] at hbx hri
          have p1 := fun W (hB : Below w.heap.size w W) => rget_any sk A3 c3 4 w W hri hB (by omega) (by omega)
          obtain ⟨sa, hsa⟩ : ∃ sa, sa = (sk.upto 4 18446744073709551615).1 := ⟨_, rfl⟩
          obtain ⟨key, hkey⟩ : ∃ key, key = (sk.upto 4 18446744073709551615).2 := ⟨_, rfl⟩
          have e1 : sk.upto 4 18446744073709551615 = (sa, key) := by rw [hsa, hkey]
          obtain ⟨sb, hsb⟩ : ∃ sb, sb = (sa.upto 8 18446744073709551615).1 := ⟨_, rfl⟩
          obtain ⟨ver, hver⟩ : ∃ ver, ver = (sa.upto 8 18446744073709551615).2 := ⟨_, rfl⟩
          have e2 : sa.upto 8 18446744073709551615 = (sb, ver) := by rw [hsb, hver]
          obtain ⟨sc, hsc⟩ : ∃ sc, sc = (sb.text 64).1 := ⟨_, rfl⟩
          obtain ⟨dat, hdat⟩ : ∃ dat, dat = (sb.text 64).2 := ⟨_, rfl⟩
          have e3 : sb.text 64 = (sc, dat) := by rw [hsc, hdat]
          have hone : one (parse s1 k).1 = (sc, ⟨key, ver, dat⟩) := by
            rw [← hsk]; unfold one; rw [e1]; show ((IS.text (sa.upto 8 18446744073709551615).1 64).1, Pv.mk key (sa.upto 8 18446744073709551615).2 (IS.text (sa.upto 8 18446744073709551615).1 64).2) = _
            rw [e2]; show ((sb.text 64).1, Pv.mk key ver (sb.text 64).2) = _; rw [e3]
          rw [hone] at hpar hin
          have hk1 : 0 ≤ key := hin.key0
          have hk2 : key ≤ 4294967295 := by have h : key < 4294967296 := hin.key1; omega
          have hk3 : IntKind.u32.wrap key = key := IntWalk.u32_in _ ⟨hk1, hk2⟩
          rw [e1] at p1
          have p2 := fun A c W (h : RI sa A c w) (hB : Below w.heap.size w W) => rget_any sa A c 8 w W h hB (by omega) (by omega)
          rw [e2] at p2
          have p3 := fun A c W (h : RI sb A c w) (hB : Below w.heap.size w W) => rread_any sb A c 64 w W h hB
          rw [e3] at p3
          have P1 := Lib.hid (p1 wr HG.out.bel)
          have P2 := Lib.hid p2
          have P3 := Lib.hid p3
          have HPar := Lib.hid hpar
          have c0 : wr.cell? ⟨H, 0, none⟩ = some (.slice A3 sk.b.length c3) := cell_of_row wr H 0 _ _ _ hbx
          have c1 : wr.cell? ⟨H, 1, none⟩ = some (.int .i64 sk.e) := cell_of_row wr H 1 _ _ _ hbx
          clear p1 p2 p3 hpar hin hsk hsa hkey e1 hsb hver e2 hsc hdat e3 hone hbx hri
          go_wp2_with fail
          refine (P1.out).mono ?_
          rintro e w4 ⟨A4, c4, rfl, hr4, hB4⟩
          have HG4 := Lib.hid (HG.out.below hB4)
          obtain ⟨J, hJ⟩ : ∃ J, J = w4.heap.size := ⟨_, rfl⟩
          obtain ⟨W5, hW5⟩ : ∃ W5, W5 = w4.alloc (.cells #[.slice A4 sa.b.length c4, .int .i64 sa.e] 83) := ⟨_, rfl⟩
          have hb5 : Below w4.heap.size w4 W5 := by rw [hW5]; exact (Below.refl _ _).alloc (Nat.le_refl _) _
          have HG5 := Lib.hid (HG4.out.below hb5)
          have hJ5 : W5.heap[J]? = some (.cells #[.slice A4 sa.b.length c4, .int .i64 sa.e] 83 (0, 0)) := by rw [hW5, hJ]; exact heap_alloc_new _ _
          have hHJ : H < J := by rw [hJ]; exact HG4.out.lt
          have x0 : W5.cell? ⟨J, 0, none⟩ = some (.slice A4 sa.b.length c4) := cell_of_row W5 J 0 _ _ _ hJ5
          have x1 : W5.cell? ⟨J, 1, none⟩ = some (.int .i64 sa.e) := cell_of_row W5 J 1 _ _ _ hJ5
          have P2' := Lib.hid (P2.out A4 c4 W5 hr4 HG5.out.bel)
          have HW5 := Lib.hid hW5
          have HJ := Lib.hid hJ
          have HJ5 := Lib.hid hJ5
          clear hB4 hr4 hJ hW5 hb5 hJ5 HG P1 P2 c0 c1
          go_upto_region 11 with (fail)
          rw [← HW5.out, ← HJ.out]
          clear HG4 HW5 HJ
          go_wp2_with fail
          refine (P2'.out).mono ?_
          rintro e w6 ⟨A6, c6, rfl, hr6, hB6⟩
          have hG6 := HG5.out.below hB6
          have hJ6 : w6.heap[J]? = some (.cells #[.slice A4 sa.b.length c4, .int .i64 sa.e] 83 (0, 0)) := (hB6.block J (Array.getElem?_eq_some_iff.1 HJ5.out).1).trans HJ5.out
          have y0 : w6.cell? ⟨J, 0, none⟩ = some (.slice A4 sa.b.length c4) := cell_of_row w6 J 0 _ _ _ hJ6
          have y1 : w6.cell? ⟨J, 1, none⟩ = some (.int .i64 sa.e) := cell_of_row w6 J 1 _ _ _ hJ6
          have f0 : w6.frozen? ⟨J, 0, none⟩ = false := frozen_of_row w6 J 0 _ _ hJ6
          have f1 : w6.frozen? ⟨J, 1, none⟩ = false := frozen_of_row w6 J 1 _ _ hJ6
          obtain ⟨W7, hW7⟩ : ∃ W7, W7 = (w6.setCell ⟨J, 0, none⟩ (.slice A6 sb.b.length c6)).setCell ⟨J, 1, none⟩ (.int .i64 sb.e) := ⟨_, rfl⟩
          have hJ7 : W7.heap[J]? = some (.cells #[.slice A6 sb.b.length c6, .int .i64 sb.e] 83 (0, 0)) := by rw [hW7]; exact set2_block _ _ hJ6
          have hG7 : RGet H (.slice A2 k c2) rs (parse s1 k).1 I B w W7 := by
            obtain ⟨A', c', h1, h2⟩ := hG6.box
            have ht : Tch (fun k => k = J) w6 W7 := by rw [hW7]; exact tch_set2 _ _ _ _
            exact hG6.store h2 ht (fun k e => by rw [e]; exact ⟨by have := hG6.le; omega, _, _, hJ6⟩) ((ht.block H hG6.lt (by omega)).trans h1)
          have P3' := Lib.hid (P3.out A6 c6 W7 hr6 hG7.bel)
          have HG7 := Lib.hid hG7
          have HW7 := Lib.hid hW7
          have HJ7 := Lib.hid hJ7
          clear hG6 hJ6 hW7 hJ7 hG7 hr6 hB6 P3 HG5 HJ5 x0 x1
          go_upto_region 12 with (fail)
          rw [← HW7.out]
          have z0 : W7.cell? ⟨J, 0, none⟩ = some (.slice A6 sb.b.length c6) := cell_of_row W7 J 0 _ _ _ HJ7.out
          have z1 : W7.cell? ⟨J, 1, none⟩ = some (.int .i64 sb.e) := cell_of_row W7 J 1 _ _ _ HJ7.out
          clear y0 y1 f0 f1 HW7
          go_wp2_with fail
          refine (P3'.out).mono ?_
          rintro e w8 ⟨A8, c8, A9, c9, rfl, hr8, hb9, hB8⟩
          have hG8 := HG7.out.below hB8
          have hJ8 : w8.heap[J]? = some (.cells #[.slice A6 sb.b.length c6, .int .i64 sb.e] 83 (0, 0)) := (hB8.block J (Array.getElem?_eq_some_iff.1 HJ7.out).1).trans HJ7.out
          have y0 : w8.cell? ⟨J, 0, none⟩ = some (.slice A6 sb.b.length c6) := cell_of_row w8 J 0 _ _ _ hJ8
          have y1 : w8.cell? ⟨J, 1, none⟩ = some (.int .i64 sb.e) := cell_of_row w8 J 1 _ _ _ hJ8
          have f0 : w8.frozen? ⟨J, 0, none⟩ = false := frozen_of_row w8 J 0 _ _ hJ8
          have f1 : w8.frozen? ⟨J, 1, none⟩ = false := frozen_of_row w8 J 1 _ _ hJ8
          obtain ⟨A', c', hbx8, hri8⟩ := hG8.box
          have u0 := cell_of_row w8 H 0 _ _ _ hbx8
          have u1 := cell_of_row w8 H 1 _ _ _ hbx8
          simp only [List.getElem?_toArray, List.getElem?_cons_zero, List.getElem?_cons_succ] at u0 u1
          have g0 : w8.frozen? ⟨H, 0, none⟩ = false := frozen_of_row w8 H 0 _ _ hbx8
          have g1 : w8.frozen? ⟨H, 1, none⟩ = false := frozen_of_row w8 H 1 _ _ hbx8
          have hne : ¬ H = J := by omega
          have hne' : ¬ J = H := by omega
          obtain ⟨W9, hW9⟩ : ∃ W9, W9 = (((w8.setCell ⟨J, 0, none⟩ (.slice A8 sc.b.length c8)).setCell ⟨J, 1, none⟩ (.int .i64 sc.e)).setCell ⟨H, 0, none⟩ (.slice A8 sc.b.length c8)).setCell ⟨H, 1, none⟩ (.int .i64 sc.e) := ⟨_, rfl⟩
          have hG9 : RGet H (.slice A2 k c2) rs sc I B w W9 := by
            have t1 : Tch (fun k => k = J ∨ k = H) w8 ((w8.setCell ⟨J, 0, none⟩ (.slice A8 sc.b.length c8)).setCell ⟨J, 1, none⟩ (.int .i64 sc.e)) := (tch_set2 _ _ _ _).mono fun k _ e => .inl e
            have hH1 : ((w8.setCell ⟨J, 0, none⟩ (.slice A8 sc.b.length c8)).setCell ⟨J, 1, none⟩ (.int .i64 sc.e)).heap[H]? = w8.heap[H]? := (tch_set2 _ _ _ _).block H hG8.lt hne
            have t2 : Tch (fun k => k = J ∨ k = H) w8 W9 := by rw [hW9]; exact t1.trans ((tch_set2 _ _ _ _).mono fun k _ e => .inr e)
            refine hG8.store hr8 t2 (fun k e => ?_) (by rw [hW9]; exact set2_block _ _ (hH1.trans hbx8))
            rcases e with e | e
            · rw [e]; exact ⟨by have := hG8.le; omega, _, _, hJ8⟩
            · rw [e]; exact ⟨hG8.le, _, _, hbx8⟩
          have HG9 := Lib.hid hG9
          have HW9 := Lib.hid hW9
          have HB9 := Lib.hid hb9
          clear hG8 hJ8 hW9 hG9 hr8 hB8 hbx8 hri8 hb9 HG7 HJ7 z0 z1 P2' P3'
          go_upto_region 14 with (fail)
          rw [← HW9.out]
          clear y0 y1 f0 f1 u0 u1 g0 g1 HW9 hne hne'
          obtain ⟨r, hr⟩ : ∃ r : Pr, r = (⟨key, ver, dat⟩, A9, c9) := ⟨_, rfl⟩
          have hcells : pcells r = [.int .u32 key, .int .u64 ver, .slice A9 dat.length c9] := by rw [hr]; rfl
          have hX : Below W9.heap.size W9 (W9.alloc (.cells #[.int .u32 key, .int .u64 ver, .slice A9 dat.length c9] 89)) := (Below.refl _ _).alloc (Nat.le_refl _) _
          have HGX := Lib.hid (HG9.out.below hX)
          have HBr : Hid (Bytes w r.2.1 r.1.b) := by show Bytes _ _ _; rw [hr]; exact HB9.out
          have HCs := Lib.hid hcells
          have hlt7 : H + 1 ≤ (W9.alloc (.cells #[.int .u32 key, .int .u64 ver, .slice A9 dat.length c9] 89)).heap.size := HGX.out.lt
          have hrl : rs.length = k := HL.out.1
          have HRL := Lib.hid hrl
          have HRr := Lib.hid hr
          clear hcells hX hr hrl HB9
          go_wp2_with (at_builtin; refine wpList_app elem_rpatch rfl _ _ rfl (H + 1) (.slice A2 k c2) k (prows rs) rfl (by have := HGX.out.own; rw [HRL.out] at this; exact this) (some ⟨_, 0, none⟩) 1 1 [.int .u32 key, .int .u64 ver, .slice A9 dat.length c9] rfl (sees_new _ _ _) rfl (by rw [← HCs.out]; exact one_pcells r) (by omega) hlt7 ?_)
          intro v2 w10 hown hgr _
          obtain ⟨A10, c10, rfl, _, _⟩ := own_full hown
          have hG10 : RGet H (.slice A10 (k + 1) c10) (rs ++ [r]) sc I B w w10 := HGX.out.push HBr.out (by rw [HCs.out, HRL.out]; exact hown) hgr
          have hL10 : (rs ++ [r]).length = k + 1 ∧ (rs ++ [r]).map (·.1) = (parse s1 (k + 1)).2 := by
            refine ⟨by rw [List.length_append, HRL.out]; rfl, ?_⟩
            rw [HPar.out, List.map_append, HL.out.2]
            rw [HRr.out]; rfl
          have HG10 := Lib.hid hG10
          have HL10 := Lib.hid hL10
          clear hown hgr hG10 hL10
          go_wp2_with fail
          go_roundw
          case rel => exact ⟨k + 1, A10, c10, rs ++ [r], by omega, by go_num, rfl, HL10.out, by show RGet _ _ _ _ _ _ _ _; rw [HPar.out]; exact HG10.out⟩
          case measure => simp [intOf]; omega
        · obtain rfl : k = n := by omega
          have hkI : decide ((k : Int) < (k : Int)) = false := by simp
          have hL := HL.out
          rw [← HRd.out] at hL
          have HL := Lib.hid hL
          have hG := HG.out
          rw [← HRd.out] at hG
          obtain ⟨sz, hsz⟩ : ∃ sz, sz = (readP bs).1 := ⟨_, rfl⟩
          obtain ⟨A3, c3, hbx, hri⟩ := hG.box
          rw [← hsz] at hbx
          have PD := Lib.hid (fun W => rdone_any sz A3 c3 W)
          have bel := hG.bel
          have pats := hG.pats
          have HSz := Lib.hid hsz
          have hV := HV.out
          have u0 : wr.cell? ⟨H, 0, none⟩ = some (.slice A3 sz.b.length c3) := cell_of_row wr H 0 _ _ _ hbx
          have u1 : wr.cell? ⟨H, 1, none⟩ = some (.int .i64 sz.e) := cell_of_row wr H 1 _ _ _ hbx
          have hpk : ∀ r ∈ rs, PvK r.1 := fun r hr => (parse_in s1 k r.1 (by rw [← HRd.out, ← HL.out.2]; exact List.mem_map_of_mem hr)).k
          have pc := fun W (h : Below wr.heap.size wr W) => rcheck_any I B A2 rs c2 W (pats.below h).row hpk
          rw [HL.out.1, HL.out.2] at pc
          have hsh := hG.sh
          have cc : ∀ W, Below wr.heap.size wr W → W.cell? ⟨w.heap.size, 0, none⟩ = some (.int .i64 I) ∧ W.cell? ⟨w.heap.size, 1, none⟩ = some (.int .i64 B) := fun W h => by
            have := (h.block _ (Array.getElem?_eq_some_iff.1 hsh).1).trans hsh
            exact ⟨cell_of_row W _ 0 _ _ _ this, cell_of_row W _ 1 _ _ _ this⟩
          obtain ⟨z, hz⟩ : ∃ z, z = checkV I B (readP bs).2 := ⟨_, rfl⟩
          rw [← hz] at pc
          have PC := Lib.hid pc
          have HZ := Lib.hid hz
          have Bel := Lib.hid bel
          have HPats := Lib.hid pats
          have HCc := Lib.hid cc
          clear hL hsz hpk pc hz bel pats hG hbx hri hsh cc
          by_cases hd : sz.done = 0
          · have d1 : (sz.done != 0) = false := by simpa using hd
            have hd' : (readP bs).1.done = 0 := by rw [← HSz.out]; exact hd
            by_cases hk0 : k = 0
            · have hV2 : V = ([], 4) := by rw [hV]; exact getV_form H0.out HR.out hd' (.inl (by rw [← HL.out.2, List.map_eq_nil_iff]; exact List.eq_nil_of_length_eq_zero (by rw [HL.out.1, hk0])))
              have HV2 := Lib.hid hV2
              have t1 : ((k : Int) == 0) = true := by simp [hk0]
              clear hV hV2 hd hd' hk0
              go_wp2_with fail
              refine (PD.out _).mono ?_
              rintro e w9 ⟨rfl, hB9⟩
              go_wp2
              go_ret2
              rw [HV2.out]
              exact GotP.no (Bel.out.trans (hB9.mono Bel.out.size))
            · have t1 : ((k : Int) == 0) = false := by simpa using hk0
              have hne : (readP bs).2 ≠ [] := by
                intro e
                have h1 := HL.out.1
                have h2 := HL.out.2
                rw [e, List.map_eq_nil_iff] at h2
                rw [h2] at h1
                exact hk0 h1.symm
              by_cases hz0 : z = 0
              · have hV2 : V = ((readP bs).2, 0) := by rw [hV]; exact getV_ok H0.out HR.out hd' hne (by rw [← HZ.out]; exact hz0)
                have HV2 := Lib.hid hV2
                have t2 : (z != 0) = false := by simpa using hz0
                clear hV hV2 hd hd' hk0 hne hz0
                go_wp2_with fail
                refine (PD.out _).mono ?_
                rintro e w9 ⟨rfl, hB9⟩
                obtain ⟨q0, q1⟩ := HCc.out w9 hB9
                have PC' := Lib.hid (PC.out w9 hB9)
                have HP9 := Lib.hid (HPats.out.below hB9)
                have Bel9 := Lib.hid (Bel.out.trans (hB9.mono Bel.out.size))
                clear hB9
                go_wp2_with fail
                refine (PC'.out).mono ?_
                rintro e w10 ⟨rfl, hB10⟩
                go_wp2
                go_ret2
                rw [HV2.out]
                exact GotP.yes HL.out.1 HL.out.2 (HP9.out.below hB10) (Bel9.out.trans (hB10.mono Bel9.out.size))
              · have hV2 : V = ([], 4) := by rw [hV]; exact getV_form H0.out HR.out hd' (.inr (by rw [← HZ.out]; exact hz0))
                have HV2 := Lib.hid hV2
                have t2 : (z != 0) = true := by simpa using hz0
                clear hV hV2 hd hd' hk0 hne hz0
                go_wp2_with fail
                refine (PD.out _).mono ?_
                rintro e w9 ⟨rfl, hB9⟩
                obtain ⟨q0, q1⟩ := HCc.out w9 hB9
                have PC' := Lib.hid (PC.out w9 hB9)
                have Bel9 := Lib.hid (Bel.out.trans (hB9.mono Bel.out.size))
                clear hB9
                go_wp2_with fail
                refine (PC'.out).mono ?_
                rintro e w10 ⟨rfl, hB10⟩
                go_wp2
                go_ret2
                rw [HV2.out]
                exact GotP.no (Bel9.out.trans (hB10.mono Bel9.out.size))
          · have d1 : (sz.done != 0) = true := by simpa using hd
            have hV2 : V = ([], sz.done) := by rw [hV, HSz.out]; exact getV_done H0.out HR.out (by rw [← HSz.out]; exact hd)
            have HV2 := Lib.hid hV2
            clear hV hV2 hd
            go_wp2_with fail
            refine (PD.out _).mono ?_
            rintro e w9 ⟨rfl, hB9⟩
            go_wp2
            go_ret2
            rw [HV2.out]
            exact GotP.no (Bel.out.trans (hB9.mono Bel.out.size))
    · have HR := Lib.hid hr
      rw [getV_arg h0 hr] at hV
      subst hV
      clear hr hb h0 hn0
      go_enter Try.func18, Try.ntmps18
      go_wp2_with (go_at_call 10; refine (rright_not _ HR.out).mono ?_; rintro e w1 ⟨rfl, hB1⟩; obtain ⟨c0, c1, hB2⟩ := boxed2 hB1)
      go_ret2
      exact GotP.no hB2
end Go.Proofs.Ytjdpljhhlmcbaaa
end

section
/- What is got of bytes has these bytes: plain. No condition. -/
namespace Go.Cat.Vol
open Go.RowKit Go.Cat
theorem one_split {s : IS} (h : (one s).1.e = 0) : s.e = 0 ∧ s.b = encP (one s).2 ++ (one s).1.b := by
  obtain ⟨a, b⟩ := IS.text_split (show (IS.text _ 64).1.e = 0 from h)
  obtain ⟨a', b'⟩ := IS.upto_split a
  obtain ⟨a'', b''⟩ := IS.upto_split a'
  refine ⟨a'', ?_⟩
  rw [b'', b', b]
  unfold encP one
  simp [List.append_assoc]
theorem parse_split {s : IS} : ∀ k, (parse s k).1.e = 0 → s.e = 0 ∧ s.b = (parse s k).2.flatMap encP ++ (parse s k).1.b
  | 0, h => ⟨h, by show s.b = [] ++ s.b; rfl⟩
  | k + 1, h => by
    obtain ⟨a, b⟩ := one_split (s := (parse s k).1) h
    obtain ⟨a', b'⟩ := parse_split k a
    refine ⟨a', ?_⟩
    show s.b = ((parse s k).2 ++ [(one (parse s k).1).2]).flatMap encP ++ (one (parse s k).1).1.b
    rw [List.flatMap_append, b', b]
    simp [List.append_assoc]
theorem read_back {b : List UInt8} (h : (readP b).1.done = 0) : encs (readP b).2 = b := by
  obtain ⟨a, c⟩ := IS.done_zero h
  obtain ⟨a', c'⟩ := parse_split (s := (count b).1) _ a
  obtain ⟨a'', c''⟩ := IS.upto_split (s := ⟨b, 0⟩) (n := 1) (most := 20) a'
  have h1 : b = be (count b).2.toNat 1 ++ (count b).1.b := c''
  have h2 : (readP b).2.length = (count b).2.toNat := parse_length _ _
  have h3 : (count b).1.b = (readP b).2.flatMap encP ++ [] := by
    have := c'
    rw [show (parse (count b).1 (count b).2.toNat).1.b = [] from c] at this
    exact this
  unfold encs
  rw [h2]
  rw [List.append_nil] at h3
  rw [← h3, ← h1]
theorem put_back {I B : Int} {b : List UInt8} (h : (getV I B b).2 = 0) : (putV I B (getV I B b).1).1 = b := by
  by_cases h0 : b = []
  · subst h0
    rw [getV_nil, putV_no (.inr rfl)]
  · by_cases hr : rightP I B
    · by_cases hd : (readP b).1.done = 0
      · by_cases hc : (readP b).2 = [] ∨ checkV I B (readP b).2 ≠ 0
        · rw [getV_form h0 hr hd hc] at h; cases h
        · have h1 : (readP b).2 ≠ [] := fun e => hc (.inl e)
          have h2 : checkV I B (readP b).2 = 0 := Classical.byContradiction fun e => hc (.inr e)
          rw [getV_ok h0 hr hd h1 h2, putV_yes h2 h1]
          exact read_back hd
      · rw [getV_done h0 hr hd] at h
        exact absurd h hd
    · rw [getV_arg h0 hr] at h; cases h
theorem got_in {I B : Int} {b : List UInt8} : ∀ p ∈ (getV I B b).1, PvK p := by
  intro p hp
  by_cases h0 : b = []
  · subst h0; rw [getV_nil] at hp; cases hp
  · by_cases hr : rightP I B
    · by_cases hd : (readP b).1.done = 0
      · by_cases hc : (readP b).2 = [] ∨ checkV I B (readP b).2 ≠ 0
        · rw [getV_form h0 hr hd hc] at hp; cases hp
        · have h1 : (readP b).2 ≠ [] := fun e => hc (.inl e)
          have h2 : checkV I B (readP b).2 = 0 := Classical.byContradiction fun e => hc (.inr e)
          rw [getV_ok h0 hr hd h1 h2] at hp
          exact (parse_in _ _ p hp).k
      · rw [getV_done h0 hr hd] at hp; cases hp
    · rw [getV_arg h0 hr] at hp; cases hp
theorem got_length {I B : Int} {b : List UInt8} : (getV I B b).1.length ≤ 20 := by
  by_cases h0 : b = []
  · subst h0; rw [getV_nil]; exact Nat.zero_le _
  · by_cases hr : rightP I B
    · by_cases hd : (readP b).1.done = 0
      · by_cases hc : (readP b).2 = [] ∨ checkV I B (readP b).2 ≠ 0
        · rw [getV_form h0 hr hd hc]; exact Nat.zero_le _
        · have h1 : (readP b).2 ≠ [] := fun e => hc (.inl e)
          have h2 : checkV I B (readP b).2 = 0 := Classical.byContradiction fun e => hc (.inr e)
          rw [getV_ok h0 hr hd h1 h2]
          exact (check_zero h2).2.1
      · rw [getV_done h0 hr hd]; exact Nat.zero_le _
    · rw [getV_arg h0 hr]; exact Nat.zero_le _
end Go.Cat.Vol
end

section
/- The walk of the law VolKeys: it answers true, whatever comes in. No condition. -/
namespace Go.Proofs.Ytjdpljhhlmcbaaa
open Go.RowKit Go.Cat Go.Cat.Vol

theorem three {a b c p : Prop} (h : a ∨ b ∨ c) (ha : a → p) (hb : b → p) (hc : c → p) : p := h.elim ha fun h => h.elim hb hc

theorem kp_ways (I B k : Int) (hk : 0 ≤ k) : (kind I B k = 3 ∧ keyI I B (place I B k) = k) ∨ (kind I B k = 4 ∧ keyB I B (place I B k) = k) ∨ (kind I B k ≠ 3 ∧ kind I B k ≠ 4) := by
  by_cases hn : ¬ rightP I B ∨ I + B + 2 ≤ k
  · have := (kp_none hn).1
    right; right; omega
  · have hr : rightP I B := Classical.byContradiction fun e => hn (.inl e)
    have hb : k < I + B + 2 := by rcases Int.lt_or_le k (I + B + 2) with h | h; exact h; exact absurd (.inr h) hn
    by_cases h0 : k = 0
    · subst h0; have := (kp_0 hr).1; right; right; omega
    · by_cases h1 : k = 1
      · subst h1; have := (kp_1 hr).1; right; right; omega
      · by_cases h2 : k < I + 2
        · obtain ⟨e1, e2⟩ := kp_I hr (by omega) h2
          left; rw [e1, e2, keyI_in hr (by omega) (by omega)]; exact ⟨rfl, by omega⟩
        · obtain ⟨e1, e2⟩ := kp_B hr (by omega) hb
          right; left; rw [e1, e2, keyB_in hr (by omega) (by omega)]; exact ⟨rfl, by omega⟩

theorem place_in (I B k : Int) (hk : 0 ≤ k) : 0 ≤ place I B k ∧ place I B k ≤ 96 := by
  by_cases hn : ¬ rightP I B ∨ I + B + 2 ≤ k
  · have := (kp_none hn).2; omega
  · have hr : rightP I B := Classical.byContradiction fun e => hn (.inl e)
    have hb : k < I + B + 2 := by rcases Int.lt_or_le k (I + B + 2) with h | h; exact h; exact absurd (.inr h) hn
    obtain ⟨r1, r2, r3, r4⟩ := hr
    have hr : rightP I B := ⟨r1, r2, r3, r4⟩
    by_cases h0 : k = 0
    · subst h0; have := (kp_0 hr).2; omega
    · by_cases h1 : k = 1
      · subst h1; have := (kp_1 hr).2; omega
      · by_cases h2 : k < I + 2
        · have := (kp_I hr (by omega) h2).2; omega
        · have := (kp_B hr (by omega) hb).2; omega

theorem rightP49 : rightP 4 9 := ⟨by decide, by decide, by decide, by decide⟩

set_option maxRecDepth 100000 in
theorem vawake_any (w : World) : Calls Try.prog 15 #[] w fun e w' => e = .returned (.bool true) ∧ Below w.heap.size w w' := by
  have e1 := kp_B (k := 6) rightP49 (by decide) (by decide)
  have hw := fun W => vwhat_any 4 9 6 W (by decide) (by decide)
  rw [e1.1, e1.2] at hw
  have hb := fun W => vblock_any 4 9 0 W (by decide)
  rw [keyB_in rightP49 (by decide) (by decide)] at hb
  have HW := Lib.hid hw
  have HB := Lib.hid hb
  clear hw hb e1
  go_enter Try.func15, Try.ntmps15
  go_wp2_with fail
  refine (HW.out _).mono ?_
  rintro e w1 ⟨rfl, h1⟩
  obtain ⟨c0, c1, hB1⟩ := boxed2 h1
  go_wp2_with fail
  refine (HB.out _).mono ?_
  rintro e w2 ⟨rfl, h2⟩
  have hlt := World.block_lt_of_cell? w1 _ c0
  have c0' : w2.cell? ⟨w.heap.size, 0, none⟩ = some (.int .i64 4) := (h2.cell (p := ⟨w.heap.size, 0, none⟩) hlt).trans c0
  have c1' : w2.cell? ⟨w.heap.size, 1, none⟩ = some (.int .i64 9) := (h2.cell (p := ⟨w.heap.size, 1, none⟩) hlt).trans c1
  have hB2 := hB1.trans (h2.mono hB1.size)
  clear c0 c1 h1 hB1
  go_wp2_with fail
  refine (vright_yes _ rightP49).mono ?_
  rintro e w3 ⟨rfl, h3⟩
  go_wp2
  go_ret
  exact ⟨rfl, hB2.trans (h3.mono hB2.size)⟩

/-- The two boxes of the law, in a world behind the call's own. -/
theorem four_below {w0 w1 w2 : World} {g : Nat} {I B : Int}
    (h : w1.cell? ⟨g, 0, none⟩ = some (.int .i64 I) ∧ w1.cell? ⟨g, 1, none⟩ = some (.int .i64 B) ∧ w1.cell? ⟨g + 1, 0, none⟩ = some (.int .i64 I) ∧ w1.cell? ⟨g + 1, 1, none⟩ = some (.int .i64 B) ∧ Below w0.heap.size w0 w1)
    (hb : Below w1.heap.size w1 w2) :
    w2.cell? ⟨g, 0, none⟩ = some (.int .i64 I) ∧ w2.cell? ⟨g, 1, none⟩ = some (.int .i64 B) ∧ w2.cell? ⟨g + 1, 0, none⟩ = some (.int .i64 I) ∧ w2.cell? ⟨g + 1, 1, none⟩ = some (.int .i64 B) ∧ Below w0.heap.size w0 w2 := by
  obtain ⟨a, b, c, d, e⟩ := h
  refine ⟨?_, ?_, ?_, ?_, e.trans (hb.mono e.size)⟩
  · rw [hb.cell (World.block_lt_of_cell? w1 _ a), a]
  · rw [hb.cell (World.block_lt_of_cell? w1 _ b), b]
  · rw [hb.cell (World.block_lt_of_cell? w1 _ c), c]
  · rw [hb.cell (World.block_lt_of_cell? w1 _ d), d]

theorem four_new (w : World) (I B : Int) (t u : TypeId) :
    ((w.alloc (.cells #[.int .i64 I, .int .i64 B] t)).alloc (.cells #[.int .i64 I, .int .i64 B] u)).cell? ⟨w.heap.size, 0, none⟩ = some (.int .i64 I) ∧
    ((w.alloc (.cells #[.int .i64 I, .int .i64 B] t)).alloc (.cells #[.int .i64 I, .int .i64 B] u)).cell? ⟨w.heap.size, 1, none⟩ = some (.int .i64 B) ∧
    ((w.alloc (.cells #[.int .i64 I, .int .i64 B] t)).alloc (.cells #[.int .i64 I, .int .i64 B] u)).cell? ⟨w.heap.size + 1, 0, none⟩ = some (.int .i64 I) ∧
    ((w.alloc (.cells #[.int .i64 I, .int .i64 B] t)).alloc (.cells #[.int .i64 I, .int .i64 B] u)).cell? ⟨w.heap.size + 1, 1, none⟩ = some (.int .i64 B) ∧
    Below w.heap.size w ((w.alloc (.cells #[.int .i64 I, .int .i64 B] t)).alloc (.cells #[.int .i64 I, .int .i64 B] u)) := by
  obtain ⟨a, b, e⟩ := boxed2 (Below.alloc (Below.refl (w.alloc (.cells #[.int .i64 I, .int .i64 B] t)).heap.size _) (Nat.le_refl _) (.cells #[.int .i64 I, .int .i64 B] u))
  exact ⟨a, b, by simp, by simp, e⟩

set_option maxRecDepth 100000 in
theorem keys_walk (I B k i : Int) (w : World) (hk0 : 0 ≤ k) (hk1 : k ≤ 4294967295) (hi : -9223372036854775808 ≤ i ∧ i ≤ 9223372036854775807) :
    Calls Try.prog 3 #[.agg #[.int .i64 I, .int .i64 B], .int .u32 k, .int .i64 i] w fun e w' => e = .returned (.bool true) ∧ Below w.heap.size w w' := by
  have H0 := four_new w I B 23 25
  have E1 : (rightB I B == rightB I B) = true := by simp
  have E2 : (keyI I B i == keyI I B i) = true := by simp
  have E3 : (keyB I B i == keyB I B i) = true := by simp
  have E2' : (keyI I B i != keyI I B i) = false := by simp
  have E3' : (keyB I B i != keyB I B i) = false := by simp
  have E4 : (kind I B k == kind I B k) = true := by simp
  have E5 : (place I B k == place I B k) = true := by simp
  have E4' : (kind I B k != kind I B k) = false := by simp
  have E5' : (place I B k != place I B k) = false := by simp
  go_enter Try.func3, Try.ntmps3
  go_wp2_with fail
  refine (vwhat_any I B k _ hk0 hk1).mono ?_
  rintro e w1 ⟨rfl, h1⟩
  have F1 := four_below H0 h1
  obtain ⟨a1, b1, c1, d1, e1⟩ := F1
  clear H0 h1
  go_wp2_with fail
  refine (rwhat_any I B k _ hk0).mono ?_
  rintro e w2 ⟨rfl, h2⟩
  obtain ⟨a2, b2, c2, d2, e2⟩ := four_below ⟨a1, b1, c1, d1, e1⟩ h2
  clear a1 b1 c1 d1 e1 h2
  go_wp2_with fail
  go_region_held3 (fun w' => w'.cell? ⟨w.heap.size, 0, none⟩ = some (.int .i64 I) ∧ w'.cell? ⟨w.heap.size, 1, none⟩ = some (.int .i64 B) ∧ w'.cell? ⟨w.heap.size + 1, 0, none⟩ = some (.int .i64 I) ∧ w'.cell? ⟨w.heap.size + 1, 1, none⟩ = some (.int .i64 B) ∧ Below w.heap.size w w')
    (first | exact ⟨a2, b2, c2, d2, e2.drew⟩ | exact four_below (by assumption) h3 | exact four_below (by assumption) h4 | exact four_below (by assumption) h5 | exact four_below (by assumption) h6 | exact four_below (by assumption) h7 | exact four_below (by assumption) h8)
    (first
      | (go_at_call 9; refine (vright_any I B _).mono ?_; rintro e w3 ⟨rfl, h3⟩)
      | (go_at_call 10; refine (rright_any I B _).mono ?_; rintro e w4 ⟨rfl, h4⟩)
      | (go_at_call 11; refine (vinode_any I B i _ hi).mono ?_; rintro e w5 ⟨rfl, h5⟩)
      | (go_at_call 12; refine (rinode_any I B i _ hi).mono ?_; rintro e w6 ⟨rfl, h6⟩)
      | (go_at_call 13; refine (vblock_any I B i _ hi).mono ?_; rintro e w7 ⟨rfl, h7⟩)
      | (go_at_call 14; refine (rblock_any I B i _ hi).mono ?_; rintro e w8 ⟨rfl, h8⟩))
  rename_i FS
  obtain ⟨a8, b8, c8, d8, e8⟩ := FS
  have hlen := World.block_lt_of_cell? _ _ c8
  clear a2 b2 c2 d2 e2 h3 h4 h5 h6 h7
  refine three (kp_ways I B k hk0) ?ky1 ?ky2 ?ky3
  case' ky1 =>
    rintro ⟨hk3, hkp⟩
    have T1 : (kind I B k == 3) = true := by simp [hk3]
    have T2 : (kind I B k == 4) = false := by simp [hk3]
    have T3 : (k != k) = false := by simp
    have hc := fun W => vinode_any I B (place I B k) W (by have := place_in I B k hk0; omega)
    rw [hkp] at hc
    have HC := Lib.hid hc
    clear hc hkp hk3
    go_wp2_with (go_at_call 11; refine (HC.out _).mono ?_; rintro e w9 ⟨rfl, h9⟩)
  case' ky2 =>
    rintro ⟨hk4, hkp⟩
    have T1 : (kind I B k == 3) = false := by simp [hk4]
    have T2 : (kind I B k == 4) = true := by simp [hk4]
    have T3 : (k != k) = false := by simp
    have hc := fun W => vblock_any I B (place I B k) W (by have := place_in I B k hk0; omega)
    rw [hkp] at hc
    have HC := Lib.hid hc
    clear hc hkp hk4
    go_wp2_with (go_at_call 13; refine (HC.out _).mono ?_; rintro e w9 ⟨rfl, h9⟩)
  case' ky3 =>
    rintro ⟨hk3, hk4⟩
    have T1 : (kind I B k == 3) = false := by simpa using hk3
    have T2 : (kind I B k == 4) = false := by simpa using hk4
    have h9 := Below.refl (0 : Nat) w
    go_wp2_with fail
  all_goals
    refine (vawake_any _).mono ?_
    rintro e w10 ⟨rfl, h10⟩
    go_wp2
    go_ret
    first | exact ⟨rfl, (e8.trans (h9.mono e8.size)).trans (h10.mono (Nat.le_trans e8.size h9.size))⟩ | exact ⟨rfl, e8.trans (h10.mono e8.size)⟩
end Go.Proofs.Ytjdpljhhlmcbaaa
end

section
/- The contract of the reference's Cut. No condition. -/
namespace Go.Proofs.Ytjdpljhhlmcbaaa
open Go.RowKit Go.Cat

theorem cut_any (A : Option Addr) (c m : Nat) (bs : List UInt8) (w : World) (hn : bs.length ≤ c) (_ : c ≤ 9223372036854775807) :
    Calls Try.prog 16 #[.slice A bs.length c, .int .i64 (m : Int)] w fun e w' => e = .returned (.slice A (bs.take m).length c) ∧ w = w' := by
  obtain ⟨n, hnn⟩ : ∃ n, n = bs.length := ⟨_, rfl⟩
  have hl : (bs.take m).length = min m n := by rw [List.length_take, hnn]
  rw [hl, ← hnn]
  rw [← hnn] at hn
  clear hl hnn
  by_cases h : m < n
  · have d : decide ((m : Int) < (n : Int)) = true := by simp; omega
    have e : min m n = m := by omega
    have h2 : (m : Int) ≤ (c : Int) := by omega
    have h0 : (0 : Int) ≤ (m : Int) := by omega
    rw [e]
    clear e
    go_enter Try.func16, Try.ntmps16
    go_wp2
    go_ret
    exact ⟨rfl, rfl⟩
  · have d : decide ((m : Int) < (n : Int)) = false := by simp; omega
    have e : min m n = n := by omega
    rw [e]
    clear e
    go_enter Try.func16, Try.ntmps16
    go_wp2
    go_ret
    exact ⟨rfl, rfl⟩
end Go.Proofs.Ytjdpljhhlmcbaaa
end

section
/- The walk of the law VolGets: it answers true, whatever comes in. No condition. -/
namespace Go.Proofs.Ytjdpljhhlmcbaaa
open Go.RowKit Go.Cat Go.Cat.Vol

/-- The two boxes of the law. -/
structure TwoB (g : Nat) (I B : Int) (w w' : World) : Prop where
  a : w'.cell? ⟨g, 0, none⟩ = some (.int .i64 I)
  b : w'.cell? ⟨g, 1, none⟩ = some (.int .i64 B)
  c : w'.cell? ⟨g + 1, 0, none⟩ = some (.int .i64 I)
  d : w'.cell? ⟨g + 1, 1, none⟩ = some (.int .i64 B)
  bel : Below w.heap.size w w'
theorem TwoB.below {g : Nat} {I B : Int} {w w1 w2 : World} (h : TwoB g I B w w1) (hb : Below w1.heap.size w1 w2) : TwoB g I B w w2 := by
  obtain ⟨a, b, c, d, e⟩ := four_below ⟨h.a, h.b, h.c, h.d, h.bel⟩ hb
  exact ⟨a, b, c, d, e⟩

set_option maxRecDepth 100000 in
set_option maxHeartbeats 2000000 in
theorem gets_walk (I B : Int) (A : Option Addr) (c : Nat) (bs : List UInt8) (w : World) (hb : Bytes w A bs) (hn : bs.length ≤ c) (hc : c ≤ maxLen) (hnil : A = none → c = 0) :
    Calls Try.prog 4 #[.agg #[.int .i64 I, .int .i64 B], .slice A bs.length c] w fun e w' => e = .returned (.bool true) ∧ Below w.heap.size w w' := by
  obtain ⟨xs, hxs⟩ : ∃ xs, xs = bs.take 2500 := ⟨_, rfl⟩
  have hxl : xs.length ≤ 2500 := by rw [hxs, List.length_take]; omega
  have hxc : xs.length ≤ c := by rw [hxs, List.length_take]; omega
  have hxb : Bytes w A xs := by rw [hxs]; exact hb.take 2500
  have P1 := fun W => cut_any A c 2500 bs W hn hc
  rw [← hxs] at P1
  have HT0 : Hid (TwoB w.heap.size I B w ((w.alloc (.cells #[.int .i64 I, .int .i64 B] 23)).alloc (.cells #[.int .i64 I, .int .i64 B] 25))) := by
    obtain ⟨a, b, c, d, e⟩ := four_new w I B 23 25
    exact ⟨a, b, c, d, e⟩
  have hback := put_back (I := I) (B := B) (b := xs)
  have hin := got_in (I := I) (B := B) (b := xs)
  have hlen := got_length (I := I) (B := B) (b := xs)
  have P2 := fun W (h : Below w.heap.size w W) => vget_any I B A c xs W (hxb.below h) (by omega)
  have P3 := fun W (h : Below w.heap.size w W) => rgetP_any I B A c xs W (hxb.below h) hxc hc hnil
  obtain ⟨l, hl⟩ : ∃ l, l = (getV I B xs).1 := ⟨_, rfl⟩
  obtain ⟨z, hz⟩ : ∃ z, z = (getV I B xs).2 := ⟨_, rfl⟩
  have hlz : getV I B xs = (l, z) := by rw [hl, hz]
  rw [hlz] at P2 P3 hback hin hlen
  have HP1 := Lib.hid P1
  have HP2 := Lib.hid P2
  have HP3 := Lib.hid P3
  have HBack := Lib.hid hback
  have HIn := Lib.hid hin
  have HXb := Lib.hid hxb
  have HLen := Lib.hid hlen
  have c0 : (w.alloc (.cells #[.int .i64 I, .int .i64 B] 23)).cell? ⟨w.heap.size, 0, none⟩ = some (.int .i64 I) := by simp
  have c1 : (w.alloc (.cells #[.int .i64 I, .int .i64 B] 23)).cell? ⟨w.heap.size, 1, none⟩ = some (.int .i64 B) := by simp
  clear hb hn hc hnil hxs hxc hxb P1 P2 P3 hback hin hlen hl hz hlz
  go_enter Try.func4, Try.ntmps4
  go_wp2_with fail
  refine (HP1.out _).mono ?_
  rintro e w1 ⟨rfl, rfl⟩
  go_upto_region 3 with (fail)
  obtain ⟨W2, hW2⟩ : ∃ W2, W2 = (w.alloc (.cells #[.int .i64 I, .int .i64 B] 23)).alloc (.cells #[.int .i64 I, .int .i64 B] 25) := ⟨_, rfl⟩
  have HT2 : Hid (TwoB w.heap.size I B w W2) := by show TwoB _ _ _ _ _; rw [hW2]; exact HT0.out
  rw [← hW2]
  obtain ⟨a0, a1, b0, b1, hbel2⟩ := HT2.out
  have HQ2 := Lib.hid (HP2.out W2 hbel2)
  clear hW2 HT0 c0 c1 HP1 HP2 hbel2
  go_wp2_with fail
  refine (HQ2.out).mono ?_
  rintro e w3 ⟨A3, c3, rs, rfl, hrs, hpa3, hB3⟩
  have HT3 := Lib.hid (HT2.out.below hB3)
  replace hrs : rs.map (·.1) = l := hrs
  have HRs := Lib.hid hrs
  have HPa3 := Lib.hid hpa3
  have HQ3 := Lib.hid (HP3.out w3 HT3.out.bel)
  obtain ⟨n, hn⟩ : ∃ n, n = rs.length := ⟨_, rfl⟩
  have HN := Lib.hid hn
  rw [← hn]
  have hn20 : n ≤ 20 := by
    have h1 := HLen.out
    have h2 : l.length = n := by rw [hn, ← hrs]; simp
    omega
  clear hrs hpa3 hB3 hn a0 a1 b0 b1 HT2 HQ2 HP3
  obtain ⟨a0, a1, b0, b1, _⟩ := HT3.out
  go_wp2_with fail
  refine (HQ3.out).mono ?_
  rintro e w4 ⟨A4, c4, qs, rfl, hqs, hpa4, hB4⟩
  have HT4 := Lib.hid (HT3.out.below hB4)
  replace hqs : qs.map (·.1) = l := hqs
  have HQs := Lib.hid hqs
  have HPa4 := Lib.hid hpa4
  have hpk : ∀ r ∈ rs, PvK r.1 := fun r hr => HIn.out r.1 (by rw [← HRs.out]; exact List.mem_map_of_mem hr)
  have hpa34 := HPa3.out.below hB4
  have p5 := vput_any I B A3 rs c3 w4 hpa34 hpk
  rw [HRs.out, ← HN.out] at p5
  have HP5 := Lib.hid p5
  have HPa34 := Lib.hid hpa34
  have HPk := Lib.hid hpk
  obtain ⟨m, hm⟩ : ∃ m, m = qs.length := ⟨_, rfl⟩
  have HM := Lib.hid hm
  rw [← hm]
  clear hqs hpa4 hB4 hpk hpa34 p5 a0 a1 b0 b1 HT3 HQ3 HPa3 hm
  obtain ⟨a0, a1, b0, b1, _⟩ := HT4.out
  go_wp2_with fail
  refine (HP5.out).mono ?_
  rintro e w5 ⟨A5, c5, rfl, hby5, hB5⟩
  have HT5 := Lib.hid (HT4.out.below hB5)
  have p6 := vlike_eq A3 A4 rs qs c3 c4 w5 (HPa34.out.below hB5) (HPa4.out.below hB5) (by rw [HRs.out, HQs.out]) HPk.out (by rw [← HN.out]; omega)
  rw [← HN.out, ← HM.out] at p6
  have HP6 := Lib.hid p6
  have HBy5 := Lib.hid hby5
  clear hby5 hB5 p6 a0 a1 b0 b1 HT4 HP5
  obtain ⟨y, hy⟩ : ∃ y, y = (putV I B l).1 := ⟨_, rfl⟩
  have HY := Lib.hid hy
  obtain ⟨yl, hyl⟩ : ∃ yl, yl = (putV I B l).1.length := ⟨_, rfl⟩
  have HYl := Lib.hid hyl
  rw [← hyl]
  clear hy hyl
  go_wp2_with fail
  refine (HP6.out).mono ?_
  rintro e w6 ⟨rfl, hB6⟩
  have HT6 := Lib.hid (HT5.out.below hB6)
  have HB6 := Lib.hid hB6
  have e1 : (z == z) = true := by simp
  clear hB6 HP6 HT5
  by_cases hz0 : z = 0
  · have e2 : (z != 0) = false := by simpa using hz0
    have hbk : y = xs := by rw [HY.out]; exact HBack.out hz0
    have p7 := same8_any A5 A yl xs.length c5 c y xs w6 (by rw [HY.out]; exact HBy5.out.below HB6.out) (HXb.out.below HT6.out.bel) (by rw [HYl.out, HY.out]) rfl (by rw [hbk]; omega) (by omega)
    rw [hbk] at p7
    simp only [eq_self, decide_true] at p7
    have HP7 := Lib.hid p7
    clear hz0 hbk p7
    go_wp2_with fail
    refine (HP7.out).mono ?_
    rintro e w7 ⟨rfl, q7, rfl⟩
    go_wp2_with fail
    refine (vawake_any _).mono ?_
    rintro e w8 ⟨rfl, hB8⟩
    have hfin := (below_drewN HT6.out.bel q7).trans (hB8.mono HT6.out.bel.size)
    have HF := Lib.hid hfin
    clear hB8 hfin
    go_wp2_with fail
    go_ret
    exact ⟨rfl, HF.out⟩
  · have e2 : (z != 0) = true := by simpa using hz0
    clear hz0
    go_wp2_with fail
    refine (vawake_any _).mono ?_
    rintro e w8 ⟨rfl, hB8⟩
    have hfin := HT6.out.bel.trans (hB8.mono HT6.out.bel.size)
    have HF := Lib.hid hfin
    clear hB8 hfin
    go_wp2_with fail
    go_ret
    exact ⟨rfl, HF.out⟩
end Go.Proofs.Ytjdpljhhlmcbaaa
end
