/- The contract of the reference's Get of patches. Condition: lengths within a slice's. -/
import Derived.Test.YtjdpljhhlmcbaaaVolGetP
import Derived.Test.YtjdpljhhlmcbaaaVolCheckR
import Derived.Test.YtjdpljhhlmcbaaaRefText
import Derived.Deep.DeepCutAuto
namespace Go.Proofs.Ytjdpljhhlmcbaaa
open Go.RowKit Go.Cat Go.Cat.Vol

theorem info_rpatch : (Try.prog.info? 89).map (fun i => (i.zero, i.size, i.bytes)) = some (some (.agg #[.int .u32 0, .int .u64 0, .slice none 0 0]), 3, 40) := by kernel_rfl
theorem elem_rpatch : Elem Try.prog 41 89 (.agg #[.int .u32 0, .int .u64 0, .slice none 0 0]) 3 40 := ⟨Try.underlying41, info_rpatch, rfl, by decide, by decide⟩

/-- What the loop of the reference's reads keeps: the box H of what is left, the row of what was read. -/
structure RGet (H : Nat) (v : Value) (rs : List Pr) (s : IS) (I B : Int) (w wr : World) : Prop where
  box : ∃ A c, wr.heap[H]? = some (.cells #[.slice A s.b.length c, .int .i64 s.e] 83 (0, 0)) ∧ RI s A c w
  sh : wr.heap[w.heap.size]? = some (.cells #[.int .i64 I, .int .i64 B] 23 (0, 0))
  own : wr.ownsRow (H + 1) 89 3 v rs.length (prows rs)
  each : ∀ r ∈ rs, Bytes w r.2.1 r.1.b
  bel : Below w.heap.size w wr
  le : w.heap.size < H
section
variable {H : Nat} {v : Value} {rs : List Pr} {s s' : IS} {I B : Int} {w wr w' : World}
theorem RGet.lt (h : RGet H v rs s I B w wr) : H < wr.heap.size := by obtain ⟨A, c, h1, _⟩ := h.box; exact (Array.getElem?_eq_some_iff.1 h1).1
theorem RGet.below (h : RGet H v rs s I B w wr) (hb : Below wr.heap.size wr w') : RGet H v rs s I B w w' := by
  obtain ⟨A, c, h1, h2⟩ := h.box
  exact ⟨⟨A, c, (hb.block H (Array.getElem?_eq_some_iff.1 h1).1).trans h1, h2⟩, (hb.block _ (Array.getElem?_eq_some_iff.1 h.sh).1).trans h.sh, own_touch (K := fun _ => False) h.own (Tch.of_below hb) (fun _ _ e => e), h.each, h.bel.trans (hb.mono h.bel.size), h.le⟩
/-- A store into the box of what is left, and into another box of that type. -/
theorem RGet.store {A : Option Addr} {c : Nat} {K : Nat → Prop} (h : RGet H v rs s I B w wr) (hr : RI s' A c w) (ht : Tch K wr w') (hK : ∀ k, K k → w.heap.size < k ∧ ∃ cs fr, wr.heap[k]? = some (.cells cs 83 fr)) (hb : w'.heap[H]? = some (.cells #[.slice A s'.b.length c, .int .i64 s'.e] 83 (0, 0))) : RGet H v rs s' I B w w' :=
  ⟨⟨A, c, hb, hr⟩, (ht.block _ (Array.getElem?_eq_some_iff.1 h.sh).1 (fun e => by have := (hK _ e).1; omega)).trans h.sh, own_touch h.own ht (fun k hk e => by
    obtain ⟨cs, fr, hc⟩ := own_typeV h.own hk
    obtain ⟨_, cs', fr', hc'⟩ := hK k e
    rw [hc] at hc'
    injection hc' with hc'
    injection hc' with _ hc'
    exact absurd hc' (by decide)), h.each, h.bel.trans (ht.below h.bel.size (fun k e => Nat.le_of_lt (hK k e).1)), h.le⟩
theorem RGet.push {r : Pr} {v2 : Value} (h : RGet H v rs s I B w wr) (hr : Bytes w r.2.1 r.1.b)
    (ho : w'.ownsRow (H + 1) 89 3 v2 (rs.length + 1) (prows rs ++ pcells r)) (hg : wr.grownBy w' v.ownBlock) : RGet H v2 (rs ++ [r]) s I B w w' := by
  obtain ⟨A, c, h1, h2⟩ := h.box
  refine ⟨⟨A, c, (hg.block H h.lt (fun e => by have := (h.own.lt _ e.symm).1; omega)).trans h1, h2⟩, (hg.block _ (Array.getElem?_eq_some_iff.1 h.sh).1 (fun e => by have := (h.own.lt _ e.symm).1; have := h.le; omega)).trans h.sh, ?_, fun x hx => ?_, h.bel.own (base := H + 1) h.own hg h.bel.size (by have := h.le; omega), h.le⟩
  · rw [prows_snoc, List.length_append]; exact ho
  · rcases List.mem_append.1 hx with h1 | h1
    · exact h.each x h1
    · rw [List.mem_singleton.1 h1]; exact hr
theorem RGet.pats {A : Option Addr} {n c : Nat} (h : RGet H (.slice A n c) rs s I B w wr) : Pats wr A rs := by
  obtain ⟨A', c', he, _⟩ := own_full h.own
  injection he with _ hn _
  subst hn
  exact ⟨ownN_sees h.own, fun r hr => (h.each r hr).below h.bel⟩
end

theorem set2_block {w : World} {g : Nat} {a b : Value} {t : TypeId} {fr : Nat × Nat} (x y : Value) (h : w.heap[g]? = some (.cells #[a, b] t fr)) :
    ((w.setCell ⟨g, 0, none⟩ x).setCell ⟨g, 1, none⟩ y).heap[g]? = some (.cells #[x, y] t fr) := set_block y (set_block x h)
theorem tch_set2 (w : World) (g : Nat) (x y : Value) : Tch (fun k => k = g) w ((w.setCell ⟨g, 0, none⟩ x).setCell ⟨g, 1, none⟩ y) := (Tch.set _ _ _ _).trans (Tch.set _ _ _ _)

set_option maxRecDepth 100000 in
set_option maxHeartbeats 4000000 in
theorem rgetP_any (I B : Int) (A : Option Addr) (c : Nat) (bs : List UInt8) (w : World) (hb : Bytes w A bs) (hm : bs.length ≤ c) (hc : c ≤ maxLen) (hnil : A = none → c = 0) :
    Calls Try.prog 18 #[.agg #[.int .i64 I, .int .i64 B], .slice A bs.length c] w (GotP (getV I B bs) w) := by
  obtain ⟨V, hV⟩ : ∃ V, V = getV I B bs := ⟨_, rfl⟩
  rw [← hV]
  by_cases h0 : bs = []
  · subst h0
    rw [getV_nil] at hV
    subst hV
    clear hb hm
    go_enter Try.func18, Try.ntmps18
    go_wp2_with fail
    go_ret2
    exact GotP.no ((Below.refl _ _).alloc (Nat.le_refl _) _)
  · obtain ⟨n0, hn0⟩ : ∃ n0, n0 = bs.length := ⟨_, rfl⟩
    have hpos : 0 < n0 := by rw [hn0]; exact List.length_pos_iff.2 h0
    have t0 : ((n0 : Int) == 0) = false := by simp; omega
    rw [← hn0]
    have HN0 := Lib.hid hn0
    by_cases hr : rightP I B
    · have HR := Lib.hid hr
      have HV := Lib.hid hV
      have H0 := Lib.hid h0
      have hri : RI ⟨bs, 0⟩ A c w := ⟨fun h => absurd rfl h, hb, hm, hc, hnil⟩
      have p1 := fun W (hB : Below w.heap.size w W) => rupto_any ⟨bs, 0⟩ A c 1 20 w W hri hB (by omega) (by omega)
      obtain ⟨s1, hs1⟩ : ∃ s1, s1 = (count bs).1 := ⟨_, rfl⟩
      obtain ⟨n, hn⟩ : ∃ n : Nat, (n : Int) = (count bs).2 := ⟨(count bs).2.toNat, by have := (count_bounds bs).1; omega⟩
      have hn20 : n ≤ 20 := by have := (count_bounds bs).2; omega
      have hrd : readP bs = parse s1 n := by unfold readP; rw [← hs1, ← hn]; rfl
      have hcu : (⟨bs, 0⟩ : IS).upto 1 20 = (s1, (n : Int)) := by
        show count bs = _
        rw [hs1, hn]
      rw [hcu] at p1
      change ∀ W, Below w.heap.size w W → Calls Try.prog 39 #[ri A bs.length c 0, .int .i64 ((1 : Nat) : Int), .int .u64 20] W (ToldRU (s1, (n : Int)) w W) at p1
      rw [← hn0] at p1
      have P1 := Lib.hid p1
      have HRd := Lib.hid hrd
      clear hr hV h0 hb hn0 hm hc hnil hri p1 hs1 hn hrd hcu
      go_enter Try.func18, Try.ntmps18
      go_wp2_with fail
      refine (rright_yes _ HR.out).mono ?_
      rintro e w1 ⟨rfl, hB1⟩
      obtain ⟨hbx, hB2⟩ := boxed2' hB1
      have HBx := Lib.hid hbx
      have P1' := Lib.hid (P1.out w1 hB2)
      have HB2 := Lib.hid hB2
      clear hB1 hB2 hbx P1
      go_wp2_with fail
      refine (P1'.out).mono ?_
      rintro e w2 ⟨A1, c1, rfl, hr1, hB3⟩
      have hwlt : w.heap.size < w2.heap.size := by have := (Array.getElem?_eq_some_iff.1 HBx.out).1; have := hB3.size; omega
      obtain ⟨H, hH⟩ : ∃ H, H = w2.heap.size := ⟨_, rfl⟩
      obtain ⟨W3, hW3⟩ : ∃ W3, W3 = w2.alloc (.cells #[.slice A1 s1.b.length c1, .int .i64 s1.e] 83) := ⟨_, rfl⟩
      have hG : RGet H (.slice none 0 0) [] s1 I B w W3 := by
        have hb3 : Below w2.heap.size w2 W3 := by rw [hW3]; exact (Below.refl _ _).alloc (Nat.le_refl _) _
        refine ⟨⟨A1, c1, by rw [hW3, hH]; exact heap_alloc_new _ _, hr1⟩, ?_, World.ownsRow_nil _ _ _ _, fun r hr => (by cases hr), ?_, by rw [hH]; exact hwlt⟩
        · rw [hb3.block w.heap.size hwlt, hB3.block w.heap.size (Array.getElem?_eq_some_iff.1 HBx.out).1]; exact HBx.out
        · exact (HB2.out.trans (hB3.mono HB2.out.size)).trans (hb3.mono (by omega))
      have HG := Lib.hid hG
      have HH := Lib.hid hH
      have HW3 := Lib.hid hW3
      clear hr1 hB3 hG hH hW3 HB2 HBx P1'
      go_upto_region 6 with (fail)
      rw [← HW3.out, ← HH.out]
      clear HW3 HH hwlt
      go_wp2_with fail
      go_loopw [8, 9] (fun ov iv wr => ∃ (k : Nat) (A2 : Option Addr) (c2 : Nat) (rs : List Pr), k ≤ n ∧ iv = .int .u64 k ∧ ov = .slice A2 k c2 ∧ Hid (rs.length = k ∧ rs.map (·.1) = (parse s1 k).2) ∧ Hid (RGet H (.slice A2 k c2) rs (parse s1 k).1 I B w wr)) (fun _ iv _ => n - (intOf iv).toNat)
      case atStart => exact ⟨0, none, 0, [], Nat.zero_le _, rfl, rfl, ⟨rfl, rfl⟩, HG.out⟩
      case round =>
        clear HG
        obtain ⟨k, A2, c2, rs, hk, rfl, rfl, HL, HG⟩ := hrel
        by_cases hlt : k < n
        · have hkI : decide ((k : Int) < (n : Int)) = true := by simp; omega
          have hpar : parse s1 (k + 1) = ((one (parse s1 k).1).1, (parse s1 k).2 ++ [(one (parse s1 k).1).2]) := rfl
          have hin := one_in (parse s1 k).1
          obtain ⟨sk, hsk⟩ : ∃ sk, sk = (parse s1 k).1 := ⟨_, rfl⟩
          obtain ⟨A3, c3, hbx, hri⟩ := HG.out.box
          rw [← hsk] at hbx hri
          have p1 := fun W (hB : Below w.heap.size w W) => rget_any sk A3 c3 4 w W hri hB (by omega) (by omega)
          obtain ⟨sa, hsa⟩ : ∃ sa, sa = (sk.upto 4 18446744073709551615).1 := ⟨_, rfl⟩
          obtain ⟨key, hkey⟩ : ∃ key, key = (sk.upto 4 18446744073709551615).2 := ⟨_, rfl⟩
          have e1 : sk.upto 4 18446744073709551615 = (sa, key) := by rw [hsa, hkey]
          obtain ⟨sb, hsb⟩ : ∃ sb, sb = (sa.upto 8 18446744073709551615).1 := ⟨_, rfl⟩
          obtain ⟨ver, hver⟩ : ∃ ver, ver = (sa.upto 8 18446744073709551615).2 := ⟨_, rfl⟩
          have e2 : sa.upto 8 18446744073709551615 = (sb, ver) := by rw [hsb, hver]
          obtain ⟨sc, hsc⟩ : ∃ sc, sc = (sb.text 64).1 := ⟨_, rfl⟩
          obtain ⟨dat, hdat⟩ : ∃ dat, dat = (sb.text 64).2 := ⟨_, rfl⟩
          have e3 : sb.text 64 = (sc, dat) := by rw [hsc, hdat]
          have hone : one (parse s1 k).1 = (sc, ⟨key, ver, dat⟩) := by
            rw [← hsk]; unfold one; rw [e1]; show ((IS.text (sa.upto 8 18446744073709551615).1 64).1, Pv.mk key (sa.upto 8 18446744073709551615).2 (IS.text (sa.upto 8 18446744073709551615).1 64).2) = _
            rw [e2]; show ((sb.text 64).1, Pv.mk key ver (sb.text 64).2) = _; rw [e3]
          rw [hone] at hpar hin
          have hk1 : 0 ≤ key := hin.key0
          have hk2 : key ≤ 4294967295 := by have h : key < 4294967296 := hin.key1; omega
          have hk3 : IntKind.u32.wrap key = key := IntWalk.u32_in _ ⟨hk1, hk2⟩
          rw [e1] at p1
          have p2 := fun A c W (h : RI sa A c w) (hB : Below w.heap.size w W) => rget_any sa A c 8 w W h hB (by omega) (by omega)
          rw [e2] at p2
          have p3 := fun A c W (h : RI sb A c w) (hB : Below w.heap.size w W) => rread_any sb A c 64 w W h hB
          rw [e3] at p3
          have P1 := Lib.hid (p1 wr HG.out.bel)
          have P2 := Lib.hid p2
          have P3 := Lib.hid p3
          have HPar := Lib.hid hpar
          have c0 : wr.cell? ⟨H, 0, none⟩ = some (.slice A3 sk.b.length c3) := cell_of_row wr H 0 _ _ _ hbx
          have c1 : wr.cell? ⟨H, 1, none⟩ = some (.int .i64 sk.e) := cell_of_row wr H 1 _ _ _ hbx
          clear p1 p2 p3 hpar hin hsk hsa hkey e1 hsb hver e2 hsc hdat e3 hone hbx hri
          go_wp2_with fail
          refine (P1.out).mono ?_
          rintro e w4 ⟨A4, c4, rfl, hr4, hB4⟩
          have HG4 := Lib.hid (HG.out.below hB4)
          obtain ⟨J, hJ⟩ : ∃ J, J = w4.heap.size := ⟨_, rfl⟩
          obtain ⟨W5, hW5⟩ : ∃ W5, W5 = w4.alloc (.cells #[.slice A4 sa.b.length c4, .int .i64 sa.e] 83) := ⟨_, rfl⟩
          have hb5 : Below w4.heap.size w4 W5 := by rw [hW5]; exact (Below.refl _ _).alloc (Nat.le_refl _) _
          have HG5 := Lib.hid (HG4.out.below hb5)
          have hJ5 : W5.heap[J]? = some (.cells #[.slice A4 sa.b.length c4, .int .i64 sa.e] 83 (0, 0)) := by rw [hW5, hJ]; exact heap_alloc_new _ _
          have hHJ : H < J := by rw [hJ]; exact HG4.out.lt
          have x0 : W5.cell? ⟨J, 0, none⟩ = some (.slice A4 sa.b.length c4) := cell_of_row W5 J 0 _ _ _ hJ5
          have x1 : W5.cell? ⟨J, 1, none⟩ = some (.int .i64 sa.e) := cell_of_row W5 J 1 _ _ _ hJ5
          have P2' := Lib.hid (P2.out A4 c4 W5 hr4 HG5.out.bel)
          have HW5 := Lib.hid hW5
          have HJ := Lib.hid hJ
          have HJ5 := Lib.hid hJ5
          clear hB4 hr4 hJ hW5 hb5 hJ5 HG P1 P2 c0 c1
          go_upto_region 11 with (fail)
          rw [← HW5.out, ← HJ.out]
          clear HG4 HW5 HJ
          go_wp2_with fail
          refine (P2'.out).mono ?_
          rintro e w6 ⟨A6, c6, rfl, hr6, hB6⟩
          have hG6 := HG5.out.below hB6
          have hJ6 : w6.heap[J]? = some (.cells #[.slice A4 sa.b.length c4, .int .i64 sa.e] 83 (0, 0)) := (hB6.block J (Array.getElem?_eq_some_iff.1 HJ5.out).1).trans HJ5.out
          have y0 : w6.cell? ⟨J, 0, none⟩ = some (.slice A4 sa.b.length c4) := cell_of_row w6 J 0 _ _ _ hJ6
          have y1 : w6.cell? ⟨J, 1, none⟩ = some (.int .i64 sa.e) := cell_of_row w6 J 1 _ _ _ hJ6
          have f0 : w6.frozen? ⟨J, 0, none⟩ = false := frozen_of_row w6 J 0 _ _ hJ6
          have f1 : w6.frozen? ⟨J, 1, none⟩ = false := frozen_of_row w6 J 1 _ _ hJ6
          obtain ⟨W7, hW7⟩ : ∃ W7, W7 = (w6.setCell ⟨J, 0, none⟩ (.slice A6 sb.b.length c6)).setCell ⟨J, 1, none⟩ (.int .i64 sb.e) := ⟨_, rfl⟩
          have hJ7 : W7.heap[J]? = some (.cells #[.slice A6 sb.b.length c6, .int .i64 sb.e] 83 (0, 0)) := by rw [hW7]; exact set2_block _ _ hJ6
          have hG7 : RGet H (.slice A2 k c2) rs (parse s1 k).1 I B w W7 := by
            obtain ⟨A', c', h1, h2⟩ := hG6.box
            have ht : Tch (fun k => k = J) w6 W7 := by rw [hW7]; exact tch_set2 _ _ _ _
            exact hG6.store h2 ht (fun k e => by rw [e]; exact ⟨by have := hG6.le; omega, _, _, hJ6⟩) ((ht.block H hG6.lt (by omega)).trans h1)
          have P3' := Lib.hid (P3.out A6 c6 W7 hr6 hG7.bel)
          have HG7 := Lib.hid hG7
          have HW7 := Lib.hid hW7
          have HJ7 := Lib.hid hJ7
          clear hG6 hJ6 hW7 hJ7 hG7 hr6 hB6 P3 HG5 HJ5 x0 x1
          go_upto_region 12 with (fail)
          rw [← HW7.out]
          have z0 : W7.cell? ⟨J, 0, none⟩ = some (.slice A6 sb.b.length c6) := cell_of_row W7 J 0 _ _ _ HJ7.out
          have z1 : W7.cell? ⟨J, 1, none⟩ = some (.int .i64 sb.e) := cell_of_row W7 J 1 _ _ _ HJ7.out
          clear y0 y1 f0 f1 HW7
          go_wp2_with fail
          refine (P3'.out).mono ?_
          rintro e w8 ⟨A8, c8, A9, c9, rfl, hr8, hb9, hB8⟩
          have hG8 := HG7.out.below hB8
          have hJ8 : w8.heap[J]? = some (.cells #[.slice A6 sb.b.length c6, .int .i64 sb.e] 83 (0, 0)) := (hB8.block J (Array.getElem?_eq_some_iff.1 HJ7.out).1).trans HJ7.out
          have y0 : w8.cell? ⟨J, 0, none⟩ = some (.slice A6 sb.b.length c6) := cell_of_row w8 J 0 _ _ _ hJ8
          have y1 : w8.cell? ⟨J, 1, none⟩ = some (.int .i64 sb.e) := cell_of_row w8 J 1 _ _ _ hJ8
          have f0 : w8.frozen? ⟨J, 0, none⟩ = false := frozen_of_row w8 J 0 _ _ hJ8
          have f1 : w8.frozen? ⟨J, 1, none⟩ = false := frozen_of_row w8 J 1 _ _ hJ8
          obtain ⟨A', c', hbx8, hri8⟩ := hG8.box
          have u0 := cell_of_row w8 H 0 _ _ _ hbx8
          have u1 := cell_of_row w8 H 1 _ _ _ hbx8
          simp only [List.getElem?_toArray, List.getElem?_cons_zero, List.getElem?_cons_succ] at u0 u1
          have g0 : w8.frozen? ⟨H, 0, none⟩ = false := frozen_of_row w8 H 0 _ _ hbx8
          have g1 : w8.frozen? ⟨H, 1, none⟩ = false := frozen_of_row w8 H 1 _ _ hbx8
          have hne : ¬ H = J := by omega
          have hne' : ¬ J = H := by omega
          obtain ⟨W9, hW9⟩ : ∃ W9, W9 = (((w8.setCell ⟨J, 0, none⟩ (.slice A8 sc.b.length c8)).setCell ⟨J, 1, none⟩ (.int .i64 sc.e)).setCell ⟨H, 0, none⟩ (.slice A8 sc.b.length c8)).setCell ⟨H, 1, none⟩ (.int .i64 sc.e) := ⟨_, rfl⟩
          have hG9 : RGet H (.slice A2 k c2) rs sc I B w W9 := by
            have t1 : Tch (fun k => k = J ∨ k = H) w8 ((w8.setCell ⟨J, 0, none⟩ (.slice A8 sc.b.length c8)).setCell ⟨J, 1, none⟩ (.int .i64 sc.e)) := (tch_set2 _ _ _ _).mono fun k _ e => .inl e
            have hH1 : ((w8.setCell ⟨J, 0, none⟩ (.slice A8 sc.b.length c8)).setCell ⟨J, 1, none⟩ (.int .i64 sc.e)).heap[H]? = w8.heap[H]? := (tch_set2 _ _ _ _).block H hG8.lt hne
            have t2 : Tch (fun k => k = J ∨ k = H) w8 W9 := by rw [hW9]; exact t1.trans ((tch_set2 _ _ _ _).mono fun k _ e => .inr e)
            refine hG8.store hr8 t2 (fun k e => ?_) (by rw [hW9]; exact set2_block _ _ (hH1.trans hbx8))
            rcases e with e | e
            · rw [e]; exact ⟨by have := hG8.le; omega, _, _, hJ8⟩
            · rw [e]; exact ⟨hG8.le, _, _, hbx8⟩
          have HG9 := Lib.hid hG9
          have HW9 := Lib.hid hW9
          have HB9 := Lib.hid hb9
          clear hG8 hJ8 hW9 hG9 hr8 hB8 hbx8 hri8 hb9 HG7 HJ7 z0 z1 P2' P3'
          go_upto_region 14 with (fail)
          rw [← HW9.out]
          clear y0 y1 f0 f1 u0 u1 g0 g1 HW9 hne hne'
          obtain ⟨r, hr⟩ : ∃ r : Pr, r = (⟨key, ver, dat⟩, A9, c9) := ⟨_, rfl⟩
          have hcells : pcells r = [.int .u32 key, .int .u64 ver, .slice A9 dat.length c9] := by rw [hr]; rfl
          have hX : Below W9.heap.size W9 (W9.alloc (.cells #[.int .u32 key, .int .u64 ver, .slice A9 dat.length c9] 89)) := (Below.refl _ _).alloc (Nat.le_refl _) _
          have HGX := Lib.hid (HG9.out.below hX)
          have HBr : Hid (Bytes w r.2.1 r.1.b) := by show Bytes _ _ _; rw [hr]; exact HB9.out
          have HCs := Lib.hid hcells
          have hlt7 : H + 1 ≤ (W9.alloc (.cells #[.int .u32 key, .int .u64 ver, .slice A9 dat.length c9] 89)).heap.size := HGX.out.lt
          have hrl : rs.length = k := HL.out.1
          have HRL := Lib.hid hrl
          have HRr := Lib.hid hr
          clear hcells hX hr hrl HB9
          go_wp2_with (at_builtin; refine wpList_app elem_rpatch rfl _ _ rfl (H + 1) (.slice A2 k c2) k (prows rs) rfl (by have := HGX.out.own; rw [HRL.out] at this; exact this) (some ⟨_, 0, none⟩) 1 1 [.int .u32 key, .int .u64 ver, .slice A9 dat.length c9] rfl (sees_new _ _ _) rfl (by rw [← HCs.out]; exact one_pcells r) (by omega) hlt7 ?_)
          intro v2 w10 hown hgr _
          obtain ⟨A10, c10, rfl, _, _⟩ := own_full hown
          have hG10 : RGet H (.slice A10 (k + 1) c10) (rs ++ [r]) sc I B w w10 := HGX.out.push HBr.out (by rw [HCs.out, HRL.out]; exact hown) hgr
          have hL10 : (rs ++ [r]).length = k + 1 ∧ (rs ++ [r]).map (·.1) = (parse s1 (k + 1)).2 := by
            refine ⟨by rw [List.length_append, HRL.out]; rfl, ?_⟩
            rw [HPar.out, List.map_append, HL.out.2]
            rw [HRr.out]; rfl
          have HG10 := Lib.hid hG10
          have HL10 := Lib.hid hL10
          clear hown hgr hG10 hL10
          go_wp2_with fail
          go_roundw
          case rel => exact ⟨k + 1, A10, c10, rs ++ [r], by omega, by go_num, rfl, HL10.out, by show RGet _ _ _ _ _ _ _ _; rw [HPar.out]; exact HG10.out⟩
          case measure => simp [intOf]; omega
        · obtain rfl : k = n := by omega
          have hkI : decide ((k : Int) < (k : Int)) = false := by simp
          have hL := HL.out
          rw [← HRd.out] at hL
          have HL := Lib.hid hL
          have hG := HG.out
          rw [← HRd.out] at hG
          obtain ⟨sz, hsz⟩ : ∃ sz, sz = (readP bs).1 := ⟨_, rfl⟩
          obtain ⟨A3, c3, hbx, hri⟩ := hG.box
          rw [← hsz] at hbx
          have PD := Lib.hid (fun W => rdone_any sz A3 c3 W)
          have bel := hG.bel
          have pats := hG.pats
          have HSz := Lib.hid hsz
          have hV := HV.out
          have u0 : wr.cell? ⟨H, 0, none⟩ = some (.slice A3 sz.b.length c3) := cell_of_row wr H 0 _ _ _ hbx
          have u1 : wr.cell? ⟨H, 1, none⟩ = some (.int .i64 sz.e) := cell_of_row wr H 1 _ _ _ hbx
          have hpk : ∀ r ∈ rs, PvK r.1 := fun r hr => (parse_in s1 k r.1 (by rw [← HRd.out, ← HL.out.2]; exact List.mem_map_of_mem hr)).k
          have pc := fun W (h : Below wr.heap.size wr W) => rcheck_any I B A2 rs c2 W (pats.below h).row hpk
          rw [HL.out.1, HL.out.2] at pc
          have hsh := hG.sh
          have cc : ∀ W, Below wr.heap.size wr W → W.cell? ⟨w.heap.size, 0, none⟩ = some (.int .i64 I) ∧ W.cell? ⟨w.heap.size, 1, none⟩ = some (.int .i64 B) := fun W h => by
            have := (h.block _ (Array.getElem?_eq_some_iff.1 hsh).1).trans hsh
            exact ⟨cell_of_row W _ 0 _ _ _ this, cell_of_row W _ 1 _ _ _ this⟩
          obtain ⟨z, hz⟩ : ∃ z, z = checkV I B (readP bs).2 := ⟨_, rfl⟩
          rw [← hz] at pc
          have PC := Lib.hid pc
          have HZ := Lib.hid hz
          have Bel := Lib.hid bel
          have HPats := Lib.hid pats
          have HCc := Lib.hid cc
          clear hL hsz hpk pc hz bel pats hG hbx hri hsh cc
          by_cases hd : sz.done = 0
          · have d1 : (sz.done != 0) = false := by simpa using hd
            have hd' : (readP bs).1.done = 0 := by rw [← HSz.out]; exact hd
            by_cases hk0 : k = 0
            · have hV2 : V = ([], 4) := by rw [hV]; exact getV_form H0.out HR.out hd' (.inl (by rw [← HL.out.2, List.map_eq_nil_iff]; exact List.eq_nil_of_length_eq_zero (by rw [HL.out.1, hk0])))
              have HV2 := Lib.hid hV2
              have t1 : ((k : Int) == 0) = true := by simp [hk0]
              clear hV hV2 hd hd' hk0
              go_wp2_with fail
              refine (PD.out _).mono ?_
              rintro e w9 ⟨rfl, hB9⟩
              go_wp2
              go_ret2
              rw [HV2.out]
              exact GotP.no (Bel.out.trans (hB9.mono Bel.out.size))
            · have t1 : ((k : Int) == 0) = false := by simpa using hk0
              have hne : (readP bs).2 ≠ [] := by
                intro e
                have h1 := HL.out.1
                have h2 := HL.out.2
                rw [e, List.map_eq_nil_iff] at h2
                rw [h2] at h1
                exact hk0 h1.symm
              by_cases hz0 : z = 0
              · have hV2 : V = ((readP bs).2, 0) := by rw [hV]; exact getV_ok H0.out HR.out hd' hne (by rw [← HZ.out]; exact hz0)
                have HV2 := Lib.hid hV2
                have t2 : (z != 0) = false := by simpa using hz0
                clear hV hV2 hd hd' hk0 hne hz0
                go_wp2_with fail
                refine (PD.out _).mono ?_
                rintro e w9 ⟨rfl, hB9⟩
                obtain ⟨q0, q1⟩ := HCc.out w9 hB9
                have PC' := Lib.hid (PC.out w9 hB9)
                have HP9 := Lib.hid (HPats.out.below hB9)
                have Bel9 := Lib.hid (Bel.out.trans (hB9.mono Bel.out.size))
                clear hB9
                go_wp2_with fail
                refine (PC'.out).mono ?_
                rintro e w10 ⟨rfl, hB10⟩
                go_wp2
                go_ret2
                rw [HV2.out]
                exact GotP.yes HL.out.1 HL.out.2 (HP9.out.below hB10) (Bel9.out.trans (hB10.mono Bel9.out.size))
              · have hV2 : V = ([], 4) := by rw [hV]; exact getV_form H0.out HR.out hd' (.inr (by rw [← HZ.out]; exact hz0))
                have HV2 := Lib.hid hV2
                have t2 : (z != 0) = true := by simpa using hz0
                clear hV hV2 hd hd' hk0 hne hz0
                go_wp2_with fail
                refine (PD.out _).mono ?_
                rintro e w9 ⟨rfl, hB9⟩
                obtain ⟨q0, q1⟩ := HCc.out w9 hB9
                have PC' := Lib.hid (PC.out w9 hB9)
                have Bel9 := Lib.hid (Bel.out.trans (hB9.mono Bel.out.size))
                clear hB9
                go_wp2_with fail
                refine (PC'.out).mono ?_
                rintro e w10 ⟨rfl, hB10⟩
                go_wp2
                go_ret2
                rw [HV2.out]
                exact GotP.no (Bel9.out.trans (hB10.mono Bel9.out.size))
          · have d1 : (sz.done != 0) = true := by simpa using hd
            have hV2 : V = ([], sz.done) := by rw [hV, HSz.out]; exact getV_done H0.out HR.out (by rw [← HSz.out]; exact hd)
            have HV2 := Lib.hid hV2
            clear hV hV2 hd
            go_wp2_with fail
            refine (PD.out _).mono ?_
            rintro e w9 ⟨rfl, hB9⟩
            go_wp2
            go_ret2
            rw [HV2.out]
            exact GotP.no (Bel.out.trans (hB9.mono Bel.out.size))
    · have HR := Lib.hid hr
      rw [getV_arg h0 hr] at hV
      subst hV
      clear hr hb h0 hn0
      go_enter Try.func18, Try.ntmps18
      go_wp2_with (go_at_call 10; refine (rright_not _ HR.out).mono ?_; rintro e w1 ⟨rfl, hB1⟩; obtain ⟨c0, c1, hB2⟩ := boxed2 hB1)
      go_ret2
      exact GotP.no hB2
end Go.Proofs.Ytjdpljhhlmcbaaa
