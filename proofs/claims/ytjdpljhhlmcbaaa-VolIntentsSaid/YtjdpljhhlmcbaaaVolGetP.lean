/- The contract of vol.Get. Condition: lengths within a slice's. -/
import Derived.Test.YtjdpljhhlmcbaaaVolGetV
import Derived.Test.YtjdpljhhlmcbaaaVolCheckP
namespace Go.Proofs.Ytjdpljhhlmcbaaa
open Go.RowKit Go.Cat Go.Cat.Vol

theorem info_patch : (Try.prog.info? 80).map (fun i => (i.zero, i.size, i.bytes)) = some (some (.agg #[.int .u32 0, .int .u64 0, .slice none 0 0]), 3, 40) := by kernel_rfl
theorem elem_patch : Elem Try.prog 37 80 (.agg #[.int .u32 0, .int .u64 0, .slice none 0 0]) 3 40 := ⟨Try.underlying37, info_patch, rfl, by decide, by decide⟩

/-- What the loop of the reads keeps. -/
structure GetR (g : Nat) (v : Value) (rs : List Pr) (s : IS) (w wr : World) : Prop where
  inf : InF g s wr
  own : wr.ownsRow (g + 1) 80 3 v rs.length (prows rs)
  each : ∀ r ∈ rs, wr.ownsRow (g + 1) 5 1 (.slice r.2.1 r.1.b.length r.2.2) r.1.b.length (r.1.b.map by8)
  bel : Below w.heap.size w wr
  le : w.heap.size ≤ g
section
variable {g : Nat} {v : Value} {rs : List Pr} {s s' : IS} {w wr w' : World}
theorem GetR.lt (h : GetR g v rs s w wr) : g + 1 ≤ wr.heap.size := h.inf.lt
theorem GetR.step (h : GetR g v rs s w wr) (hi : InF g s' w') (ht : Tch (fun k => k = g) wr w') : GetR g v rs s' w w' :=
  ⟨hi, own_touch h.own ht (fun k hk e => by have := (h.own.lt k hk).1; omega), fun r hr => own_touch (h.each r hr) ht (fun k hk e => by have := ((h.each r hr).lt k hk).1; omega),
    h.bel.trans (ht.below h.bel.size (fun k e => by rw [e]; exact h.le)), h.le⟩
theorem GetR.below (h : GetR g v rs s w wr) (hb : Below wr.heap.size wr w') : GetR g v rs s w w' :=
  ⟨h.inf.touch hb, own_touch (K := fun _ => False) h.own (Tch.of_below hb) (fun _ _ e => e), fun r hr => own_touch (K := fun _ => False) (h.each r hr) (Tch.of_below hb) (fun _ _ e => e), h.bel.trans (hb.mono h.bel.size), h.le⟩
theorem GetR.push {r : Pr} {v2 : Value} (h : GetR g v rs s w wr) (hr : wr.ownsRow (g + 1) 5 1 (.slice r.2.1 r.1.b.length r.2.2) r.1.b.length (r.1.b.map by8))
    (ho : w'.ownsRow (g + 1) 80 3 v2 (rs.length + 1) (prows rs ++ pcells r)) (hg : wr.grownBy w' v.ownBlock) : GetR g v2 (rs ++ [r]) s w w' := by
  have hn : ∀ {base n : Nat} {A : Value} {xs : List Value}, wr.ownsRow base 5 1 A n xs → w'.ownsRow base 5 1 A n xs := fun hh =>
    own_touch hh (Tch.grown hg) fun k hk e => by
      obtain ⟨c1, f1, h1⟩ := own_typeV hh hk
      obtain ⟨c2, f2, h2⟩ := own_typeV h.own e
      rw [h1] at h2
      injection h2 with h2
      injection h2 with _ h2
      exact absurd h2 (by decide)
  refine ⟨h.inf.keep (Tch.grown hg) (fun k hk e => by have := (h.own.lt k e).1; omega), ?_, fun x hx => ?_, h.bel.own (base := g + 1) h.own hg h.bel.size (by have := h.le; omega), h.le⟩
  · rw [prows_snoc, List.length_append]; exact ho
  · rcases List.mem_append.1 hx with h1 | h1
    · exact hn (h.each x h1)
    · rw [List.mem_singleton.1 h1]; exact hn hr
theorem GetR.pats {A : Option Addr} {n c : Nat} (h : GetR g (.slice A n c) rs s w wr) : Pats wr A rs := by
  obtain ⟨A', c', he, _⟩ := own_full h.own
  injection he with _ hn _
  subst hn
  exact ⟨ownN_sees h.own, fun r hr => Sees.of_own (h.each r hr)⟩
end

/-- What Get tells. -/
def GotP (r : List Pv × Int) (w : World) (e : Ending) (w' : World) : Prop :=
  ∃ A c rs, e = .returned (.tuple #[.slice A rs.length c, .int .i64 r.2]) ∧ rs.map (·.1) = r.1 ∧ Pats w' A rs ∧ Below w.heap.size w w'
theorem GotP.no {w w' : World} {x : Int} (h : Below w.heap.size w w') : GotP ([], x) w (.returned (.tuple #[.slice none 0 0, .int .i64 x])) w' := ⟨none, 0, [], rfl, rfl, Pats.nil_, h⟩
theorem GotP.yes {w w' : World} {A : Option Addr} {c n : Nat} {rs : List Pr} {x : Int} {l : List Pv} (hn : rs.length = n) (hl : rs.map (·.1) = l) (hp : Pats w' A rs) (h : Below w.heap.size w w') : GotP (l, x) w (.returned (.tuple #[.slice A n c, .int .i64 x])) w' := ⟨A, c, rs, by rw [hn], hl, hp, h⟩

theorem boxed2' {w w1 : World} {a b : Value} {t : TypeId} (h : Below (w.alloc (.cells #[a, b] t)).heap.size (w.alloc (.cells #[a, b] t)) w1) :
    w1.heap[w.heap.size]? = some (.cells #[a, b] t (0, 0)) ∧ Below w.heap.size w w1 :=
  ⟨(h.block w.heap.size (by simp)).trans (heap_alloc_new w _), ((Below.refl _ _).alloc (Nat.le_refl _) _).trans (h.mono (by simp))⟩

set_option maxRecDepth 100000 in
set_option maxHeartbeats 2000000 in
theorem vget_any (I B : Int) (A : Option Addr) (c : Nat) (bs : List UInt8) (w : World) (hb : Bytes w A bs) (hm : bs.length ≤ 140737488355328) :
    Calls Try.prog 17 #[.agg #[.int .i64 I, .int .i64 B], .slice A bs.length c] w (GotP (getV I B bs) w) := by
  obtain ⟨V, hV⟩ : ∃ V, V = getV I B bs := ⟨_, rfl⟩
  rw [← hV]
  by_cases h0 : bs = []
  · subst h0
    rw [getV_nil] at hV
    subst hV
    clear hb hm
    go_enter Try.func17, Try.ntmps17
    go_wp2_with fail
    go_ret2
    exact GotP.no ((Below.refl _ _).alloc (Nat.le_refl _) _)
  · obtain ⟨n0, hn0⟩ : ∃ n0, n0 = bs.length := ⟨_, rfl⟩
    have hpos : 0 < n0 := by rw [hn0]; exact List.length_pos_iff.2 h0
    have t0 : ((n0 : Int) == 0) = false := by simp; omega
    rw [← hn0]
    have HN0 := Lib.hid hn0
    by_cases hr : rightP I B
    · have HR := Lib.hid hr
      have HV := Lib.hid hV
      have H0 := Lib.hid h0
      have P0 := Lib.hid (fun W (hB : Below w.heap.size w W) => of_any A c bs W (hb.below hB) hm)
      rw [← hn0] at P0
      clear hr hV h0 hb hn0
      go_enter Try.func17, Try.ntmps17
      go_wp2_with fail
      refine (vright_yes _ HR.out).mono ?_
      rintro e w1 ⟨rfl, hB1⟩
      obtain ⟨hbx, hB2⟩ := boxed2' hB1
      have HBx := Lib.hid hbx
      have P0' := Lib.hid (P0.out w1 hB2)
      have HB2 := Lib.hid hB2
      clear hB1 hB2 hbx P0
      go_wp2_with fail
      refine (P0'.out).mono ?_
      rintro e w2 ⟨g, rfl, hg, hi, hB3⟩
      have hgw : w.heap.size < g := by have := (Array.getElem?_eq_some_iff.1 HBx.out).1; omega
      have hB4 := HB2.out.trans (hB3.mono HB2.out.size)
      have hbx3 := (hB3.block w.heap.size (Array.getElem?_eq_some_iff.1 HBx.out).1).trans HBx.out
      have p1 := upto_any g ⟨bs, 0⟩ 1 20 w2 hi (by omega) (by omega)
      obtain ⟨s1, hs1⟩ : ∃ s1, s1 = (count bs).1 := ⟨_, rfl⟩
      obtain ⟨n, hn⟩ : ∃ n : Nat, (n : Int) = (count bs).2 := ⟨(count bs).2.toNat, by have := (count_bounds bs).1; omega⟩
      have hn20 : n ≤ 20 := by have := (count_bounds bs).2; omega
      have hrd : readP bs = parse s1 n := by unfold readP; rw [← hs1, ← hn]; rfl
      have hcu : (⟨bs, 0⟩ : IS).upto 1 20 = (s1, (n : Int)) := by
        show count bs = _
        rw [hs1, hn]
      rw [hcu] at p1
      have P1 := Lib.hid p1
      have HBx3 := Lib.hid hbx3
      have HB4 := Lib.hid hB4
      have HRd := Lib.hid hrd
      have HI := Lib.hid hi
      clear p1 hi hB3 hbx3 hB4 hs1 hn hrd hcu P0'
      go_wp2_with fail
      refine (P1.out).mono ?_
      rintro e w3 ⟨rfl, hi3, ht3⟩
      have hG : GetR g (.slice none 0 0) [] s1 w w3 := by
        refine ⟨hi3, World.ownsRow_nil _ _ _ _, fun r hr => (by cases hr), HB4.out.trans (ht3.below HB4.out.size (fun k e => by rw [e]; omega)), by omega⟩
      have hbx4 : w3.heap[w.heap.size]? = some (.cells #[.int .i64 I, .int .i64 B] 25 (0, 0)) := (ht3.block w.heap.size (Array.getElem?_eq_some_iff.1 HBx3.out).1 (by omega)).trans HBx3.out
      have HG := Lib.hid hG
      have HBx4 := Lib.hid hbx4
      clear hi3 ht3 hG hbx4 P1 HBx3 HBx HB4 HB2 HI
      go_wp2_with fail
      go_loopw [7, 21] (fun ov iv wr => ∃ (k : Nat) (A2 : Option Addr) (c2 : Nat) (rs : List Pr), k ≤ n ∧ iv = .int .u64 k ∧ ov = .slice A2 k c2 ∧ Hid (rs.length = k ∧ rs.map (·.1) = (parse s1 k).2) ∧ Hid (GetR g (.slice A2 k c2) rs (parse s1 k).1 w wr) ∧ Hid (wr.heap[w.heap.size]? = some (.cells #[.int .i64 I, .int .i64 B] 25 (0, 0)))) (fun _ iv _ => n - (intOf iv).toNat)
      case atStart => exact ⟨0, none, 0, [], Nat.zero_le _, rfl, rfl, ⟨rfl, rfl⟩, HG.out, HBx4.out⟩
      case round =>
        clear HG HBx4
        obtain ⟨k, A2, c2, rs, hk, rfl, rfl, HL, HG, HBx⟩ := hrel
        by_cases hlt : k < n
        · have hkI : decide ((k : Int) < (n : Int)) = true := by simp; omega
          have hpar : parse s1 (k + 1) = ((one (parse s1 k).1).1, (parse s1 k).2 ++ [(one (parse s1 k).1).2]) := rfl
          have hin := one_in (parse s1 k).1
          obtain ⟨sk, hsk⟩ : ∃ sk, sk = (parse s1 k).1 := ⟨_, rfl⟩
          have p1 := get_any g sk 4 wr (by rw [hsk]; exact HG.out.inf) (by omega) (by omega)
          obtain ⟨sa, hsa⟩ : ∃ sa, sa = (sk.upto 4 18446744073709551615).1 := ⟨_, rfl⟩
          obtain ⟨key, hkey⟩ : ∃ key, key = (sk.upto 4 18446744073709551615).2 := ⟨_, rfl⟩
          have e1 : sk.upto 4 18446744073709551615 = (sa, key) := by rw [hsa, hkey]
          obtain ⟨sb, hsb⟩ : ∃ sb, sb = (sa.upto 8 18446744073709551615).1 := ⟨_, rfl⟩
          obtain ⟨ver, hver⟩ : ∃ ver, ver = (sa.upto 8 18446744073709551615).2 := ⟨_, rfl⟩
          have e2 : sa.upto 8 18446744073709551615 = (sb, ver) := by rw [hsb, hver]
          obtain ⟨sc, hsc⟩ : ∃ sc, sc = (sb.text 64).1 := ⟨_, rfl⟩
          obtain ⟨dat, hdat⟩ : ∃ dat, dat = (sb.text 64).2 := ⟨_, rfl⟩
          have e3 : sb.text 64 = (sc, dat) := by rw [hsc, hdat]
          have hone : one (parse s1 k).1 = (sc, ⟨key, ver, dat⟩) := by
            rw [← hsk]; unfold one; rw [e1]; show ((IS.text (sa.upto 8 18446744073709551615).1 64).1, Pv.mk key (sa.upto 8 18446744073709551615).2 (IS.text (sa.upto 8 18446744073709551615).1 64).2) = _
            rw [e2]; show ((sb.text 64).1, Pv.mk key ver (sb.text 64).2) = _; rw [e3]
          rw [hone] at hpar hin
          have hk1 : 0 ≤ key := hin.key0
          have hk2 : key ≤ 4294967295 := by have := hin.key1; show key ≤ _; have h : key < 4294967296 := this; omega
          have hk3 : IntKind.u32.wrap key = key := IntWalk.u32_in _ ⟨hk1, hk2⟩
          rw [e1] at p1
          have p2 := fun W (h : InF g sa W) => get_any g sa 8 W h (by omega) (by omega)
          rw [e2] at p2
          have p3 := fun W (h : InF g sb W) => intext_any g sb 64 W h
          rw [e3] at p3
          have P1 := Lib.hid p1
          have P2 := Lib.hid p2
          have P3 := Lib.hid p3
          have HPar := Lib.hid hpar
          have HK3 := hk3
          clear p1 p2 p3 hpar hin hsk hsa hkey e1 hsb hver e2 hsc hdat e3 hone hk3
          go_wp2_with fail
          refine (P1.out).mono ?_
          rintro e w4 ⟨rfl, hi4, ht4⟩
          have HG4 := Lib.hid (HG.out.step hi4 ht4)
          have hbx4 := (ht4.block w.heap.size (Array.getElem?_eq_some_iff.1 HBx.out).1 (by omega)).trans HBx.out
          have HBx4 := Lib.hid hbx4
          clear hi4 ht4 hbx4
          go_wp2_with fail
          refine (P2.out _ HG4.out.inf).mono ?_
          rintro e w5 ⟨rfl, hi5, ht5⟩
          have HG5 := Lib.hid (HG4.out.step hi5 ht5)
          have hbx5 := (ht5.block w.heap.size (Array.getElem?_eq_some_iff.1 HBx4.out).1 (by omega)).trans HBx4.out
          have HBx5 := Lib.hid hbx5
          clear hi5 ht5 hbx5
          go_wp2_with fail
          refine (P3.out _ HG5.out.inf).mono ?_
          rintro e w6 ⟨A6, c6, rfl, ho6, hi6, ht6⟩
          have HG6 := Lib.hid (HG5.out.step hi6 ht6)
          have hbx6 := (ht6.block w.heap.size (Array.getElem?_eq_some_iff.1 HBx5.out).1 (by omega)).trans HBx5.out
          obtain ⟨r, hr⟩ : ∃ r : Pr, r = (⟨key, ver, dat⟩, A6, c6) := ⟨_, rfl⟩
          have ho7 : w6.ownsRow (g + 1) 5 1 (.slice r.2.1 r.1.b.length r.2.2) r.1.b.length (r.1.b.map by8) := by rw [hr]; exact own_mono ho6 HG5.out.lt
          have hcells : pcells r = [.int .u32 key, .int .u64 ver, .slice A6 dat.length c6] := by rw [hr]; rfl
          have hX : Below w6.heap.size w6 (w6.alloc (.cells #[.int .u32 key, .int .u64 ver, .slice A6 dat.length c6] 80)) := (Below.refl _ _).alloc (Nat.le_refl _) _
          have HGX := Lib.hid (HG6.out.below hX)
          have hbx7 := (hX.block w.heap.size (Array.getElem?_eq_some_iff.1 hbx6).1).trans hbx6
          have HOX := Lib.hid (own_touch (K := fun _ => False) ho7 (Tch.of_below hX) (fun _ _ e => e))
          have HBx7 := Lib.hid hbx7
          have HCs := Lib.hid hcells
          have hlt7 : g + 1 ≤ (w6.alloc (.cells #[.int .u32 key, .int .u64 ver, .slice A6 dat.length c6] 80)).heap.size := HGX.out.lt
          have hrl : rs.length = k := HL.out.1
          have HRL := Lib.hid hrl
          have HRr := Lib.hid hr
          clear hi6 ht6 hbx6 ho6 ho7 hcells hX hbx7 hr hrl
          go_wp2_with (at_builtin; refine wpList_app elem_patch rfl _ _ rfl (g + 1) (.slice A2 k c2) k (prows rs) rfl (by rw [← HRL.out]; rw [HRL.out]; have := HGX.out.own; rw [HRL.out] at this; exact this) (some ⟨_, 0, none⟩) 1 1 [.int .u32 key, .int .u64 ver, .slice A6 dat.length c6] rfl (sees_new _ _ _) rfl (by rw [← HCs.out]; exact one_pcells r) (by omega) hlt7 ?_)
          intro v2 w7 hown hgr _
          obtain ⟨A8, c8, rfl, _, _⟩ := own_full hown
          have hG8 : GetR g (.slice A8 (k + 1) c8) (rs ++ [r]) sc w w7 := HGX.out.push HOX.out (by rw [HCs.out, HRL.out]; exact hown) hgr
          have hbx8 : w7.heap[w.heap.size]? = some (.cells #[.int .i64 I, .int .i64 B] 25 (0, 0)) := by
            refine (hgr.block w.heap.size (Array.getElem?_eq_some_iff.1 HBx7.out).1 (fun e => ?_)).trans HBx7.out
            have := (HGX.out.own.lt _ e.symm).1
            omega
          have hL8 : (rs ++ [r]).length = k + 1 ∧ (rs ++ [r]).map (·.1) = (parse s1 (k + 1)).2 := by
            refine ⟨by rw [List.length_append, HRL.out]; rfl, ?_⟩
            rw [HPar.out, List.map_append, HL.out.2]
            rw [HRr.out]; rfl
          have HG8 := Lib.hid hG8
          have HBx8 := Lib.hid hbx8
          have HL8 := Lib.hid hL8
          clear hown hgr hG8 hbx8 hL8
          go_wp2_with fail
          go_roundw
          case rel => exact ⟨k + 1, A8, c8, rs ++ [r], by omega, by go_num, rfl, HL8.out, by show GetR _ _ _ _ _ _; rw [HPar.out]; exact HG8.out, HBx8.out⟩
          case measure => simp [intOf]; omega
        · obtain rfl : k = n := by omega
          have hkI : decide ((k : Int) < (k : Int)) = false := by simp
          have hL := HL.out
          rw [← HRd.out] at hL
          have HL := Lib.hid hL
          have hG := HG.out
          rw [← HRd.out] at hG
          obtain ⟨sz, hsz⟩ : ∃ sz, sz = (readP bs).1 := ⟨_, rfl⟩
          have hdn := indone_any g sz wr (by rw [hsz]; exact hG.inf)
          have PD := Lib.hid hdn
          have HG := Lib.hid hG
          have bel := hG.bel
          have pats := hG.pats (rs := rs) (A := A2) (c := c2)
          have HSz := Lib.hid hsz
          have hV := HV.out
          have hbx := HBx.out
          have c0 : wr.cell? ⟨w.heap.size, 0, none⟩ = some (.int .i64 I) := cell_of_row wr _ 0 _ _ _ hbx
          have c1 : wr.cell? ⟨w.heap.size, 1, none⟩ = some (.int .i64 B) := cell_of_row wr _ 1 _ _ _ hbx
          have hpk : ∀ r ∈ rs, PvK r.1 := fun r hr => (parse_in s1 k r.1 (by rw [← HRd.out, ← HL.out.2]; exact List.mem_map_of_mem hr)).k
          have pc := vcheck_any I B A2 rs c2 wr pats.row hpk
          rw [HL.out.1, HL.out.2] at pc
          obtain ⟨z, hz⟩ : ∃ z, z = checkV I B (readP bs).2 := ⟨_, rfl⟩
          rw [← hz] at pc
          have PC := Lib.hid pc
          have HZ := Lib.hid hz
          have Bel := Lib.hid bel
          have HPats := Lib.hid pats
          clear hdn hL hsz hbx hpk pc hz bel pats
          by_cases hd : sz.done = 0
          · have d1 : (sz.done != 0) = false := by simpa using hd
            have hd' : (readP bs).1.done = 0 := by rw [← HSz.out]; exact hd
            by_cases hk0 : k = 0
            · have hV2 : V = ([], 4) := by rw [hV]; exact getV_form H0.out HR.out hd' (.inl (by rw [← HL.out.2, List.map_eq_nil_iff]; exact List.eq_nil_of_length_eq_zero (by rw [HL.out.1, hk0])))
              have HV2 := Lib.hid hV2
              have t1 : ((k : Int) == 0) = true := by simp [hk0]
              clear hV hV2 hd hd' hk0 hG
              go_wp2_with fail
              refine (PD.out).mono ?_
              rintro e w9 ⟨rfl, rfl⟩
              go_wp2
              go_ret2
              rw [HV2.out]
              exact GotP.no Bel.out
            · have t1 : ((k : Int) == 0) = false := by simpa using hk0
              have hne : (readP bs).2 ≠ [] := by
                intro e
                have h1 := HL.out.1
                have h2 := HL.out.2
                rw [e, List.map_eq_nil_iff] at h2
                rw [h2] at h1
                exact hk0 h1.symm
              by_cases hz0 : z = 0
              · have hV2 : V = ((readP bs).2, 0) := by rw [hV]; exact getV_ok H0.out HR.out hd' hne (by rw [← HZ.out]; exact hz0)
                have HV2 := Lib.hid hV2
                have t2 : (z != 0) = false := by simpa using hz0
                clear hV hV2 hd hd' hk0 hG hne hz0
                go_wp2_with fail
                refine (PD.out).mono ?_
                rintro e w9 ⟨rfl, rfl⟩
                go_wp2_with fail
                refine (PC.out).mono ?_
                rintro e w10 ⟨rfl, hB10⟩
                go_wp2
                go_ret2
                rw [HV2.out]
                exact GotP.yes HL.out.1 HL.out.2 (HPats.out.below hB10) (Bel.out.trans (hB10.mono Bel.out.size))
              · have hV2 : V = ([], 4) := by rw [hV]; exact getV_form H0.out HR.out hd' (.inr (by rw [← HZ.out]; exact hz0))
                have HV2 := Lib.hid hV2
                have t2 : (z != 0) = true := by simpa using hz0
                clear hV hV2 hd hd' hk0 hG hne hz0
                go_wp2_with fail
                refine (PD.out).mono ?_
                rintro e w9 ⟨rfl, rfl⟩
                go_wp2_with fail
                refine (PC.out).mono ?_
                rintro e w10 ⟨rfl, hB10⟩
                go_wp2
                go_ret2
                rw [HV2.out]
                exact GotP.no (Bel.out.trans (hB10.mono Bel.out.size))
          · have d1 : (sz.done != 0) = true := by simpa using hd
            have hV2 : V = ([], sz.done) := by rw [hV, HSz.out]; exact getV_done H0.out HR.out (by rw [← HSz.out]; exact hd)
            have HV2 := Lib.hid hV2
            clear hV hV2 hd hG
            go_wp2_with fail
            refine (PD.out).mono ?_
            rintro e w9 ⟨rfl, rfl⟩
            go_wp2
            go_ret2
            rw [HV2.out]
            exact GotP.no Bel.out
    · have HR := Lib.hid hr
      rw [getV_arg h0 hr] at hV
      subst hV
      clear hr hb h0 hn0
      go_enter Try.func17, Try.ntmps17
      go_wp2_with (go_at_call 9; refine (vright_not _ HR.out).mono ?_; rintro e w1 ⟨rfl, hB1⟩; obtain ⟨c0, c1, hB2⟩ := boxed2 hB1)
      go_ret2
      exact GotP.no hB2
end Go.Proofs.Ytjdpljhhlmcbaaa
