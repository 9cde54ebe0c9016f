/- The walk of the law TreeStays: a call that fails, or turns nothing, changes nothing; never more is used than there is; a copy stays as it was. Condition: the library's variable MaxLen holds an int. -/
import Derived.Test.YtabecceojbeomaaGreatDoorTrFar
import Derived.Test.YtabecceojbeomaaGreatDoorTrOpen
namespace Go.Proofs.YtabecceojbeomaaGreatDoor
open Go.RowKit Go.Cat Go.Cat.Dir Go.Cat.Tree Go.Maps

/-- What the loop keeps. -/
structure StR (w : World) (x y : Int) (a M : Nat) (es : List (Txt × El)) (wr : World) : Prop where
  bel : Below w.heap.size w wr
  box : wr.heap[w.heap.size]? = some (.cells #[.int .i64 x, .int .i64 y] 49 (0, 0))
  tr : TrAt wr a x y M es
  inv : InvA x y (ths es)
  lo : w.heap.size < a
  hi : x ≤ 64
section
variable {w W W' : World} {x y : Int} {a M a2 M2 N : Nat} {es es2 : List (Txt × El)} {r : TL × AnsV} {B C : Option Addr} {cB cC : Nat}
theorem StR.len (h : StR w x y a M es W) : es.length ≤ 64 := by
  have := h.inv.len
  rw [ths_length] at this
  have := h.hi
  omega
theorem StR.key (h : StR w x y a M es W) : KeyB es := keyB_inv h.inv.inv (by have := h.len; omega)
theorem StR.below (h : StR w x y a M es W) (hb : Below W.heap.size W W') : StR w x y a M es W' :=
  ⟨h.bel.trans (hb.mono h.bel.size), (hb.block _ (lt_of_block h.box)).trans h.box, h.tr.below hb, h.inv, h.lo, h.hi⟩
/-- Behind a call: the tree, the copy, the answer. -/
structure StD (w : World) (x y : Int) (a M : Nat) (es : List (Txt × El)) (a2 M2 : Nat) (es2 : List (Txt × El)) (r : TL × AnsV) (B C : Option Addr) (cB cC N : Nat) (W : World) : Prop where
  s : StR w x y a M es W
  e1 : ths es = r.1
  t2 : TrAt W a2 x y M2 es2
  na : a < a2
  nM : a < M2
  b : Bytes W B r.2.data
  c : Texts W C r.2.names
  bx : W.heap[N]? = some (.cells #[.int .i64 r.2.code, .slice B r.2.data.length cB, .slice C r.2.names.length cC, .int .i64 r.2.size, .bool r.2.dir] 36 (0, 0))
theorem StD.below (h : StD w x y a M es a2 M2 es2 r B C cB cC N W) (hb : Below W.heap.size W W') : StD w x y a M es a2 M2 es2 r B C cB cC N W' :=
  ⟨h.s.below hb, h.e1, h.t2.below hb, h.na, h.nM, h.b.below hb, Sees.below h.c hb, (hb.block _ (lt_of_block h.bx)).trans h.bx⟩
theorem StD.facts (h : StD w x y a M es a2 M2 es2 r B C cB cC N W) : (W.cell? ⟨N, 0, none⟩ = some (.int .i64 r.2.code) ∧ W.cell? ⟨N, 1, none⟩ = some (.slice B r.2.data.length cB) ∧ W.cell? ⟨N, 2, none⟩ = some (.slice C r.2.names.length cC) ∧ W.cell? ⟨N, 3, none⟩ = some (.int .i64 r.2.size) ∧ W.cell? ⟨N, 4, none⟩ = some (.bool r.2.dir)) ∧
    (W.cell? ⟨w.heap.size, 0, none⟩ = some (.int .i64 x) ∧ W.cell? ⟨w.heap.size, 1, none⟩ = some (.int .i64 y)) :=
  ⟨⟨cell_of_row _ _ 0 _ _ _ h.bx, cell_of_row _ _ 1 _ _ _ h.bx, cell_of_row _ _ 2 _ _ _ h.bx, cell_of_row _ _ 3 _ _ _ h.bx, cell_of_row _ _ 4 _ _ _ h.bx⟩, cell_of_row _ _ 0 _ _ _ h.s.box, cell_of_row _ _ 1 _ _ _ h.s.box⟩
/-- What the test of the sizes reads. -/
def StP (w : World) (x y : Int) (a M : Nat) (es : List (Txt × El)) (a2 M2 : Nat) (es2 : List (Txt × El)) (r : TL × AnsV) (B C : Option Addr) (cB cC N : Nat) (W : World) : Prop :=
  W.cell? ⟨w.heap.size, 0, none⟩ = some (.int .i64 x) ∧ W.cell? ⟨w.heap.size, 1, none⟩ = some (.int .i64 y) ∧ StD w x y a M es a2 M2 es2 r B C cB cC N W
theorem StD.p (h : StD w x y a M es a2 M2 es2 r B C cB cC N W) : StP w x y a M es a2 M2 es2 r B C cB cC N W := ⟨h.facts.2.1, h.facts.2.2, h⟩
theorem StP.next (h : StP w x y a M es a2 M2 es2 r B C cB cC N W) (hb : Below W.heap.size W W') : StP w x y a M es a2 M2 es2 r B C cB cC N W' := (h.2.2.below hb).p
/-- Behind the call, at the tree. -/
theorem StR.done (h : StR w x y a M es W) {c : CallV} {M3 : Nat} {es3 : List (Txt × El)} (hT : TrAt W' a x y M3 es3) (he : ths es3 = (doV x y (ths es) c).1) (ht : Tch (fun k => k = a) W W') : StR w x y a M3 es3 W' :=
  ⟨h.bel.trans (ht.below h.bel.size fun k e => by have := h.lo; omega), heap_touch h.box ht (fun e => by have := h.lo; omega), hT, by rw [he]; exact do_inv h.inv c, h.lo, h.hi⟩
theorem TrAt.other {I J I' J' : Int} {a' M' : Nat} {es' : List (Txt × El)} (h : TrAt W a I J M es) (h' : TrAt W a' I' J' M' es') (h1 : a ≠ a') (h2 : M ≠ a') (ht : Tch (fun k => k = a') W W') : TrAt W' a I J M es :=
  h.touch ht (fun e => h1 e) (fun e => h2 e) (fun e => h'.ne e.symm) (fun k hk o u => by subst hk; exact no_byte_trB h'.blk o u)
/-- Another tree, made later, is turned. -/
theorem StD.other {W0 : World} {a4 M4 : Nat} {es4 : List (Txt × El)} {I' J' : Int} (h0 : StD w x y a M es a2 M2 es2 r B C cB cC N W0) (h : StD w x y a M es a2 M2 es2 r B C cB cC N W) (h4 : TrAt W a4 I' J' M4 es4) (hlo : W0.heap.size ≤ a4) (ht : Tch (fun k => k = a4) W W') :
    StD w x y a M es a2 M2 es2 r B C cB cC N W' := by
  have l1 := h0.s.tr.lo
  have l2 := h0.t2.lo
  have l3 := lt_of_block h0.bx
  have l4 := h0.s.lo
  have hnb : ∀ k, k = a4 → ∀ o (u : UInt8), W.cell? ⟨k, o, none⟩ ≠ some (by8 u) := fun k hk o u => by subst hk; exact no_byte_trB h4.blk o u
  refine ⟨⟨h.s.bel.trans (ht.below h.s.bel.size fun k e => by omega), heap_touch h.s.box ht (fun e => by omega), h.s.tr.other h4 (by omega) (by omega) ht, h.s.inv, h.s.lo, h.s.hi⟩, h.e1, h.t2.other h4 (by omega) (by omega) ht, h.na, h.nM, bytes_skip h.b ht hnb, sees_skip h.c ht (fun k hk o u hu => ?_), heap_touch h.bx ht (fun e => by omega)⟩
  subst hk
  obtain ⟨s, _, rfl⟩ := List.mem_map.1 hu
  exact no_text_trB h4.blk o s
/-- A call's cells in a slice. -/
theorem row_facts {w W : World} {l : List Cl} {G b off k : Nat} (hG : b < G) (bel : Below G w W) (hc : ∀ i (hi : i < l.length) j, j < 6 → w.cell? ⟨b, off + (i * 6 + j), none⟩ = (clC l[i])[j]?) (hk : k < l.length) {z : Cl} (hz : z = l[k]) :
    W.cell? ⟨b, off + k * 6, none⟩ = some (.int .i64 z.1.kind) ∧ W.cell? ⟨b, off + k * 6 + 1, none⟩ = some (.string (bs z.1.path)) ∧ W.cell? ⟨b, off + k * 6 + 2, none⟩ = some (.string (bs z.1.to)) ∧ W.cell? ⟨b, off + k * 6 + 3, none⟩ = some (.int .i64 z.1.off) ∧ W.cell? ⟨b, off + k * 6 + 4, none⟩ = some (.int .i64 z.1.n) ∧ W.cell? ⟨b, off + k * 6 + 5, none⟩ = some (.slice z.2.1 z.1.data.length z.2.2) := by
  have e := fun j (hj : j < 6) => (bel.cell (p := ⟨b, off + (k * 6 + j), none⟩) hG).trans (hc k hk j hj)
  rw [← hz] at e
  simp only [← Nat.add_assoc] at e
  exact ⟨e 0 (by omega), e 1 (by omega), e 2 (by omega), e 3 (by omega), e 4 (by omega), e 5 (by omega)⟩
end

set_option maxRecDepth 100000 in
set_option maxHeartbeats 16000000 in
theorem treestays_any (x y : Int) (Ao : Option Addr) (co : Nat) (l : List Cl) (w : World) (hsee : Sees w Ao (l.flatMap clC)) (hl : ∀ z ∈ l, clOk w z) (hm : l.length ≤ maxLen) (hg : MaxG w) :
    Calls Tryz.prog 6 #[.agg #[.int .i64 x, .int .i64 y], .slice Ao l.length co] w fun e w' => e = .returned (.bool true) ∧ Below w.heap.size w w' := by
  unfold maxLen at hm
  obtain ⟨n, hn⟩ : ∃ n, n = l.length := ⟨_, rfl⟩
  rw [← hn] at hm ⊢
  have HN := Lib.hid hn
  have HSee := Lib.hid hsee
  have HIn := Lib.hid hl
  have hB0 : Below w.heap.size w (w.alloc (.cells #[.int .i64 x, .int .i64 y] 49)) := (Below.refl _ _).alloc (Nat.le_refl _) _
  have HX0 := Lib.hid (heap_alloc_new w (.cells #[.int .i64 x, .int .i64 y] 49))
  have hg0 : MaxG (w.alloc (.cells #[.int .i64 x, .int .i64 y] 49)) := hg.touch (K := fun _ => False) (Tch.of_below hB0) (fun e => e)
  have PA := Lib.hid (fun W (hW : MaxG W) => awake_any W hW)
  have HB0 := Lib.hid hB0
  by_cases hr : rightP x y
  case neg =>
    have P1 := Lib.hid (new_not x y (w.alloc (.cells #[.int .i64 x, .int .i64 y] 49)) hr)
    have HG := Lib.hid hg
    clear hn hsee hl hB0 hg0 hg hr
    go_enter Tryz.func6, Tryz.ntmps6
    go_wp2_with fail
    refine (P1.out).mono ?_
    rintro e w1 ⟨rfl, hB1⟩
    have HB1 := Lib.hid (HB0.out.trans (hB1.mono HB0.out.size))
    have P2 := Lib.hid (PA.out w1 (HG.out.touch (K := fun _ => False) (Tch.of_below HB1.out) (fun e => e)))
    clear hB1
    go_wp2_with fail
    refine (P2.out).mono ?_
    rintro e w2 ⟨rfl, hB2⟩
    have HB2 := Lib.hid (HB1.out.trans (hB2.mono HB1.out.size))
    clear hB2
    go_wp2_with fail
    go_ret
    exact ⟨rfl, HB2.out⟩
  case pos =>
    have P1 := Lib.hid (new_ok x y (w.alloc (.cells #[.int .i64 x, .int .i64 y] 49)) hr hg0)
    have hx1 : x ≤ 64 := hr.2.1
    have hi0 : InvA x y newV := inv0 hr.1 hr.2.2.1
    have HI0 := Lib.hid hi0
    have HX1 := Lib.hid hx1
    clear hn hsee hl hB0 hg0 hg hr hi0 hx1
    go_enter Tryz.func6, Tryz.ntmps6
    go_wp2_with fail
    refine (P1.out).mono ?_
    rintro e w1 ⟨a, M0, es0, rfl, hT1, he1, ha1, hB1⟩
    have hS : StR w x y a M0 es0 w1 := ⟨HB0.out.trans (hB1.mono HB0.out.size), heap_below HX0.out hB1, hT1, by rw [he1]; exact HI0.out, by have := lt_of_block HX0.out; omega, HX1.out⟩
    have HS := Lib.hid hS
    clear hT1 he1 ha1 hB1 hS P1 HB0 HX0 HI0 HX1
    go_wp2_with fail
    go_loopw [7] (fun iv wr => ∃ (k M : Nat) (es : List (Txt × El)), k ≤ n ∧ k ≤ 30 ∧ iv = .int .i64 k ∧ Hid (StR w x y a M es wr)) (fun iv _ => n - (intOf iv).toNat)
    case atStart => exact ⟨0, _, _, Nat.zero_le _, Nat.zero_le _, rfl, HS⟩
    case round =>
      obtain ⟨k, M, es, hk, hk30, rfl, HT⟩ := hrel
      by_cases hlt : k < n
      · by_cases hlt2 : k < 30
        · have hko : k < l.length := by rw [← HN.out]; exact hlt
          obtain ⟨b, off, hAo, hbs, hc⟩ := HSee.out.elem (f := clC) (k := 6) (fun _ => rfl) (by omega) (by omega)
          obtain ⟨z, hz⟩ : ∃ z, z = l[k] := ⟨_, rfl⟩
          have hin : clOk w z := HIn.out z (by rw [hz]; exact List.getElem_mem _)
          have hrow := fun W (bel : Below w.heap.size w W) => row_facts hbs bel hc hko hz
          obtain ⟨⟨e0, e1, e2, e3, e4, e5⟩⟩ := And.intro (hrow wr HT.out.bel) True.intro
          have HRow := Lib.hid hrow
          have HZ := Lib.hid (fun W (bel : Below w.heap.size w W) => Sees.below (A := z.2.1) hin bel)
          have hkI : (k : Int) < (n : Int) := by omega
          have hk6 : decide ((k : Int) < 30) = true := by simp; omega
          have hk0 : (0 : Int) ≤ (k : Int) := by omega
          rw [hAo]
          clear hz hc hin hAo hrow
          have P2 := Lib.hid (far_any z.1 z.2.1 z.2.2 wr)
          obtain ⟨far, hfar⟩ : ∃ far, far = farV z.1 := ⟨_, rfl⟩
          rw [← hfar] at P2
          have HFar := Lib.hid hfar
          clear hfar hbs
          cases far with
          | true =>
            clear HFar
            go_wp2_with fail
            refine (P2.out).mono ?_
            rintro e w2 ⟨rfl, hB2⟩
            have hT2 := HT.out.below hB2
            have P3 := Lib.hid (PA.out w2 hT2.tr.gl)
            have HB := Lib.hid hT2.bel
            clear hB2 hT2
            go_wp2_with fail
            refine (P3.out).mono ?_
            rintro e w3 ⟨rfl, hB3⟩
            have HF := Lib.hid (HB.out.trans (hB3.mono HB.out.size))
            clear hB3
            go_wp2_with fail
            go_ret
            exact ⟨rfl, HF.out⟩
          | false =>
            have hfl : z.1.path.length ≤ 120 ∧ z.1.to.length ≤ 120 := by
              have := HFar.out
              unfold farV at this
              have := of_decide_eq_false this.symm
              omega
            have HFl := Lib.hid hfl
            clear hfl HFar
            go_wp2_with fail
            refine (P2.out).mono ?_
            rintro e w2 ⟨rfl, hB2⟩
            have hT2 := HT.out.below hB2
            have P3 := Lib.hid (copy_any a x y M es w2 hT2.tr hT2.key)
            have HT2 := Lib.hid hT2
            clear hB2 hT2 P2 e0 e1 e2 e3 e4 e5
            go_wp2_with fail
            refine (P3.out).mono ?_
            rintro e w3 ⟨a2, M2, es2, rfl, hC, he2, ha2, hM2, hB3⟩
            have hT3 := HT2.out.below hB3
            have hlo := HT2.out.tr.lt
            have hna : a < a2 := by omega
            have hnM : a < M2 := by omega
            have p4 := do_any a x y M es z.1 z.2.1 z.2.2 w3 hT3.tr (HZ.out w3 hT3.bel) hT3.inv.inv (by have := hT3.len; omega) (by have := HFl.out; omega) (by have := HFl.out; omega)
            obtain ⟨r, hr⟩ : ∃ r, r = doV x y (ths es) z.1 := ⟨_, rfl⟩
            rw [← hr] at p4
            have P4 := Lib.hid p4
            have HR := Lib.hid hr
            have HT3 := Lib.hid hT3
            have HC := Lib.hid hC
            have HE2 := Lib.hid he2
            have HNa := Lib.hid hna
            have HNM := Lib.hid hnM
            obtain ⟨e0, e1, e2, e3, e4, e5⟩ := HRow.out w3 hT3.bel
            clear hC he2 ha2 hM2 hB3 hT3 hlo hna hnM p4 hr P3 HT2 HT
            go_wp2_with fail
            refine (P4.out).mono ?_
            rintro e w4 ⟨M3, es3, B, cB, C, cC, rfl, hb4, hc4, hT4, he4, ht4⟩
            have hS4 := HT3.out.done (c := z.1) hT4 (by rw [he4, HR.out]) ht4
            have hC4 := HC.out.other HT3.out.tr (Nat.ne_of_gt HNa.out) (Nat.ne_of_gt HNM.out) ht4
            have hb5 : Below w4.heap.size w4 (w4.alloc (.cells #[.int .i64 r.2.code, .slice B r.2.data.length cB, .slice C r.2.names.length cC, .int .i64 r.2.size, .bool r.2.dir] 36)) := (Below.refl _ _).alloc (Nat.le_refl _) _
            have hD : StD w x y a M3 es3 a2 M2 es2 r B C cB cC w4.heap.size (w4.alloc (.cells #[.int .i64 r.2.code, .slice B r.2.data.length cB, .slice C r.2.names.length cC, .int .i64 r.2.size, .bool r.2.dir] 36)) :=
              ⟨hS4.below hb5, he4, hC4.below hb5, HNa.out, HNM.out, hb4.below hb5, Sees.below hc4 hb5, heap_alloc_new _ _⟩
            clear hb4 hc4 hT4 he4 ht4 hS4 hC4 hb5 e0 e1 e2 e3 e4 e5 P4 HC HNa HNM
            go_upto_region 11 with (fail)
            generalize w4.alloc (.cells #[.int .i64 r.2.code, .slice B r.2.data.length cB, .slice C r.2.names.length cC, .int .i64 r.2.size, .bool r.2.dir] 36) = W5 at hD ⊢
            generalize w4.heap.size = N at hD ⊢
            obtain ⟨e0, e1, e2, e3, e4, e5⟩ := HRow.out W5 hD.s.bel
            obtain ⟨⟨x0, x1, x2, x3, x4⟩, s0, s1⟩ := hD.facts
            have hst : r.2.code ≠ 0 ∨ turnsV z.1.kind = false → ths es = ths es3 := fun h => by rw [HR.out] at h; rw [hD.e1, HR.out]; exact (do_stays h).symm
            have PE := Lib.hid (fun (h : r.2.code ≠ 0 ∨ turnsV z.1.kind = false) => equal_eq a x y M3 es3 a2 x y M2 es2 W5 hD.s.tr hD.t2 (by rw [HE2.out]; exact (hst h).symm) hD.s.key)
            have PT := Lib.hid (fun U => turns_any z.1.kind U)
            obtain ⟨tv, htv⟩ : ∃ tv, tv = turnsV z.1.kind := ⟨_, rfl⟩
            rw [← htv] at PE PT
            have HD := Lib.hid hD
            clear hD hst htv
            have hq : (r.2.code ≠ 0) ∨ (r.2.code = 0 ∧ tv = false) ∨ (r.2.code = 0 ∧ tv = true) := by cases tv <;> simp <;> omega
            rcases hq with hq | ⟨hq, rfl⟩ | ⟨hq, rfl⟩
            case' inl =>
              have d1 : (r.2.code != 0) = true := by simpa using hq
              have PE2 := Lib.hid (PE.out (.inl hq))
              clear hq PE PT
              go_wp2_with fail
              refine (PE2.out).mono ?_
              rintro e w6 ⟨rfl, hB6⟩
              have HD6 := Lib.hid (HD.out.below hB6)
              clear hB6 x0 x1 x2 x3 x4 s0 s1 e0 e1 e2 e3 e4 e5
              go_upto_region 13 with (fail)
            case' inr.inl =>
              have d1 : (r.2.code != 0) = false := by simpa using hq
              have PE2 := Lib.hid (PE.out (.inr rfl))
              clear hq PE
              go_wp2_with fail
              refine (PT.out _).mono ?_
              rintro e w6 ⟨rfl, rfl⟩
              go_wp2_with fail
              refine (PE2.out).mono ?_
              rintro e w6 ⟨rfl, hB6⟩
              have HD6 := Lib.hid (HD.out.below hB6)
              clear hB6 x0 x1 x2 x3 x4 s0 s1 e0 e1 e2 e3 e4 e5
              go_upto_region 13 with (fail)
            case' inr.inr =>
              have d1 : (r.2.code != 0) = false := by simpa using hq
              clear hq PE
              go_wp2_with fail
              refine (PT.out _).mono ?_
              rintro e w6 ⟨rfl, rfl⟩
              have HD6 := Lib.hid (HD.out)
              clear x0 x1 x2 x3 x4 s0 s1 e0 e1 e2 e3 e4 e5
              go_upto_region 13 with (fail)
            all_goals
              have PI := Lib.hid (fun U (hU : StP w x y a M3 es3 a2 M2 es2 r B C cB cC N U) => inodes_any a x y M3 es3 U hU.2.2.s.tr)
              have pb := fun U (hU : StP w x y a M3 es3 a2 M2 es2 r B C cB cC N U) => blocks_any a x y M3 es3 U hU.2.2.s.tr hU.2.2.s.key
              unfold ToldN at pb
              have dI : decide (x < ((es3.length : Nat) : Int)) = false := by have := HD6.out.s.inv.len; rw [ths_length] at this; exact decide_eq_false (by omega)
              obtain ⟨bv, hbv⟩ : ∃ bv, bv = blocksV (ths es3) := ⟨_, rfl⟩
              have dB : decide (y < bv) = false := by have := HD6.out.s.inv.blk; rw [hbv]; exact decide_eq_false (by omega)
              rw [← hbv] at pb
              have PB := Lib.hid pb
              obtain ⟨s0, s1, _⟩ := HD6.out.p
              have HP6 := Lib.hid HD6.out.p
              clear pb hbv
              go_region_held3 (fun U => U.cell? ⟨w.heap.size, 0, none⟩ = some (.int .i64 x) ∧ U.cell? ⟨w.heap.size, 1, none⟩ = some (.int .i64 y) ∧ StD w x y a M3 es3 a2 M2 es2 r B C cB cC N U)
                (first | assumption | exact HP6.out | exact HP6.out.next ((Below.refl _ _).drew) | exact StP.next (by assumption) hBB | fail)
                (first
                  | (go_at_call 16; refine (PI.out _ (by assumption)).mono ?_; rintro e wI ⟨rfl, rfl⟩)
                  | (go_at_call 17; refine (PB.out _ (by assumption)).mono ?_; rintro e wB ⟨rfl, hBB⟩)
                  | fail)
              all_goals
                rename_i FS0
                have FS : StP w x y a M3 es3 a2 M2 es2 r B C cB cC N _ := FS0
                have P7 := Lib.hid (copy_any a2 x y M2 es2 _ FS.2.2.t2 (keyB_of HT3.out.key HE2.out.symm))
                have HFS := Lib.hid FS
                clear FS FS0 PI PB dI dB s0 s1 HP6 HD6
                try clear PT
                go_wp2_with fail
                refine (P7.out).mono ?_
                rintro e w7 ⟨a4, M4, es4, rfl, hT7, he7, ha7, hM7, hB7⟩
                have hD7 := HFS.out.2.2.below hB7
                have p8 := do_any a4 x y M4 es4 z.1 z.2.1 z.2.2 w7 hT7 (HZ.out w7 hD7.s.bel) (by rw [he7, HE2.out]; exact HT3.out.inv.inv) (by have := congrArg List.length (he7.trans HE2.out); rw [ths_length, ths_length] at this; have := HT3.out.len; omega) (by have := HFl.out; omega) (by have := HFl.out; omega)
                rw [he7, HE2.out, ← HR.out] at p8
                have P8 := Lib.hid p8
                have HD7 := Lib.hid hD7
                have HT7 := Lib.hid hT7
                have HLo := Lib.hid ha7
                obtain ⟨e0, e1, e2, e3, e4, e5⟩ := HRow.out w7 hD7.s.bel
                clear hT7 he7 ha7 hM7 hB7 hD7 p8 P7
                go_wp2_with fail
                refine (P8.out).mono ?_
                rintro e w8 ⟨M5, es5, B5, cB5, C5, cC5, rfl, hb8, hc8, hT8, he8, ht8⟩
                have hD8 := StD.other HFS.out.2.2 HD7.out HT7.out HLo.out ht8
                have hb9 : Below w8.heap.size w8 (w8.alloc (.cells #[.int .i64 r.2.code, .slice B5 r.2.data.length cB5, .slice C5 r.2.names.length cC5, .int .i64 r.2.size, .bool r.2.dir] 36)) := (Below.refl _ _).alloc (Nat.le_refl _) _
                have hx9 := heap_alloc_new w8 (.cells #[.int .i64 r.2.code, .slice B5 r.2.data.length cB5, .slice C5 r.2.names.length cC5, .int .i64 r.2.size, .bool r.2.dir] 36)
                have hD9 := hD8.below hb9
                have hT9 := hT8.below hb9
                have hby := hb8.below hb9
                have htx := Sees.below hc8 hb9
                clear hb8 hc8 hT8 ht8 hD8 hb9 P8 HT7 HLo HD7 HFS e0 e1 e2 e3 e4 e5
                go_upto_region 17 with (fail)
                generalize w8.alloc (.cells #[.int .i64 r.2.code, .slice B5 r.2.data.length cB5, .slice C5 r.2.names.length cC5, .int .i64 r.2.size, .bool r.2.dir] 36) = W9 at hx9 hD9 hT9 hby htx ⊢
                generalize w8.heap.size = N9 at hx9 ⊢
                obtain ⟨⟨x0, x1, x2, x3, x4⟩, s0, s1⟩ := hD9.facts
                have y0 : W9.cell? ⟨N9, 0, none⟩ = some (.int .i64 r.2.code) := cell_of_row _ _ 0 _ _ _ hx9
                have y1 : W9.cell? ⟨N9, 1, none⟩ = some (.slice B5 r.2.data.length cB5) := cell_of_row _ _ 1 _ _ _ hx9
                have y2 : W9.cell? ⟨N9, 2, none⟩ = some (.slice C5 r.2.names.length cC5) := cell_of_row _ _ 2 _ _ _ hx9
                have y3 : W9.cell? ⟨N9, 3, none⟩ = some (.int .i64 r.2.size) := cell_of_row _ _ 3 _ _ _ hx9
                have y4 : W9.cell? ⟨N9, 4, none⟩ = some (.bool r.2.dir) := cell_of_row _ _ 4 _ _ _ hx9
                have P9 := Lib.hid (tsame_eq r.2 B cB C cC B5 cB5 C5 cC5 W9 hD9.b hD9.c hby htx (by have := do_names x y (ths es) z.1; rw [← HR.out, ths_length] at this; have := HT3.out.len; omega))
                have P10 := Lib.hid (fun U (hU : Below W9.heap.size W9 U) => equal_eq a4 x y M5 es5 a x y M3 es3 U (hT9.below hU) (hD9.s.tr.below hU) (he8.trans hD9.e1.symm) (keyB_of hD9.s.key (hD9.e1.trans he8.symm)))
                have HD9 := Lib.hid hD9
                clear hx9 hD9 hT9 hby htx he8
                go_wp2_with fail
                refine (P9.out).mono ?_
                rintro e w10 ⟨rfl, hB10⟩
                have P11 := Lib.hid (P10.out w10 hB10)
                have HD10 := Lib.hid (HD9.out.below hB10)
                clear hB10 P10 P9 HD9
                go_wp2_with fail
                refine (P11.out).mono ?_
                rintro e w11 ⟨rfl, hB11⟩
                have HS := Lib.hid (HD10.out.below hB11).s
                clear hB11 P11 HD10
                go_wp2_with fail
                go_roundw
                case rel => exact ⟨k + 1, M3, es3, by omega, by omega, by go_num, HS⟩
                case measure => simp [intOf]; omega
        · have hk6 : decide ((k : Int) < 30) = false := by simp; omega
          have hkI : (k : Int) < (n : Int) := by omega
          have P2 := Lib.hid (PA.out wr HT.out.tr.gl)
          go_wp2_with fail
          refine (P2.out).mono ?_
          rintro e w3 ⟨rfl, hB3⟩
          have HF := Lib.hid (HT.out.below hB3).bel
          clear hB3
          go_wp2_with fail
          go_ret
          exact ⟨rfl, HF.out⟩
      · obtain rfl : k = n := by omega
        have P2 := Lib.hid (PA.out wr HT.out.tr.gl)
        go_wp2_with fail
        refine (P2.out).mono ?_
        rintro e w3 ⟨rfl, hB3⟩
        have HF := Lib.hid (HT.out.below hB3).bel
        clear hB3
        go_wp2_with fail
        go_ret
        exact ⟨rfl, HF.out⟩
end Go.Proofs.YtabecceojbeomaaGreatDoor
