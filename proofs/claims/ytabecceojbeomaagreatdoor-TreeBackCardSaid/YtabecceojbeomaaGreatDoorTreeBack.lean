/- The walk of the law TreeBack: what was put is got, what was renamed and back is as it was, what was made and removed leaves what was. Condition: the library's variable MaxLen holds an int. -/
import Derived.Test.YtabecceojbeomaaGreatDoorTreeStays
import Derived.Test.YtabecceojbeomaaGreatDoorTrOneV
namespace Go.Proofs.YtabecceojbeomaaGreatDoor
open Go.RowKit Go.Cat Go.Cat.Dir Go.Cat.Tree Go.Maps

/-- What the loop keeps. -/
structure BkR (w : World) (a M : Nat) (es : List (Txt × El)) (k : Nat) (wr : World) : Prop where
  bel : Below w.heap.size w wr
  tr : TrAt wr a 60 90 M es
  inv : InvA 60 90 (ths es)
  wt : wtL (ths es) ≤ 1 + 2 * k
  lo : w.heap.size ≤ a
section
variable {w W W' : World} {a M k : Nat} {es : List (Txt × El)}
theorem BkR.len (h : BkR w a M es k W) : es.length ≤ 60 := by
  have := h.inv.len
  rw [ths_length] at this
  omega
theorem BkR.key (h : BkR w a M es k W) : KeyB es := keyB_inv h.inv.inv (by have := h.len; omega)
theorem BkR.below (h : BkR w a M es k W) (hb : Below W.heap.size W W') : BkR w a M es k W' := ⟨h.bel.trans (hb.mono h.bel.size), h.tr.below hb, h.inv, h.wt, h.lo⟩
theorem BkR.done (h : BkR w a M es k W) {c : CallV} {M3 : Nat} {es3 : List (Txt × El)} (hT : TrAt W' a 60 90 M3 es3) (he : ths es3 = (doV 60 90 (ths es) c).1) (ht : Tch (fun k => k = a) W W') : BkR w a M3 es3 (k + 1) W' :=
  ⟨h.bel.trans (ht.below h.bel.size fun k e => by have := h.lo; omega), hT, by rw [he]; exact do_inv h.inv c, by rw [he]; have := do_wt h.inv.inv 60 90 c; have := h.wt; omega, h.lo⟩
/-- Behind the loop: the tree, and the copy. -/
structure BkS (w : World) (a M : Nat) (es : List (Txt × El)) (a2 M2 : Nat) (es2 : List (Txt × El)) (W : World) : Prop where
  bel : Below w.heap.size w W
  tr : TrAt W a 60 90 M es
  t2 : TrAt W a2 60 90 M2 es2
  na : a < a2
  nM : a < M2
  lo : w.heap.size ≤ a
theorem BkS.below {a2 M2 : Nat} {es2 : List (Txt × El)} (h : BkS w a M es a2 M2 es2 W) (hb : Below W.heap.size W W') : BkS w a M es a2 M2 es2 W' := ⟨h.bel.trans (hb.mono h.bel.size), h.tr.below hb, h.t2.below hb, h.na, h.nM, h.lo⟩
/-- A call more. -/
theorem BkS.done {a2 M2 M3 : Nat} {es2 es3 : List (Txt × El)} (h : BkS w a M es a2 M2 es2 W) (hT : TrAt W' a 60 90 M3 es3) (ht : Tch (fun k => k = a) W W') : BkS w a M3 es3 a2 M2 es2 W' :=
  ⟨h.bel.trans (ht.below h.bel.size fun k e => by have := h.lo; omega), hT, h.t2.other h.tr (Nat.ne_of_gt h.na) (Nat.ne_of_gt h.nM) ht, h.na, h.nM, h.lo⟩
theorem box_na {a2 M2 N : Nat} {es2 : List (Txt × El)} {cs : Array Value} {fr : Nat × Nat} (h : BkS w a M es a2 M2 es2 W) (hx : W.heap[N]? = some (.cells cs 36 fr)) : N ≠ a := fun e => by
  rw [e, h.tr.blk] at hx
  injection hx with hx
  injection hx with _ hx
  exact absurd hx (by decide)
/-- Behind the second copy: the tree, both copies, and what was got. -/
structure BkT (w : World) (a M : Nat) (es : List (Txt × El)) (a2 M2 : Nat) (es2 : List (Txt × El)) (a3 M3 : Nat) (es3 : List (Txt × El)) (N : Nat) (B C : Option Addr) (cB cC : Nat) (data : List UInt8) (W : World) : Prop where
  s : BkS w a M es a2 M2 es2 W
  t3 : TrAt W a3 60 90 M3 es3
  na3 : a < a3
  nM3 : a < M3
  got : Bytes W B data
  bx : W.heap[N]? = some (.cells #[.int .i64 0, .slice B data.length cB, .slice C 0 cC, .int .i64 0, .bool false] 36 (0, 0))
section
variable {a2 M2 a3 M3 N cB cC : Nat} {es2 es3 : List (Txt × El)} {B C : Option Addr} {data : List UInt8}
theorem BkT.below (h : BkT w a M es a2 M2 es2 a3 M3 es3 N B C cB cC data W) (hb : Below W.heap.size W W') : BkT w a M es a2 M2 es2 a3 M3 es3 N B C cB cC data W' :=
  ⟨h.s.below hb, h.t3.below hb, h.na3, h.nM3, h.got.below hb, heap_below h.bx hb⟩
/-- A call more. -/
theorem BkT.done {M4 : Nat} {es4 : List (Txt × El)} (h : BkT w a M es a2 M2 es2 a3 M3 es3 N B C cB cC data W) (hT : TrAt W' a 60 90 M4 es4) (ht : Tch (fun k => k = a) W W') : BkT w a M4 es4 a2 M2 es2 a3 M3 es3 N B C cB cC data W' :=
  ⟨h.s.done hT ht, h.t3.other h.s.tr (Nat.ne_of_gt h.na3) (Nat.ne_of_gt h.nM3) ht, h.na3, h.nM3, bytes_skip h.got ht (fun k hk o u => by subst hk; exact no_byte_trB h.s.tr.blk o u), heap_touch h.bx ht (box_na h.s h.bx)⟩
end
end

theorem do_fail {I J : Int} {m : TL} {c : CallV} (h : (doV I J m c).2.code ≠ 0) : ∃ e, doV I J m c = (m, { code := e }) := by
  unfold doV at h ⊢
  split
  · rename_i h1
    rw [if_pos h1] at h
    split
    · exact ⟨_, rfl⟩
    · rename_i h2
      rw [if_neg h2] at h
      exact absurd h1 h
  · exact ⟨_, rfl⟩
/-- What the two renamings answer, plain. -/
theorem back_ok {l : TL} {b : List UInt8} (h : One l [122, 122] zzT) (hb : b.length ≤ 512) (hI : (l.length : Int) + 1 ≤ 60) (hJ : (wtL l : Int) + 9 ≤ 90) :
    ∃ (T : TL) (ca cb : Int), doV 60 90 (wf l zzT b) ⟨5, zzT, zyT, 0, 0, []⟩ = (T, { code := ca }) ∧ Inv T ∧ T.length ≤ 61 ∧ doV 60 90 T ⟨5, zyT, zzT, 0, 0, []⟩ = (wf l zzT b, { code := cb }) ∧ (ca = 8 ∨ (ca = 0 ∧ (fileB T zzT).2 = false ∧ cb = 0)) := by
  by_cases ht : (getT zyT l).isSome = true
  · obtain ⟨cb, hcb⟩ := do_fail (I := 60) (J := 90) (rename_there (m := wf l zzT b) (I := 60) (J := 90) (c := ⟨5, zyT, zzT, 0, 0, []⟩) rfl (by rw [h.get]; rfl))
    exact ⟨_, 8, cb, h.there nms_zy zy_join ht zz_ne hb, h.ok hb, by rw [h.len]; omega, hcb, .inl rfl⟩
  · have h' : One l [122, 121] zyT := ⟨h.inv, nms_zy, zy_join, by simpa using ht⟩
    refine ⟨_, 0, 0, h.rename h' zz_ne hb hI hJ, h'.ok hb, by rw [h'.len]; omega, h'.rename h zz_ne.symm hb hI hJ, .inr ⟨rfl, ?_, rfl⟩⟩
    unfold fileB
    rw [get_put h.inv.rise, if_neg zz_ne, h.no]

set_option maxRecDepth 100000 in
set_option maxHeartbeats 16000000 in
theorem treeback_any (Ao : Option Addr) (co : Nat) (l : List Cl) (A : Option Addr) (cA : Nat) (data : List UInt8) (at_ : Nat) (hat : at_ < 256) (w : World) (hsee : Sees w Ao (l.flatMap clC)) (hl : ∀ z ∈ l, clOk w z) (hm : l.length ≤ maxLen) (hd : Bytes w A data) (hg : MaxG w) :
    Calls Tryz.prog 3 #[.slice Ao l.length co, .slice A data.length cA, .int .u8 at_] w fun e w' => e = .returned (.bool true) ∧ Below w.heap.size w w' := by
  unfold maxLen at hm
  obtain ⟨n, hn⟩ : ∃ n, n = l.length := ⟨_, rfl⟩
  rw [← hn] at hm ⊢
  have HN := Lib.hid hn
  have HSee := Lib.hid hsee
  have HIn := Lib.hid hl
  have HD := Lib.hid hd
  have HAt := Lib.hid hat
  have PA := Lib.hid (fun W (hW : MaxG W) => awake_any W hW)
  have HG := Lib.hid hg
  by_cases hlong : 100 < data.length
  · have d1 : decide ((100 : Int) < (data.length : Int)) = true := by simp; omega
    have P2 := Lib.hid (PA.out w HG.out)
    clear hn hsee hl hd hat hg hlong
    go_enter Tryz.func3, Tryz.ntmps3
    go_wp2_with fail
    refine (P2.out).mono ?_
    rintro e w2 ⟨rfl, hB2⟩
    have HB2 := Lib.hid hB2
    clear hB2
    go_wp2_with fail
    go_ret
    exact ⟨rfl, HB2.out⟩
  · have d1 : decide ((100 : Int) < (data.length : Int)) = false := by simp; omega
    have P1 := Lib.hid (new_ok 60 90 w ⟨by decide, by decide, by decide, by decide⟩ hg)
    have HLn : Hid (data.length ≤ 100) := Lib.hid (by omega)
    clear hn hsee hl hd hat hg hlong
    go_enter Tryz.func3, Tryz.ntmps3
    go_wp2_with fail
    refine (P1.out).mono ?_
    rintro e w1 ⟨a, M0, es0, rfl, hT1, he1, ha1, hB1⟩
    have hS : BkR w a M0 es0 0 w1 := ⟨hB1, hT1, by rw [he1]; exact inv0 (by decide) (by decide), by rw [he1]; decide, ha1⟩
    have HS := Lib.hid hS
    clear hT1 he1 ha1 hB1 hS P1
    go_wp2_with fail
    go_loopw [9] (fun iv wr => ∃ (k M : Nat) (es : List (Txt × El)), k ≤ n ∧ k ≤ 20 ∧ iv = .int .i64 k ∧ Hid (BkR w a M es k wr)) (fun iv _ => n - (intOf iv).toNat)
    case atStart => exact ⟨0, _, _, Nat.zero_le _, Nat.zero_le _, rfl, HS⟩
    case round =>
      obtain ⟨k, M, es, hk, hk30, rfl, HT⟩ := hrel
      by_cases hin : k < n ∧ k < 20
      · obtain ⟨hlt, hlt2⟩ := hin
        have hko : k < l.length := by rw [← HN.out]; exact hlt
        obtain ⟨b, off, hAo, hbs, hc⟩ := HSee.out.elem (f := clC) (k := 6) (fun _ => rfl) (by omega) (by omega)
        obtain ⟨z, hz⟩ : ∃ z, z = l[k] := ⟨_, rfl⟩
        have hin : clOk w z := HIn.out z (by rw [hz]; exact List.getElem_mem _)
        have hrow := fun W (bel : Below w.heap.size w W) => row_facts hbs bel hc hko hz
        obtain ⟨⟨e0, e1, e2, e3, e4, e5⟩⟩ := And.intro (hrow wr HT.out.bel) True.intro
        have HRow := Lib.hid hrow
        have HZ := Lib.hid (fun W (bel : Below w.heap.size w W) => Sees.below (A := z.2.1) hin bel)
        have hkI : (k : Int) < (n : Int) := by omega
        have hk6 : decide ((k : Int) < 20) = true := by simp; omega
        have hk0 : (0 : Int) ≤ (k : Int) := by omega
        rw [hAo]
        clear hz hc hin hAo hrow
        have P2 := Lib.hid (far_any z.1 z.2.1 z.2.2 wr)
        obtain ⟨far, hfar⟩ : ∃ far, far = farV z.1 := ⟨_, rfl⟩
        rw [← hfar] at P2
        have HFar := Lib.hid hfar
        clear hfar hbs
        cases far with
        | true =>
          clear HFar
          go_wp2_with fail
          refine (P2.out).mono ?_
          rintro e w2 ⟨rfl, hB2⟩
          have hT2 := HT.out.below hB2
          have P3 := Lib.hid (PA.out w2 hT2.tr.gl)
          have HB := Lib.hid hT2.bel
          clear hB2 hT2
          go_wp2_with fail
          refine (P3.out).mono ?_
          rintro e w3 ⟨rfl, hB3⟩
          have HF := Lib.hid (HB.out.trans (hB3.mono HB.out.size))
          clear hB3
          go_wp2_with fail
          go_ret
          exact ⟨rfl, HF.out⟩
        | false =>
          have hfl : z.1.path.length ≤ 120 ∧ z.1.to.length ≤ 120 := by
            have := HFar.out
            unfold farV at this
            have := of_decide_eq_false this.symm
            omega
          have HFl := Lib.hid hfl
          clear hfl HFar
          go_wp2_with fail
          refine (P2.out).mono ?_
          rintro e w2 ⟨rfl, hB2⟩
          have hT2 := HT.out.below hB2
          have P4 := Lib.hid (do_any a 60 90 M es z.1 z.2.1 z.2.2 w2 hT2.tr (HZ.out w2 hT2.bel) hT2.inv.inv (by have := hT2.len; omega) (by have := HFl.out; omega) (by have := HFl.out; omega))
          have HT2 := Lib.hid hT2
          clear e0 e1 e2 e3 e4 e5
          obtain ⟨e0, e1, e2, e3, e4, e5⟩ := HRow.out w2 hT2.bel
          clear hB2 hT2 P2 HT
          go_wp2_with fail
          refine (P4.out).mono ?_
          rintro e w4 ⟨M3, es3, B, cB, C, cC, rfl, _, _, hT4, he4, ht4⟩
          have HS := Lib.hid (HT2.out.done (c := z.1) hT4 he4 ht4)
          clear hT4 he4 ht4 e0 e1 e2 e3 e4 e5 P4 HT2
          go_wp2_with fail
          go_roundw
          case rel => exact ⟨k + 1, M3, es3, by omega, by omega, by go_num, HS⟩
          case measure => simp [intOf]; omega
      · have hex : k = n ∨ (k < n ∧ k = 20) := by omega
        rcases hex with hex | hex
        case' inl =>
          obtain rfl : k = n := hex
          have P3 := Lib.hid (copy_any a 60 90 M es wr HT.out.tr HT.out.key)
          clear hin
          go_wp2_with fail
          refine (P3.out).mono ?_
        case' inr =>
          have hkI : (k : Int) < (n : Int) := by omega
          have hk6 : decide ((k : Int) < 20) = false := by simp; omega
          have P3 := Lib.hid (copy_any a 60 90 M es wr HT.out.tr HT.out.key)
          clear hin hex
          go_wp2_with fail
          refine (P3.out).mono ?_
        all_goals
          rintro e w3 ⟨a2, M2, es2, rfl, hC, he2, ha2, hM2, hB3⟩
          have hT3 := HT.out.below hB3
          have hwt : wtL (ths es) ≤ 41 := by have := HT.out.wt; omega
          have hlo := HT.out.tr.lt
          have hna : a < a2 := by omega
          have hnM : a < M2 := by omega
          obtain ⟨r, hr⟩ : ∃ r, r = doV 60 90 (ths es) ⟨1, zzT, [], 0, 0, []⟩ := ⟨_, rfl⟩
          have p4 : Calls Tryz.prog 10 #[.pointer (some ⟨a, 0, none⟩), .agg #[.int .i64 1, .string ⟨#[47, 122, 122]⟩, .string ⟨#[]⟩, .int .i64 0, .int .i64 0, .slice none 0 0]] w3 (ToldDo r w3 a 60 90) := by
            have := do_any a 60 90 M es ⟨1, zzT, [], 0, 0, []⟩ none 0 w3 hT3.tr (.inl rfl) hT3.inv.inv (by have := hT3.len; omega) (by decide) (by decide)
            rw [← hr] at this
            exact this
          have P4 := Lib.hid p4
          have HR := Lib.hid hr
          have HT3 := Lib.hid hT3
          have HC := Lib.hid hC
          have HE2 := Lib.hid he2
          have HNa := Lib.hid hna
          have HNM := Lib.hid hnM
          have HWt := Lib.hid hwt
          clear hC he2 ha2 hM2 hB3 hT3 hlo hna hnM p4 hr P3 HT hwt
          go_wp2_with fail
          refine (P4.out).mono ?_
          rintro e w4 ⟨M3, es3, B, cB, C, cC, rfl, _, _, hT4, he4, ht4⟩
          have hb5 : Below w4.heap.size w4 (w4.alloc (.cells #[.int .i64 r.2.code, .slice B r.2.data.length cB, .slice C r.2.names.length cC, .int .i64 r.2.size, .bool r.2.dir] 36)) := (Below.refl _ _).alloc (Nat.le_refl _) _
          have hx5 := heap_alloc_new w4 (.cells #[.int .i64 r.2.code, .slice B r.2.data.length cB, .slice C r.2.names.length cC, .int .i64 r.2.size, .bool r.2.dir] 36)
          have hS5 : BkS w a M3 es3 a2 M2 es2 (w4.alloc (.cells #[.int .i64 r.2.code, .slice B r.2.data.length cB, .slice C r.2.names.length cC, .int .i64 r.2.size, .bool r.2.dir] 36)) :=
            BkS.below ⟨HT3.out.bel.trans (ht4.below HT3.out.bel.size fun k e => by have := HT3.out.lo; omega), hT4, HC.out.other HT3.out.tr (Nat.ne_of_gt HNa.out) (Nat.ne_of_gt HNM.out) ht4, HNa.out, HNM.out, HT3.out.lo⟩ hb5
          have HE4 := Lib.hid he4
          clear hT4 he4 ht4 hb5 P4 HC HNa HNM
          go_upto_region 12 with (fail)
          generalize w4.alloc (.cells #[.int .i64 r.2.code, .slice B r.2.data.length cB, .slice C r.2.names.length cC, .int .i64 r.2.size, .bool r.2.dir] 36) = W5 at hx5 hS5 ⊢
          generalize w4.heap.size = N5 at hx5 ⊢
          have x0 : W5.cell? ⟨N5, 0, none⟩ = some (.int .i64 r.2.code) := cell_of_row _ _ 0 _ _ _ hx5
          have HS5 := Lib.hid hS5
          clear hx5 hS5
          by_cases hq : r.2.code = 0
          case neg =>
            have d2 : (r.2.code != 0) = true := by simpa using hq
            have hst : ths es3 = ths es := by rw [HE4.out, HR.out]; exact do_stays (.inl (by rw [← HR.out]; exact hq))
            have PE := Lib.hid (equal_eq a 60 90 M3 es3 a2 60 90 M2 es2 W5 HS5.out.tr HS5.out.t2 (hst.trans HE2.out.symm) (keyB_of HT3.out.key hst.symm))
            clear hq hst
            go_wp2_with fail
            refine (PE.out).mono ?_
            rintro e w6 ⟨rfl, hB6⟩
            have hS6 := HS5.out.below hB6
            have P7 := Lib.hid (PA.out w6 hS6.tr.gl)
            have HB := Lib.hid hS6.bel
            clear hB6 hS6 x0
            go_wp2_with fail
            refine (P7.out).mono ?_
            rintro e w7 ⟨rfl, hB7⟩
            have HF := Lib.hid (HB.out.trans (hB7.mono HB.out.size))
            clear hB7
            go_wp2_with fail
            go_ret
            exact ⟨rfl, HF.out⟩
          case pos =>
            have d2 : (r.2.code != 0) = false := by simpa using hq
            have hmk := make_one (p := zzT) (q := []) (x := 0) (y := 0) (d := []) (I := 60) (J := 90) HT3.out.inv.inv nms_zz zz_join (by rw [← HR.out]; exact hq)
            have HOne := Lib.hid hmk.1
            have HE5 : Hid (ths es3 = wf (ths es) zzT []) := Lib.hid (by rw [HE4.out, HR.out, hmk.2.1])
            have HI5 : Hid (((ths es).length : Int) + 1 ≤ 60) := Lib.hid (by have := (over_no hmk.2.2).1; rw [hmk.1.len] at this; omega)
            clear hq hmk
            obtain ⟨off, hoff⟩ : ∃ off : Nat, off = at_ % 60 := ⟨_, rfl⟩
            have hrem : (wrap64 (at_ : Int)).tmod 60 = (off : Int) := by
              have := HAt.out
              rw [hoff, show wrap64 (at_ : Int) = (at_ : Int) by unfold wrap64; omega]
              exact Int.ofNat_tmod at_ 60
            have ho60 : off < 60 := by omega
            clear hoff
            go_upto_region 15 with (fail)
            clear x0 d2
            obtain ⟨i0, hi, hz0, hz1, hz2⟩ := info_parts (show (Tryz.prog.info? 5).map (fun i => (i.zero, i.size, i.bytes)) = some (some (.int .u8 0), 1, 1) by kernel_rfl)
            go_wp2_with (first
              | (at_make; refine wpList_make_full _ rfl _ _ 23 rfl W5.heap.size 5 i0 (.int .u8 0) 1 Tryz.underlying23 hi hz0 hz1 _ _ _ _ off rfl rfl rfl rfl (by rw [hz2]; omega) (by unfold maxLen; omega) (Nat.le_refl _) ?_))
            intro w6 hown6 hg6
            have hB6 : Below W5.heap.size W5 w6 := (Below.refl _ _).grown hg6 (Nat.le_refl _) (fun k hk => by cases hk)
            have hz6 : Bytes w6 (some ⟨W5.heap.size, 0, none⟩) (List.replicate off 0) := by
              have := Sees.of_own hown6
              rw [toList_madeCells_one] at this
              simpa [Bytes, by8] using this
            have hS6 := HS5.out.below hB6
            have hi6 : Inv (ths es3) := by rw [HE5.out]; exact HOne.out.ok (by decide)
            have hn6 : es3.length ≤ 61 := by
              have := congrArg List.length HE5.out
              rw [HOne.out.len, ths_length, ths_length] at this
              have := HT3.out.len
              omega
            have p6 : Calls Tryz.prog 10 #[.pointer (some ⟨a, 0, none⟩), .agg #[.int .i64 6, .string ⟨#[47, 122, 122]⟩, .string ⟨#[]⟩, .int .i64 0, .int .i64 0, .slice (some ⟨W5.heap.size, 0, none⟩) off off]] w6 (ToldDo (wf (ths es) zzT (List.replicate off 0), {}) w6 a 60 90) := by
              have := do_any a 60 90 M3 es3 ⟨6, zzT, [], 0, 0, List.replicate off 0⟩ (some ⟨W5.heap.size, 0, none⟩) off w6 hS6.tr hz6 hi6 (by omega) (by show (3 : Nat) < _; omega) (by show (0 : Nat) < _; omega)
              have hv := HOne.out.put (b := []) (by decide) (d := List.replicate off 0) (off := 0) (Nat.le_refl _) (by rw [List.length_replicate]; omega) (by rw [List.length_replicate]; omega) HI5.out (by have := HWt.out; omega) (I := 60) (J := 90) (q := []) (m := 0)
              have hw : writeV [] 0 (List.replicate off 0) = List.replicate off 0 := by unfold writeV; simp
              rw [hw] at hv
              rw [HE5.out, show doV 60 90 (wf (ths es) zzT []) ⟨6, zzT, [], 0, 0, List.replicate off 0⟩ = _ from hv] at this
              unfold callC at this
              simp only [List.length_replicate] at this
              exact this
            have P6 := Lib.hid p6
            have HS6 := Lib.hid hS6
            clear hB6 hz6 hS6 hi6 hn6 p6 hown6 hg6
            go_wp2_with fail
            refine (P6.out).mono ?_
            rintro e w7 ⟨M4, es4, B4, cB4, C4, cC4, rfl, _, _, hT7, he7, ht7⟩
            have hS7 := HS6.out.done hT7 ht7
            have he7' : ths es4 = wf (ths es) zzT (List.replicate off 0) := he7
            have hn7 : es4.length ≤ 61 := by
              have := congrArg List.length he7'
              rw [HOne.out.len, ths_length, ths_length] at this
              have := HT3.out.len
              omega
            have p8 : Calls Tryz.prog 10 #[.pointer (some ⟨a, 0, none⟩), .agg #[.int .i64 6, .string ⟨#[47, 122, 122]⟩, .string ⟨#[]⟩, .int .i64 (off : Int), .int .i64 0, .slice A data.length cA]] w7 (ToldDo (wf (ths es) zzT (List.replicate off 0 ++ data), {}) w7 a 60 90) := by
              have := do_any a 60 90 M4 es4 ⟨6, zzT, [], (off : Int), 0, data⟩ A cA w7 hS7.tr (HD.out.below hS7.bel) (by rw [he7']; exact HOne.out.ok (by rw [List.length_replicate]; omega)) (by omega) (by show (3 : Nat) < _; omega) (by show (0 : Nat) < _; omega)
              have hv := HOne.out.put (b := List.replicate off 0) (by rw [List.length_replicate]; omega) (d := data) (off := off) (by rw [List.length_replicate]; exact Nat.le_refl _) (by have := HLn.out; omega) (by have := HLn.out; omega) HI5.out (by have := HWt.out; omega) (I := 60) (J := 90) (q := []) (m := 0)
              have hw : writeV (List.replicate off 0) off data = List.replicate off 0 ++ data := by unfold writeV; simp
              rw [hw] at hv
              rw [he7', show doV 60 90 (wf (ths es) zzT (List.replicate off 0)) ⟨6, zzT, [], (off : Int), 0, data⟩ = _ from hv] at this
              exact this
            have P8 := Lib.hid p8
            have HS7 := Lib.hid hS7
            clear hT7 he7 ht7 hS7 he7' hn7 p8 P6 HS6
            go_wp2_with fail
            refine (P8.out).mono ?_
            rintro e w8 ⟨M5, es5, B5, cB5, C5, cC5, rfl, _, _, hT8, he8, ht8⟩
            have hb9 : Below w8.heap.size w8 (w8.alloc (.cells #[.int .i64 0, .slice B5 0 cB5, .slice C5 0 cC5, .int .i64 0, .bool false] 36)) := (Below.refl _ _).alloc (Nat.le_refl _) _
            have hx9 := heap_alloc_new w8 (.cells #[.int .i64 0, .slice B5 0 cB5, .slice C5 0 cC5, .int .i64 0, .bool false] 36)
            have hS9 := (HS7.out.done hT8 ht8).below hb9
            have he9 : ths es5 = wf (ths es) zzT (List.replicate off 0 ++ data) := he8
            have hn9 : es5.length ≤ 61 := by
              have := congrArg List.length he9
              rw [HOne.out.len, ths_length, ths_length] at this
              have := HT3.out.len
              omega
            have HE9 := Lib.hid he9
            have HN9 := Lib.hid hn9
            clear hT8 he8 ht8 hb9 P8 HS7 he9 hn9
            go_upto_region 17 with (fail)
            generalize w8.alloc (.cells #[.int .i64 0, .slice B5 0 cB5, .slice C5 0 cC5, .int .i64 0, .bool false] 36) = W9 at hx9 hS9 ⊢
            generalize w8.heap.size = N9 at hx9 ⊢
            have x9 : W9.cell? ⟨N9, 0, none⟩ = some (.int .i64 0) := cell_of_row _ _ 0 _ _ _ hx9
            have HX9 := Lib.hid hx9
            have HS9 := Lib.hid hS9
            clear hx9 hS9
            have hlen9 : (List.replicate off 0 ++ data).length ≤ 512 := by rw [List.length_append, List.length_replicate]; have := HLn.out; omega
            have hi9 : Inv (ths es5) := by rw [HE9.out]; exact HOne.out.ok hlen9
            have p10 : Calls Tryz.prog 10 #[.pointer (some ⟨a, 0, none⟩), .agg #[.int .i64 7, .string ⟨#[47, 122, 122]⟩, .string ⟨#[]⟩, .int .i64 (off : Int), .int .i64 (data.length : Int), .slice none 0 0]] W9 (ToldDo (wf (ths es) zzT (List.replicate off 0 ++ data), { data := data }) W9 a 60 90) := by
              have := do_any a 60 90 M5 es5 ⟨7, zzT, [], (off : Int), (data.length : Int), []⟩ none 0 W9 HS9.out.tr (.inl rfl) hi9 (by have := HN9.out; omega) (by show (3 : Nat) < _; omega) (by show (0 : Nat) < _; omega)
              have hv := HOne.out.got (b := List.replicate off 0 ++ data) hlen9 (off := off) (k := data.length) (by rw [List.length_append, List.length_replicate]; omega) (by have := HLn.out; omega) (I := 60) (J := 90) (q := []) (d := [])
              have hw : ((List.replicate off 0 ++ data).drop off).take data.length = data := by
                rw [List.drop_left' (by rw [List.length_replicate]), List.take_length]
              rw [hw] at hv
              rw [HE9.out, hv] at this
              exact this
            have P10 := Lib.hid p10
            have HLen9 := Lib.hid hlen9
            clear hlen9 hi9 p10
            go_wp2_with fail
            refine (P10.out).mono ?_
            rintro e w10 ⟨M6, es6, B6, cB6, C6, cC6, rfl, hby, _, hT10, he10, ht10⟩
            have hb11 : Below w10.heap.size w10 (w10.alloc (.cells #[.int .i64 0, .slice B6 data.length cB6, .slice C6 0 cC6, .int .i64 0, .bool false] 36)) := (Below.refl _ _).alloc (Nat.le_refl _) _
            have hx11 := heap_alloc_new w10 (.cells #[.int .i64 0, .slice B6 data.length cB6, .slice C6 0 cC6, .int .i64 0, .bool false] 36)
            have hS11 := (HS9.out.done hT10 ht10).below hb11
            have hy11 : Bytes _ B6 data := Sees.below hby hb11
            have HE11 : Hid (ths es6 = wf (ths es) zzT (List.replicate off 0 ++ data)) := Lib.hid he10
            have hx9 := heap_below (heap_touch HX9.out ht10 (box_na HS9.out HX9.out)) hb11
            clear hT10 he10 ht10 hb11 P10 HX9 x9 hby
            go_upto_region 18 with (fail)
            generalize w10.alloc (.cells #[.int .i64 0, .slice B6 data.length cB6, .slice C6 0 cC6, .int .i64 0, .bool false] 36) = W11 at hx11 hS11 hy11 hx9 ⊢
            generalize w10.heap.size = N11 at hx11 ⊢
            have x9 : W11.cell? ⟨N9, 0, none⟩ = some (.int .i64 0) := cell_of_row _ _ 0 _ _ _ hx9
            have hb11 : Inv (ths es6) := by rw [HE11.out]; exact HOne.out.ok HLen9.out
            have hn11 : es6.length ≤ 61 := by
              have := congrArg List.length HE11.out
              rw [HOne.out.len, ths_length, ths_length] at this
              have := HT3.out.len
              omega
            have P12 := Lib.hid (copy_any a 60 90 M6 es6 W11 hS11.tr (keyB_inv hb11 (by omega)))
            have HS11 := Lib.hid hS11
            have HY11 := Lib.hid hy11
            have HX11 := Lib.hid hx11
            clear hx11 hS11 hy11 hx9 hb11 hn11
            go_wp2_with fail
            refine (P12.out).mono ?_
            rintro e w13 ⟨a3, M7, es7, rfl, hC, he7, ha3, hM7, hB13⟩
            have hlo := HS11.out.tr.lt
            have hK : BkT w a M6 es6 a2 M2 es2 a3 M7 es7 N11 B6 C6 cB6 cC6 data w13 := ⟨HS11.out.below hB13, hC, by omega, by omega, HY11.out.below hB13, heap_below HX11.out hB13⟩
            have HK := Lib.hid hK
            have HE7 : Hid (ths es7 = ths es6) := Lib.hid he7
            clear hC he7 ha3 hM7 hB13 hlo hK HS11 HY11 HX11 HS9 x9
            obtain ⟨T, ca, cb, hd1, hiT, hnT, hd2, hcs⟩ := back_ok HOne.out HLen9.out HI5.out (by have := HWt.out; omega)
            have p14 : Calls Tryz.prog 10 #[.pointer (some ⟨a, 0, none⟩), .agg #[.int .i64 5, .string ⟨#[47, 122, 122]⟩, .string ⟨#[47, 122, 121]⟩, .int .i64 0, .int .i64 0, .slice none 0 0]] w13 (ToldDo (T, { code := ca }) w13 a 60 90) := by
              have := do_any a 60 90 M6 es6 ⟨5, zzT, zyT, 0, 0, []⟩ none 0 w13 HK.out.s.tr (.inl rfl) (by rw [HE11.out]; exact HOne.out.ok HLen9.out) (by have := congrArg List.length HE11.out; rw [HOne.out.len, ths_length, ths_length] at this; have := HT3.out.len; omega) (by show (3 : Nat) < _; omega) (by show (3 : Nat) < _; omega)
              rw [HE11.out, hd1] at this
              exact this
            have P14 := Lib.hid p14
            have HIT := Lib.hid hiT
            have HNT := Lib.hid hnT
            have HD2 := Lib.hid hd2
            have HCS := Lib.hid hcs
            clear p14 hd1 hiT hnT hd2 hcs
            go_wp2_with fail
            refine (P14.out).mono ?_
            rintro e w14 ⟨M8, es8, B8, cB8, C8, cC8, rfl, _, _, hT14, he14, ht14⟩
            have hb15 : Below w14.heap.size w14 (w14.alloc (.cells #[.int .i64 ca, .slice B8 0 cB8, .slice C8 0 cC8, .int .i64 0, .bool false] 36)) := (Below.refl _ _).alloc (Nat.le_refl _) _
            have hx15 := heap_alloc_new w14 (.cells #[.int .i64 ca, .slice B8 0 cB8, .slice C8 0 cC8, .int .i64 0, .bool false] 36)
            have hK15 := (HK.out.done hT14 ht14).below hb15
            have HE15 : Hid (ths es8 = T) := Lib.hid he14
            clear hT14 he14 ht14 hb15 P14 HK
            go_upto_region 22 with (fail)
            generalize w14.alloc (.cells #[.int .i64 ca, .slice B8 0 cB8, .slice C8 0 cC8, .int .i64 0, .bool false] 36) = W15 at hx15 hK15 ⊢
            generalize w14.heap.size = N15 at hx15 ⊢
            have hi15 : Inv (ths es8) := by rw [HE15.out]; exact HIT.out
            have hn15 : es8.length ≤ 61 := by have := congrArg List.length HE15.out; rw [ths_length] at this; have := HNT.out; omega
            obtain ⟨gb, hgb⟩ : ∃ gb, gb = fileB (ths es8) zzT := ⟨_, rfl⟩
            have p16 : Calls Tryz.prog 13 #[.pointer (some ⟨a, 0, none⟩), .string ⟨#[47, 122, 122]⟩] W15 (ToldFl gb W15) := by
              rw [hgb]
              exact fil_any a 60 90 M8 es8 zzT W15 hK15.s.tr (by show (3 : Nat) < _; omega) (keyB_inv hi15 (by omega)).f
            have P16 := Lib.hid p16
            have HGb := Lib.hid hgb
            have HX15 := Lib.hid hx15
            have HK15 := Lib.hid hK15
            have HI15 := Lib.hid hi15
            have HN15 := Lib.hid hn15
            clear p16 hgb hx15 hK15 hi15 hn15
            go_wp2_with fail
            refine (P16.out).mono ?_
            rintro e w17 ⟨A17, c17, rfl, _, hB17⟩
            have p18 : Calls Tryz.prog 10 #[.pointer (some ⟨a, 0, none⟩), .agg #[.int .i64 5, .string ⟨#[47, 122, 121]⟩, .string ⟨#[47, 122, 122]⟩, .int .i64 0, .int .i64 0, .slice none 0 0]] w17 (ToldDo (wf (ths es) zzT (List.replicate off 0 ++ data), { code := cb }) w17 a 60 90) := by
              have := do_any a 60 90 M8 es8 ⟨5, zyT, zzT, 0, 0, []⟩ none 0 w17 (HK15.out.below hB17).s.tr (.inl rfl) HI15.out (by have := HN15.out; omega) (by show (3 : Nat) < _; omega) (by show (3 : Nat) < _; omega)
              rw [HE15.out, HD2.out] at this
              exact this
            have P18 := Lib.hid p18
            have HK17 := Lib.hid (HK15.out.below hB17)
            have HX17 := Lib.hid (heap_below HX15.out hB17)
            clear p18 hB17 P16 HK15 HX15
            go_wp2_with fail
            refine (P18.out).mono ?_
            rintro e w18 ⟨M9, es9, B9, cB9, C9, cC9, rfl, _, _, hT18, he18, ht18⟩
            have hb19 : Below w18.heap.size w18 (w18.alloc (.cells #[.int .i64 cb, .slice B9 0 cB9, .slice C9 0 cC9, .int .i64 0, .bool false] 36)) := (Below.refl _ _).alloc (Nat.le_refl _) _
            have hx19 := heap_alloc_new w18 (.cells #[.int .i64 cb, .slice B9 0 cB9, .slice C9 0 cC9, .int .i64 0, .bool false] 36)
            have hK19 := (HK17.out.done hT18 ht18).below hb19
            have hx15 := heap_below (heap_touch HX17.out ht18 (box_na HK17.out.s HX17.out)) hb19
            have HE19 : Hid (ths es9 = wf (ths es) zzT (List.replicate off 0 ++ data)) := Lib.hid he18
            clear hT18 he18 ht18 hb19 P18 HK17 HX17
            go_upto_region 24 with (fail)
            generalize w18.alloc (.cells #[.int .i64 cb, .slice B9 0 cB9, .slice C9 0 cC9, .int .i64 0, .bool false] 36) = W19 at hx15 hx19 hK19 ⊢
            generalize w18.heap.size = N19 at hx19 ⊢
            have x15 : W19.cell? ⟨N15, 0, none⟩ = some (.int .i64 ca) := cell_of_row _ _ 0 _ _ _ hx15
            have x19 : W19.cell? ⟨N19, 0, none⟩ = some (.int .i64 cb) := cell_of_row _ _ 0 _ _ _ hx19
            have HX15 := Lib.hid hx15
            have HK19 := Lib.hid hK19
            clear hx15 hx19 hK19
            have hi19 : Inv (ths es9) := by rw [HE19.out]; exact HOne.out.ok HLen9.out
            have hn19 : es9.length ≤ 61 := by have := congrArg List.length HE19.out; rw [HOne.out.len, ths_length, ths_length] at this; have := HT3.out.len; omega
            have HI19 := Lib.hid hi19
            have HN19 := Lib.hid hn19
            clear hi19 hn19
            have hover : overV 60 90 (ths es) = false := HT3.out.inv.over
            have HOver := Lib.hid hover
            clear hover
            rcases HCS.out with hca | ⟨hca, hgo, hcb⟩
            case' inl =>
              subst hca
              obtain ⟨w20, hw20⟩ : ∃ u, u = W19 := ⟨_, rfl⟩
              subst hw20
              have HK20 := HK19
              have HX20 := HX15
              have HXf := Lib.hid (fun (W : World) (h : W.heap[N15]? = some (.cells #[.int .i64 8, .slice B8 0 cB8, .slice C8 0 cC8, .int .i64 0, .bool false] 36 (0, 0))) => show W.cell? ⟨N15, 0, none⟩ = some (.int .i64 8) from cell_of_row _ _ 0 _ _ _ h)
              clear HK19 HX15
              go_upto_region 26 with (fail)
              clear x15 x19
            case' inr =>
              subst hca hcb
              rw [← HE15.out, ← HGb.out] at hgo
              have P20 := Lib.hid (equal_eq a 60 90 M9 es9 a3 60 90 M7 es7 W19 HK19.out.s.tr HK19.out.t3 (by rw [HE19.out, HE7.out, HE11.out]) (keyB_inv HI19.out (by have := HN19.out; omega)))
              obtain ⟨g1, g2⟩ := gb
              simp only at hgo
              subst hgo
              clear HGb
              go_wp2_with fail
              refine (P20.out).mono ?_
              rintro e w20 ⟨rfl, hB20⟩
              have HK20 := Lib.hid (HK19.out.below hB20)
              have HX20 := Lib.hid (heap_below HX15.out hB20)
              have HXf := Lib.hid (fun (W : World) (h : W.heap[N15]? = some (.cells #[.int .i64 0, .slice B8 0 cB8, .slice C8 0 cC8, .int .i64 0, .bool false] 36 (0, 0))) => show W.cell? ⟨N15, 0, none⟩ = some (.int .i64 0) from cell_of_row _ _ 0 _ _ _ h)
              clear HK19 HX15 hB20 P20 x15 x19
              go_upto_region 26 with (fail)
            all_goals
              have p26 : Calls Tryz.prog 10 #[.pointer (some ⟨a, 0, none⟩), .agg #[.int .i64 3, .string ⟨#[47, 122, 122]⟩, .string ⟨#[]⟩, .int .i64 0, .int .i64 0, .slice none 0 0]] w20 (ToldDo (ths es, {}) w20 a 60 90) := by
                have := do_any a 60 90 M9 es9 ⟨3, zzT, [], 0, 0, []⟩ none 0 w20 HK20.out.s.tr (.inl rfl) HI19.out (by have := HN19.out; omega) (by show (3 : Nat) < _; omega) (by show (0 : Nat) < _; omega)
                rw [HE19.out, HOne.out.gone HLen9.out HOver.out] at this
                exact this
              have P26 := Lib.hid p26
              clear p26
              go_wp2_with fail
              refine (P26.out).mono ?_
              rintro e w26 ⟨M10, es10, B10, cB10, C10, cC10, rfl, _, _, hT26, he26, ht26⟩
              have hb27 : Below w26.heap.size w26 (w26.alloc (.cells #[.int .i64 0, .slice B10 0 cB10, .slice C10 0 cC10, .int .i64 0, .bool false] 36)) := (Below.refl _ _).alloc (Nat.le_refl _) _
              have hx27 := heap_alloc_new w26 (.cells #[.int .i64 0, .slice B10 0 cB10, .slice C10 0 cC10, .int .i64 0, .bool false] 36)
              have hK27 := (HK20.out.done hT26 ht26).below hb27
              have hx15 := heap_below (heap_touch HX20.out ht26 (box_na HK20.out.s HX20.out)) hb27
              have HE27 : Hid (ths es10 = ths es) := Lib.hid he26
              clear hT26 he26 ht26 hb27 P26 HK20 HX20
              go_upto_region 27 with (fail)
              generalize w26.alloc (.cells #[.int .i64 0, .slice B10 0 cB10, .slice C10 0 cC10, .int .i64 0, .bool false] 36) = W27 at hx15 hx27 hK27 ⊢
              generalize w26.heap.size = N27 at hx27 ⊢
              have y1 : W27.cell? ⟨N11, 1, none⟩ = some (.slice B6 data.length cB6) := cell_of_row _ _ 1 _ _ _ hK27.bx
              have p27 : Calls Tryz.prog 14 #[.slice B6 data.length cB6, .slice A data.length cA] W27 fun e w' => e = .returned (.bool true) ∧ Below W27.heap.size W27 w' :=
                (same8_any B6 A data.length data.length cB6 cA data data W27 hK27.got (HD.out.below hK27.s.bel) rfl rfl (by have := HLn.out; omega) (by have := HLn.out; omega)).mono fun e w' ⟨h3, q, h4⟩ => ⟨by rw [h3]; simp, by rw [h4]; exact below_drewN (Below.refl _ _) _⟩
              have P27 := Lib.hid p27
              have HX15 := Lib.hid hx15
              have HX27 := Lib.hid hx27
              have HK27 := Lib.hid hK27
              clear hx15 hx27 hK27 p27
              go_wp2_with fail
              refine (P27.out).mono ?_
              rintro e w28 ⟨rfl, hB28⟩
              have x15 := HXf.out w28 (heap_below HX15.out hB28)
              have x27 : w28.cell? ⟨N27, 0, none⟩ = some (.int .i64 0) := cell_of_row _ _ 0 _ _ _ (heap_below HX27.out hB28)
              have hK28 := HK27.out.below hB28
              have P28 := Lib.hid (equal_eq a 60 90 M10 es10 a2 60 90 M2 es2 w28 hK28.s.tr hK28.s.t2 (HE27.out.trans HE2.out.symm) (keyB_of HT3.out.key HE27.out.symm))
              have HB28 := Lib.hid hK28.s
              clear hB28 hK28 y1 HK27 HX15 HX27 P27
              go_wp2_with fail
              refine (P28.out).mono ?_
              rintro e w29 ⟨rfl, hB29⟩
              have hS29 := HB28.out.below hB29
              have P30 := Lib.hid (PA.out w29 hS29.tr.gl)
              have HB := Lib.hid hS29.bel
              clear hB29 hS29 x15 x27 P28
              go_wp2_with fail
              refine (P30.out).mono ?_
              rintro e w30 ⟨rfl, hB30⟩
              have HF := Lib.hid (HB.out.trans (hB30.mono HB.out.size))
              clear hB30
              go_wp2_with fail
              go_ret
              exact ⟨rfl, HF.out⟩
end Go.Proofs.YtabecceojbeomaaGreatDoor
