/- The walk of the law BitsBack: it answers true, whatever comes in. No condition. -/
import Derived.Test.YtddmffdnookdlaaBitsAre
import Derived.Test.YtddmffdnookdlaaBitsBackPure
namespace Go.Proofs.Ytddmffdnookdlaa
open Go.RowKit Go.Cat Go.Cat.Bits

theorem two {a b p : Prop} (h : a ∨ b) (ha : a → p) (hb : b → p) : p := h.elim ha hb

theorem quiet_left {P : Program} {f : FuncId} {args : Array Value} {w : World} {n : Nat} {v : Value}
    (h : Calls P f args (w.drewN n) fun e w' => e = .returned v ∧ w.drewN n = w') : Calls P f args (w.drewN n) fun e w'' => e = .returned v ∧ ∃ m, w'' = w.drewN m :=
  h.mono fun _ _ ⟨he, hm⟩ => ⟨he, n, hm.symm⟩

set_option maxRecDepth 100000 in
set_option maxHeartbeats 1000000 in
theorem back_walk (A : Option Addr) (m c : Nat) (bs : List UInt8) (n k : Int) (w : World) (hb : Bytes w A bs) (hm : m = bs.length) (hwn : -9223372036854775808 ≤ n ∧ n ≤ 9223372036854775807) :
    Calls Try.prog 4 #[.slice A m c, .int .i64 n, .int .i64 k] w fun e w' => e = .returned (.bool true) ∧ Below w.heap.size w w' := by
  subst hm
  by_cases h1 : 600 < bs.length
  · have t1 : (600 : Int) < (bs.length : Int) := by omega
    go_enter Try.func4, Try.ntmps4
    go_wp2_with (go_at_call 7; refine (awake_any _).mono ?_; rintro e w1 ⟨rfl, hB1⟩)
    go_ret
    exact ⟨rfl, hB1⟩
  · have hb0 := hb
    go_enter Try.func4, Try.ntmps4
    go_wp2_with (at_builtin; refine wpList_app elem_u8 rfl _ _ rfl w.heap.size _ 0 [] rfl (World.ownsRow_nil _ _ _ _) _ _ _ (bs.map by8) rfl hb0 (by simp) (one_by8 _) ?c2 (Nat.le_refl _) ?_)
    case c2 => omega
    intro v0 w0 hown0 hg0 _
    have hB0 : Below w.heap.size w w0 := (Below.refl _ _).own (World.ownsRow_nil w w.heap.size 5 1) hg0 (Nat.le_refl _) (Nat.le_refl _)
    replace hown0 : w0.ownsRow w.heap.size 5 1 v0 bs.length (bs.map by8) := by simpa using hown0
    obtain ⟨V, C, rfl, hs0⟩ := own_form hown0
    have hv0 : Bytes w0 V bs := hs0
    clear hown0 hg0 hs0 hb0
    go_wp2_with fail
    refine (take_any A bs.length c bs n k w0 (hb.below hB0) rfl (by omega)).mono ?_
    rintro e w1 ⟨x, l, z, X, cx, L, cl, ht, rfl, hx1, hl1, hB1⟩
    have hC1 := hB0.trans (hB1.mono hB0.size)
    have hv1 := hv0.below hB1
    have hb1 := hb.below hC1
    obtain ⟨hxl, hll⟩ := TakeTo.small ht
    clear hB0 hB1 hv0
    by_cases hz : z = 0
    · obtain ⟨K, rfl, hK, took⟩ := ht.ok hz
      have tz : (z != 0) = false := by simp [hz]
      have tz' : (z == 0) = true := by simp [hz]
      have HTk := Lib.hid took
      have hhm := had_le bs n
      clear took ht hz
      go_wp2_with fail
      go_loopw [11, 12] (fun v i wr => ∃ (q : Nat) (O : Option Addr) (co : Nat), q ≤ l.length ∧ i = .int .i64 q ∧ v = .slice O q co ∧ Ints wr O (l.take q).reverse ∧ Below w1.heap.size w1 wr) (fun _ i _ => l.length - (intOf i).toNat)
      case atStart => exact ⟨0, none, 0, Nat.zero_le _, rfl, rfl, Ints.nil_, Below.refl _ _⟩
      case round =>
        obtain ⟨q, O, co, hq, rfl, rfl, hO, hbel⟩ := hrel
        have hbr := hb1.below hbel
        have hxr := hx1.below hbel
        have hlr := hl1.below hbel
        by_cases hlt : q < l.length
        · obtain ⟨b, off, rfl, hbb, hc⟩ := hlr.at_ (by omega)
          have e1 := hc q hlt
          have HCc := Lib.hid hc
          clear hc
          obtain ⟨y, hyk⟩ : ∃ y, y = l.getD q 0 := ⟨_, rfl⟩
          rw [← hyk] at e1
          have hqI : (q : Int) < (l.length : Int) := by omega
          have hyl : y = l[q] := by rw [hyk]; simp [List.getD_eq_getElem?_getD, hlt]
          have hmem : y ∈ l := by rw [hyl]; exact List.getElem_mem hlt
          obtain ⟨g1, g2, g3, g4⟩ := HTk.out.each y hmem
          have HO : Hid ((l.take (q + 1)).reverse = [y] ++ (l.take q).reverse) := by
            show _ = _; rw [List.take_succ_eq_append_getElem hlt, List.reverse_append, hyl]; rfl
          have hy63 : y ≤ 9223372036854775807 := by omega
          have H3 := Lib.hid g3
          have H4 := Lib.hid g4
          have HY := Lib.hid hyl
          clear hyk hmem g3 g4 hyl
          have hrow := World.ownsRow_lit (base := wr.heap.size) (e := 3) (size := 1) wr #[.int .i64 y] 1 (Nat.le_refl _) (by unfold maxLen; omega) rfl
          have hOl : (l.take q).reverse.length = q := by simp; omega
          have HOl := Lib.hid hOl
          clear hOl
          go_wp2_with (at_builtin; refine wpList_app elem_int rfl _ _ rfl wr.heap.size _ 1 [.int .i64 y] rfl hrow O q co ((l.take q).reverse.map i64) rfl (hO.alloc _) (by rw [List.length_map, HOl.out]; simp) (one_i64 _) ?d2 (by simp) ?_)
          case d2 => omega
          intro v2 w2 hown2 hg2 _
          have hB2 : Below w1.heap.size w1 w2 := (hbel.alloc hbel.size _).own hrow hg2 (by have := hbel.size; simp; omega) hbel.size
          obtain ⟨V2, C2, rfl, hs2⟩ := own_form hown2
          have hi2 : Ints w2 V2 (l.take (q + 1)).reverse := by rw [HO.out]; unfold Ints; simpa [i64] using hs2
          have hb2 := hb1.below hB2
          have hx2 := hx1.below hB2
          have hk2 : ∀ p : Addr, p.block < wr.heap.size → w2.cell? p = wr.cell? p := fun p hp => by
            refine (World.cell?_of_block (hg2.block p.block (by simp; omega) ?_)).trans (World.cell?_alloc_lt wr _ p hp)
            simp [Value.ownBlock]; omega
          have e1' : w2.cell? ⟨b, off + q, none⟩ = some (.int .i64 y) := (hk2 _ hbb).trans e1
          have eprev : ∀ r, r < l.length → w2.cell? ⟨b, off + r, none⟩ = some (.int .i64 (l.getD r 0)) := fun r hr => (hk2 _ hbb).trans (HCc.out r hr)
          clear hown2 hg2 hs2 hk2 e1 HCc hO hbel hrow hbr hxr hlr
          have h0q : (0 : Int) ≤ (q : Int) := by omega
          have hcallA : ∀ j, Calls Try.prog 14 #[.slice A bs.length c, .int .i64 y] (w2.drewN j) fun e w' => e = .returned (.bool false) ∧ w2.drewN j = w' := fun j => has_false (w := w2.drewN j) hb2 rfl (by omega) hy63 H3.out
          have hcallX : ∀ j, Calls Try.prog 14 #[.slice X x.length cx, .int .i64 y] (w2.drewN j) fun e w' => e = .returned (.bool true) ∧ w2.drewN j = w' := fun j => has_true (w := w2.drewN j) hx2 rfl (by omega) hy63 H4.out
          have HA := Lib.hid hcallA
          have HX := Lib.hid hcallX
          clear hcallA hcallX
          by_cases hq0 : q = 0
          · have d0 : decide (0 < q) = false := by simp [hq0]
            have HQ0 := Lib.hid hq0
            clear hq0 eprev
            go_wp2_with fail
            go_quiet ((go_at_call 14; first | (with_reducible exact quiet_left (HA.out _)) | (with_reducible exact quiet_left (HX.out _))))
            go_wp2_with fail
            go_roundw
            case rel => exact ⟨q + 1, V2, C2, by omega, by go_num, by rw [Nat.add_comm], hi2, below_drewN hB2 _⟩
            case measure => simp [intOf]; omega
          · obtain ⟨r, rfl⟩ : ∃ r, q = r + 1 := ⟨q - 1, by omega⟩
            have d0 : decide (0 < r + 1) = true := by simp
            have e0 := eprev r (by omega)
            obtain ⟨y', hy'⟩ : ∃ y', y' = l.getD r 0 := ⟨_, rfl⟩
            rw [← hy'] at e0
            have hlt2 : y' < y := by
              have := List.pairwise_iff_getElem.1 HTk.out.rise r (r + 1) (by omega) hlt (by omega)
              rw [hy', HY.out]; simpa [List.getD_eq_getElem?_getD, show r < l.length from by omega] using this
            have dle : decide (y ≤ y') = false := by simp; omega
            have hw1 : IntKind.i64.wrap ((r : Int) + 1 - 1) = (r : Int) := by rw [show (r : Int) + 1 - 1 = (r : Int) from by omega]; exact IntWalk.i64_in _ (by omega)
            have hr0 : (0 : Int) ≤ (r : Int) := by omega
            have hrI : (r : Int) < (l.length : Int) := by omega
            clear eprev hy' hlt2 hq0
            go_wp2_with fail
            go_quiet ((go_at_call 14; first | (with_reducible exact quiet_left (HA.out _)) | (with_reducible exact quiet_left (HX.out _))))
            go_wp2_with fail
            go_roundw
            case rel => exact ⟨r + 1 + 1, V2, C2, by omega, by go_num, by rw [Nat.add_comm], hi2, below_drewN hB2 _⟩
            case measure => simp [intOf]; omega
        · obtain rfl : q = l.length := by omega
          rw [List.take_of_length_le (Nat.le_refl _)] at hO
          have hvr := hv1.below hbel
          have hCr := hC1.trans (hbel.mono hC1.size)
          have hrl : l.length = l.reverse.length := by simp
          have HRl := Lib.hid hrl
          clear hrl hlt
          go_wp2_with fail
          refine (give_any X O x.length cx l.length co x l.reverse n wr hxr rfl (by omega) hO HRl.out (by rw [← HRl.out]; omega)).mono ?_
          rintro e w2 ⟨y, zf, Y, cy, hg2, rfl, hy2, hB2⟩
          have hC2 := hCr.trans (hB2.mono hCr.size)
          obtain ⟨rfl, hry, hhad⟩ := HTk.out.back (List.reverse_perm l) hg2
          have hyl : y.length ≤ 512 := rep_len hry HTk.out.fits.hi
          have HRy := Lib.hid hry
          have HHd := Lib.hid hhad
          clear hg2 hry hhad
          go_wp2_with fail
          refine (give_any Y O y.length cy l.length co y l.reverse n w2 hy2 rfl (by omega) (hO.below hB2) HRl.out (by rw [← HRl.out]; omega)).mono ?_
          rintro e w3 ⟨u, za, U, cu, hg3, rfl, _, hB3⟩
          have hC3 := hC2.trans (hB3.mono hC2.size)
          have hag : l ≠ [] → za = 7 := fun h0 => HTk.out.again (List.reverse_perm l) HRy.out hg3 (by simpa using h0)
          have HAg := Lib.hid hag
          have hb3 := hb.below hC3
          have hy3 := hy2.below hB3
          have hx3 := (hxr.below hB2).below hB3
          have hv3 := (hvr.below hB2).below hB3
          have hlK : l.length = K := HTk.out.len
          have hmany := HTk.out.many
          have HKl := Lib.hid hlK
          have HMy := Lib.hid hmany
          have hhx := had_le x n
          clear hg3 hag hO hbel hxr hlr hbr hB2 hB3 hvr hCr hC1 hC2 hl1 hx1 hv1 hb1 hy2 hlK hmany
          have E0 : ((l.length : Int) == (K : Int)) = true := by rw [beq_iff_eq, HKl.out]
          refine two (show l.length = 0 ∨ 0 < l.length by omega) ?wy1 ?wy2
          case' wy1 =>
            intro h0
            have d0 : decide (0 < l.length) = false := by simp [h0]
            have H00 := Lib.hid h0
            clear h0 HAg
            go_wp2_with fail
          case' wy2 =>
            intro h0
            have d0 : decide (0 < l.length) = true := by simp [h0]
            have h7 : za = 7 := HAg.out (by intro e; rw [e] at h0; simp at h0)
            have E7 : (za != 7) = false := by simp [h7]
            clear h7 HAg
            go_wp2_with fail
          all_goals
            refine (list_any Y y.length cy y n w3 hy3 rfl (by omega)).mono ?_
            rintro e w5 ⟨v5, rfl, ho5, hB5⟩
            rw [HHd.out] at ho5
            obtain ⟨A5, c5, rfl, hs5⟩ := own_form ho5
            have hC5 := hC3.trans (hB5.mono hC3.size)
            have hb5 := hb3.below hB5
            have hx5 := hx3.below hB5
            have hv5 := hv3.below hB5
            clear ho5 hB5 hC3 hb3 hx3 hv3 hy3
            go_wp2_with fail
            refine (list_any A bs.length c bs n w5 hb5 rfl (by omega)).mono ?_
            rintro e w6 ⟨v6, rfl, ho6, hB6⟩
            obtain ⟨A6, c6, rfl, hs6⟩ := own_form ho6
            have hC6 := hC5.trans (hB6.mono hC5.size)
            have hi5 : Ints w6 A5 (had bs n) := Sees.below hs5 hB6
            have hi6 : Ints w6 A6 (had bs n) := hs6
            have hb6 := hb5.below hB6
            have hx6 := hx5.below hB6
            have hv6 := hv5.below hB6
            clear ho6 hB6 hs5 hs6 hC5 hb5 hx5 hv5
            go_wp2_with fail
            refine (sameI_any A5 A6 _ _ c5 c6 (had bs n) (had bs n) w6 hi5 hi6 rfl rfl (by omega) (by omega)).mono ?_
            rintro e w' ⟨rfl, k7, rfl⟩
            have E5 : decide (had bs n = had bs n) = true := by simp
            rw [E5]
            have E6 : ((had x n).length : Int) = ((had bs n).length : Int) + (K : Int) := by rw [HMy.out]; simp
            have E8 : (((had x n).length : Int) == ((had bs n).length : Int) + (K : Int)) = true := by rw [beq_iff_eq]; exact E6
            clear E6 E5
            go_wp2_with fail
            refine (count_any X x.length cx x n (w6.drewN k7) hx6 rfl (by omega)).mono ?_
            rintro e w' ⟨rfl, rfl⟩
            go_wp2_with fail
            refine (count_any A bs.length c bs n (w6.drewN k7) hb6 rfl (by omega)).mono ?_
            rintro e w' ⟨rfl, rfl⟩
            go_wp2_with fail
            refine (same8_any A V bs.length bs.length c C bs bs (w6.drewN k7) hb6 hv6 rfl rfl (by omega) (by omega)).mono ?_
            rintro e w' ⟨rfl, k8, rfl⟩
            have E9 : decide (bs = bs) = true := by simp
            rw [E9]
            go_wp2_with fail
            refine (awake_any _).mono ?_
            rintro e w7 ⟨rfl, hB7⟩
            go_wp2
            go_ret
            exact ⟨rfl, (below_drewN hC6 _).trans (hB7.mono hC6.size)⟩
    · have tz : (z != 0) = true := by simp [hz]
      clear ht hz
      go_wp2_with fail
      refine (same8_any A V bs.length bs.length c C bs bs w1 hb1 hv1 rfl rfl (by omega) (by omega)).mono ?_
      rintro e w' ⟨rfl, k8, rfl⟩
      have E9 : decide (bs = bs) = true := by simp
      rw [E9]
      go_wp2_with fail
      refine (awake_any _).mono ?_
      rintro e w7 ⟨rfl, hB7⟩
      go_wp2
      go_ret
      exact ⟨rfl, (below_drewN hC1 _).trans (hB7.mono hC1.size)⟩
end Go.Proofs.Ytddmffdnookdlaa
