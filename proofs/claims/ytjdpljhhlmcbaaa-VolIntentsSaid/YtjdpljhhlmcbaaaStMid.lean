/- The walk of symMergeCmpFunc, all of it. Condition: fewer than 2^62 elements; the right half's elements are less than the left half's by the one order just if by the other one. -/
import Derived.Test.YtjdpljhhlmcbaaaStSym
import Derived.Deep.DeepCutAuto
namespace Go.Cat.St
open Go.Shelf Go.RowKit Go.Lib Go.Sort Go.Proofs
variable {P : Program} {α : Type} [Inhabited α]

set_option maxHeartbeats 32000000 in
set_option maxRecDepth 1000000 in
theorem sym_mid {k : Nat} (L : Lays P k) (enc : α → List Value) (cf : α → α → Int) (lx : α → α → Bool) (hS : SWO lx) (g : Nat) (cb : Array Value) (blk off cap a m b : Nat) (d0 d : Array α) (w0 w : World)
    (eg : ∀ args w, (callFunc g args).run P w = .ok (.enter g args) w) (hcmp : CmpLays P g cb enc k cf blk off d0.size w0) (R : RowK enc k w0 blk off d0) (hs : d0.size = d.size) (S : SWK enc k w0 blk off d w)
    (ham : a + 1 < m) (hmb : m + 1 < b) (hb : b ≤ d.size) (hsz : d.size < 4611686018427387904) (h1 : SortedIn lx a m d) (h2 : SortedIn lx m b d) (hag : Agr (ltOf cf) lx d a m b)
    (ih : ∀ (a' m' b' : Nat) (d' : Array α) (W : World), d'.size = d.size → b' - a' < b - a → SWK enc k w0 blk off d' W → a' < m' → m' < b' → b' ≤ d.size → SortedIn lx a' m' d' → SortedIn lx m' b' d' → Agr (ltOf cf) lx d' a' m' b' →
      Calls P 82 #[.slice (some ⟨blk, off, none⟩) d.size cap, .int .i64 a', .int .i64 m', .int .i64 b', .func (.func g) #[] cb] W (Merged enc k w0 blk off lx d' a' b')) :
    Calls P 82 #[.slice (some ⟨blk, off, none⟩) d.size cap, .int .i64 a, .int .i64 m, .int .i64 b, .func (.func g) #[] cb] w (Merged enc k w0 blk off lx d a b) := by
  obtain ⟨mid, hmid⟩ : ∃ mid, mid = (a + b) / 2 := ⟨_, rfl⟩
  obtain ⟨lo, hlo⟩ : ∃ lo, lo = if mid < m then mid + m - b else a := ⟨_, rfl⟩
  obtain ⟨hi, hhi⟩ : ∃ hi, hi = if mid < m then mid else m := ⟨_, rfl⟩
  obtain ⟨p, hp⟩ : ∃ p : Nat → Bool, p = (fun c => !ltOf cf d[mid + m - 1 - c]! d[c]!) := ⟨_, rfl⟩
  obtain ⟨s, hss⟩ : ∃ s, s = bsr p lo hi := ⟨_, rfl⟩
  have hst := merge_step (lt := ltOf cf) (s := s) (lo := lo) (hi := hi) hS hb (by omega) (by omega) h1 h2 hag (by rw [← hmid]; exact hlo) (by rw [← hmid]; exact hhi) (by rw [← hmid, hss, hp])
  rw [← hmid] at hst
  obtain ⟨e, he⟩ : ∃ e, e = mid + m - s := ⟨_, rfl⟩
  rw [← he] at hst
  have hbd : a ≤ lo ∧ lo ≤ hi ∧ hi ≤ m ∧ hi ≤ mid ∧ mid + m - lo ≤ b ∧ a < mid ∧ mid < b := by
    by_cases c : mid < m
    · rw [if_pos c] at hlo hhi; omega
    · rw [if_neg c] at hlo hhi; omega
  obtain ⟨bd1, bd2, bd3, bd4, bd5, bd6, bd7⟩ := hbd
  have bl := hst.bl
  have sm := hst.sm
  have me := hst.me
  have eb := hst.eb
  have hse : s + e = mid + m := by rw [hst.se, hmid]
  have hlo1 : mid < m → ((mid : Int) + (m : Int) - (b : Int) = (lo : Int)) := fun c => by rw [if_pos c] at hlo; omega
  have hlo2 : ¬ mid < m → lo = a := fun c => by rw [if_neg c] at hlo; exact hlo
  have hhi1 : mid < m → hi = mid := fun c => by rw [if_pos c] at hhi; exact hhi
  have hhi2 : ¬ mid < m → hi = m := fun c => by rw [if_neg c] at hhi; exact hhi
  have hmidz : ((a : Int) + (b : Int)) / 2 = (mid : Int) := by omega
  have hez : (mid : Int) + (m : Int) - (s : Int) = (e : Int) := by omega
  have HSt := Lib.hid hst
  have HP := Lib.hid hp
  have Hss := Lib.hid hss
  have HLo1 := Lib.hid hlo1
  have HLo2 := Lib.hid hlo2
  have HHi1 := Lib.hid hhi1
  have HHi2 := Lib.hid hhi2
  have HMz := Lib.hid hmidz
  have HEz := Lib.hid hez
  have HSE := Lib.hid hse
  have HM := Lib.hid hmid
  have IH := Lib.hid ih
  have HC : Aside _ := hcmp
  have PR : Hid (∀ (W : World), SWK enc k w0 blk off d W → s < m → m < e → Calls P 91 #[.slice (some ⟨blk, off, none⟩) d.size cap, .int .i64 s, .int .i64 m, .int .i64 e, .func (.func g) #[] cb] W fun e' w' => e' = .returned (.tuple #[]) ∧ SWK enc k w0 blk off (rotS d s m e) w') := fun W hW q1 q2 => rot_any L enc (.func (.func g) #[] cb) blk off cap s m e d0 d w0 W R hs hW q1 q2 (by omega) hsz
  have e82 : ∀ args w, (callFunc 82 args).run P w = .ok (.enter 82 args) w := enters_of L.fSym (by kernel_rfl) rfl
  have e91 : ∀ args w, (callFunc 91 args).run P w = .ok (.enter 91 args) w := enters_of L.fRot (by kernel_rfl) rfl
  have mixed := L.mixed; have t0 := L.t0; have a0 := L.a0; have z0 := L.z0; have v0 := L.v0; have t3 := L.t3; have a3 := L.a3; have z3 := L.z3; have v3 := L.v3; have t4 := L.t4; have a4 := L.a4; have z4 := L.z4; have v4 := L.v4; have t5 := L.t5; have a5 := L.a5; have z5 := L.z5; have v5 := L.v5; have t6 := L.t6; have a6 := L.a6; have z6 := L.z6; have v6 := L.v6; have aE := L.aE; have zE := L.zE
  have FG := L.fSym
  have S0 : Aside (SWK enc k w0 blk off d w) := S
  have d1 : ((m : Int) - (a : Int) == 1) = false := by rw [beq_eq_false_iff_ne]; omega
  have d2 : ((b : Int) - (m : Int) == 1) = false := by rw [beq_eq_false_iff_ne]; omega
  clear S hp hss hcmp h1 h2 hag hst hlo hhi hlo1 hlo2 hhi1 hhi2 hmidz hez ih he hse hmid
  go_enter FG, Try.ntmps82
  go_upto_if 140 with (fail)
  rw [HMz.out]
  go_cut [20, 21] (fun s20 s21 wc => s20 = .int .i64 lo ∧ s21 = .int .i64 hi ∧ wc = w)
  case first => as_aux_lemma =>
    by_cases hc : mid < m
    · have dc : decide ((mid : Int) < (m : Int)) = true := by simp; omega
      have dcn : (mid : Int) < (m : Int) := by omega
      have q1 := HLo1.out hc
      have q2 := HHi1.out hc
      have Q1 := Lib.hid q1
      have Q2 := Lib.hid q2
      clear q1 q2 hc
      go_wp2_with fail
      go_meet
      exact ⟨by rw [Q1.out], by rw [Q2.out], rfl⟩
    · have dc : decide ((mid : Int) < (m : Int)) = false := by simp; omega
      have dcn : ¬ (mid : Int) < (m : Int) := by omega
      have Q1 := Lib.hid (HLo2.out hc)
      have Q2 := Lib.hid (HHi2.out hc)
      clear hc
      go_wp2_with fail
      go_meet
      exact ⟨by rw [Q1.out], by rw [Q2.out], rfl⟩
  case rest => as_aux_lemma =>
    obtain ⟨rfl, rfl, rfl⟩ := hcut
    go_wp2_with fail
    go_loopg [20, 21] (hi - lo) (fun kx s20 s21 wr => ∃ (x y : Nat), s20 = .int .i64 x ∧ s21 = .int .i64 y ∧ lo ≤ x ∧ x ≤ y ∧ y ≤ hi ∧ y - x ≤ kx ∧ Aside (SWK enc k w0 blk off d wr) ∧ Hid (bsr p x y = s))
    case atStart => exact ⟨lo, hi, rfl, rfl, by omega, by omega, by omega, by omega, S0, Hss.out.symm⟩
    case round =>
      clear S0
      obtain ⟨x, y, rfl, rfl, hax, hxy, hyb, hkx, S1, HB⟩ := hrel
      by_cases hlt : x < y
      · have hltz : (x : Int) < (y : Int) := by omega
        obtain ⟨h, hh⟩ : ∃ h, h = (x + y) / 2 := ⟨_, rfl⟩
        have hx1 : x ≤ h := by omega
        have hx2 : h < y := by omega
        obtain ⟨pc, hpc⟩ : ∃ pc, pc = mid + m - 1 - h := ⟨_, rfl⟩
        have hhz : ((x : Int) + (y : Int)) / 2 = (h : Int) := by omega
        have l1 := fun n' os' => S1.out.ld R (by omega) P pc (by omega) n' os'
        have l2 := fun n' os' => S1.out.ld R (by omega) P h (by omega) n' os'
        have hcg := fun n' os' => S1.out.cmp HC.out (by omega) d[pc]! d[h]! n' os'
        have hpe : p h = !decide (cf d[pc]! d[h]! < 0) := by rw [HP.out, hpc]; rfl
        have b1 : (h : Int) < (d.size : Int) := by omega
        have b3 : (0 : Int) ≤ (h : Int) := by omega
        have c5 : (mid : Int) + (m : Int) - 1 - (h : Int) = (pc : Int) := by omega
        have c4 : IntKind.i64.wrap ((mid : Int) + (m : Int) - 1 - (h : Int)) = (pc : Int) := by rw [IntKind.wrap_i64]; omega
        have c6 : IntKind.i64.wrap (pc : Int) = (pc : Int) := by rw [IntKind.wrap_i64]; omega
        have c1 : (pc : Int) < (d.size : Int) := by omega
        have c2 : (0 : Int) ≤ (pc : Int) := by omega
        have HPe := Lib.hid hpe
        have HHz := Lib.hid hhz
        have HH := Lib.hid hh
        clear hpe hhz hh hpc
        generalize d[h]! = xh at l2 hcg HPe
        generalize d[pc]! = xa at l1 hcg HPe
        go_wp2_with fail
        rw [HHz.out]
        by_cases hlv : cf xa xh < 0
        · as_aux_lemma =>
          have hd : decide (cf xa xh < 0) = true := decide_eq_true hlv
          go_wp2_with fail
          go_quiet_grown (first | (go_at_fn g; refine Calls.grown_of (hcg _ _)))
          clear l1 l2 hcg c4 c5 c6
          have S2 : Aside (SWK enc k w0 blk off d (grow (wr.drewN nq) osq)) := S1.out.grown nq osq
          generalize grow (wr.drewN nq) osq = w2 at S2 ⊢
          clear S1
          go_wp2_with fail
          go_roundg (h - x)
          case measure => omega
          case rel => exact ⟨x, h, rfl, rfl, by omega, by omega, by omega, Nat.le_refl _, S2, by show _ = _; rw [HH.out, bsr_no hlt (by rw [← HH.out, HPe.out, decide_eq_true hlv]; rfl)]; exact HB.out⟩
        · as_aux_lemma =>
          have hd : decide (cf xa xh < 0) = false := decide_eq_false hlv
          go_wp2_with fail
          go_quiet_grown (first | (go_at_fn g; refine Calls.grown_of (hcg _ _)))
          clear l1 l2 hcg c4 c5 c6
          have S2 : Aside (SWK enc k w0 blk off d (grow (wr.drewN nq) osq)) := S1.out.grown nq osq
          generalize grow (wr.drewN nq) osq = w2 at S2 ⊢
          clear S1
          go_wp2_with fail
          go_roundg (y - (h + 1))
          case measure => omega
          case rel => exact ⟨h + 1, y, by go_num, rfl, by omega, by omega, by omega, Nat.le_refl _, S2, by show _ = _; rw [HH.out, bsr_yes hlt (by rw [← HH.out, HPe.out, decide_eq_false (show ¬ cf xa xh < 0 by omega)]; rfl)]; exact HB.out⟩
      · as_aux_lemma =>
        have hltz : ¬ (x : Int) < (y : Int) := by omega
        have hxs : x = s := by rw [← HB.out, bsr_end hlt]
        subst hxs
        clear HB Hss HP HLo1 HLo2 HHi1 HHi2 HMz hlt
        obtain ⟨t1, ht1⟩ : ∃ t1, t1 = (decide (x < m) && decide (m < e)) := ⟨_, rfl⟩
        obtain ⟨t2, ht2⟩ : ∃ t2, t2 = (decide (a < x) && decide (x < mid)) := ⟨_, rfl⟩
        obtain ⟨t3', ht3⟩ : ∃ t3', t3' = (decide (mid < e) && decide (e < b)) := ⟨_, rfl⟩
        have HT1 := Lib.hid ht1
        have HT2 := Lib.hid ht2
        have HT3 := Lib.hid ht3
        clear ht1 ht2 ht3
        go_upto_region 39 with (fail)
        rw [HEz.out]
        go_cut [185] (fun sc wc => sc = .bool t1 ∧ wc = wr)
        case first => as_aux_lemma =>
          by_cases q1 : x < m
          · have q1z : (x : Int) < (m : Int) := by omega
            by_cases q2 : m < e
            · have q2z : (m : Int) < (e : Int) := by omega
              have ht : Hid (t1 = true) := by show _ = _; rw [HT1.out]; simp [q1, q2]
              go_wp2_with fail
              go_meet
              exact ⟨by rw [ht.out], rfl⟩
            · have q2z : ¬ (m : Int) < (e : Int) := by omega
              have ht : Hid (t1 = false) := by show _ = _; rw [HT1.out]; simp [q1, q2]
              go_wp2_with fail
              go_meet
              exact ⟨by rw [ht.out], rfl⟩
          · have q1z : ¬ (x : Int) < (m : Int) := by omega
            have ht : Hid (t1 = false) := by show _ = _; rw [HT1.out]; simp [q1]
            go_wp2_with fail
            go_meet
            exact ⟨by rw [ht.out], rfl⟩
        case rest => as_aux_lemma =>
          obtain ⟨rfl, rfl⟩ := hcut
          go_upto_if 185 with (fail)
          go_cut [20] (fun s20 wd => s20 = .int .i64 x ∧ Aside (SWK enc k w0 blk off (rotS d x m e) wd))
          case first => as_aux_lemma =>
            cases t1 with
            | true =>
              have hq := HT1.out.symm
              rw [Bool.and_eq_true, decide_eq_true_iff, decide_eq_true_iff] at hq
              have PR' := Lib.hid (PR.out wc S1.out hq.1 hq.2)
              clear hq
              go_wp2_with fail
              refine (PR'.out).mono ?_
              rintro e' w2 ⟨rfl, hS2⟩
              go_wp2_with fail
              go_meet
              exact ⟨rfl, hS2⟩
            | false =>
              have hq := HT1.out.symm
              rw [Bool.and_eq_false_iff, decide_eq_false_iff_not, decide_eq_false_iff_not] at hq
              have hrot : Hid (rotS d x m e = d) := by
                show _ = _
                rcases hq with hq | hq
                · exact rot_left (by omega) me (by omega)
                · exact rot_right (by omega) sm (by omega)
              clear hq
              go_wp2_with fail
              go_meet
              exact ⟨rfl, by show SWK enc k w0 blk off (rotS d x m e) _; rw [hrot.out]; exact S1.out⟩
          case rest => as_aux_lemma =>
            obtain ⟨rfl, S2⟩ := hcut
            clear S1 HT1 PR
            have hdz : (rotS d x m e).size = d.size := size_rotS _ _ _ _
            obtain ⟨D, hD⟩ : ∃ D, D = rotS d x m e := ⟨_, rfl⟩
            have hs1 := HSt.out.s1
            have hs2 := HSt.out.s2
            have hs3 := HSt.out.s3
            have hs4 := HSt.out.s4
            have hg1 := HSt.out.g1
            have hg2 := HSt.out.g2
            have hcr := HSt.out.cross
            have hpm := HSt.out.perm
            rw [← HM.out] at hs2 hs3 hg1 hg2 hcr
            rw [← hD] at hs1 hs2 hs3 hs4 hg1 hg2 hcr hpm hdz S2
            have hxm : x ≤ mid := by have := HSE.out; omega
            have hme : mid ≤ e := by have := HSE.out; omega
            have I1 := Lib.hid (fun W (hW : SWK enc k w0 blk off D W) (q1 : a < x) (q2 : x < mid) => IH.out a x mid D W hdz (by omega) hW q1 q2 (by omega) hs1 hs2 hg1)
            have I2 : Hid (∀ (d2 : Array α) (W : World), PermIn a mid D d2 → SWK enc k w0 blk off d2 W → mid < e → e < b → Calls P 82 #[.slice (some ⟨blk, off, none⟩) d.size cap, .int .i64 mid, .int .i64 e, .int .i64 b, .func (.func g) #[] cb] W (Merged enc k w0 blk off lx d2 mid b)) := fun d2 W hp hW q1 q2 => by
              have hsame : ∀ i, mid ≤ i → d2[i]! = D[i]! := fun i hi => hp.2.1 i (.inr hi)
              exact IH.out mid e b d2 W (by rw [hp.1, hdz]) (by omega) hW q1 q2 hb (fun i j h1 h2 h3 => by rw [hsame i h1, hsame j (by omega)]; exact hs3 i j h1 h2 h3) (fun i j h1 h2 h3 => by rw [hsame i (by omega), hsame j (by omega)]; exact hs4 i j h1 h2 h3) (fun i j h1 h2 h3 h4 => by rw [hsame i h1, hsame j (by omega)]; exact hg2 i j h1 h2 h3 h4)
            have I3 : Hid ((a = x ∨ x = mid) → SortedIn lx a mid D) := fun h => by
              rcases h with h | h
              · rw [h]; exact hs2
              · rw [← h]; exact hs1
            have I4 : Hid (∀ d2 : Array α, PermIn a mid D d2 → (mid = e ∨ e = b) → SortedIn lx mid b d2) := fun d2 hp h => by
              have hsame : ∀ i, mid ≤ i → d2[i]! = D[i]! := fun i hi => hp.2.1 i (.inr hi)
              rcases h with h | h
              · exact fun i j h1 h2 h3 => by rw [hsame i h1, hsame j (by omega)]; exact hs4 i j (by omega) h2 h3
              · exact fun i j h1 h2 h3 => by rw [hsame i h1, hsame j (by omega)]; exact hs3 i j h1 h2 (by omega)
            have I5 : Hid (∀ d2 d3 : Array α, PermIn a mid D d2 → PermIn mid b d2 d3 → SortedIn lx a mid d2 → SortedIn lx mid b d3 → PermIn a b d d3 ∧ SortedIn lx a b d3) := fun d2 d3 p2 p3 q2 q3 => merge_end hb (by omega) (by omega) hpm p2 p3 q2 q3 hcr
            clear hs1 hs2 hs3 hs4 hg1 hg2 hcr hpm hD HSt HSE HM IH
            go_upto_region 41 with (fail)
            go_cut [199] (fun sc wq => sc = .bool t2 ∧ wq = wc)
            case first => as_aux_lemma =>
              by_cases q1 : a < x
              · have q1z : (a : Int) < (x : Int) := by omega
                by_cases q2 : x < mid
                · have q2z : (x : Int) < (mid : Int) := by omega
                  have ht : Hid (t2 = true) := by show _ = _; rw [HT2.out]; simp [q1, q2]
                  go_wp2_with fail
                  go_meet
                  exact ⟨by rw [ht.out], rfl⟩
                · have q2z : ¬ (x : Int) < (mid : Int) := by omega
                  have ht : Hid (t2 = false) := by show _ = _; rw [HT2.out]; simp [q1, q2]
                  go_wp2_with fail
                  go_meet
                  exact ⟨by rw [ht.out], rfl⟩
              · have q1z : ¬ (a : Int) < (x : Int) := by omega
                have ht : Hid (t2 = false) := by show _ = _; rw [HT2.out]; simp [q1]
                go_wp2_with fail
                go_meet
                exact ⟨by rw [ht.out], rfl⟩
            case rest => as_aux_lemma =>
              obtain ⟨rfl, rfl⟩ := hcut
              go_upto_if 199 with (fail)
              go_cut [20] (fun s20 wd => s20 = .int .i64 x ∧ ∃ d2 : Array α, Aside (SWK enc k w0 blk off d2 wd) ∧ Hid (PermIn a mid D d2) ∧ Hid (SortedIn lx a mid d2))
              case first => as_aux_lemma =>
                cases t2 with
                | true =>
                  have hq := HT2.out.symm
                  rw [Bool.and_eq_true, decide_eq_true_iff, decide_eq_true_iff] at hq
                  have I1' := Lib.hid (I1.out wc S2.out hq.1 hq.2)
                  unfold Merged at I1'
                  clear hq
                  go_wp2_with fail
                  refine (I1'.out).mono ?_
                  rintro e' w2 ⟨rfl, d2, hS2, hP2, hO2⟩
                  have X1 : Aside (SWK enc k w0 blk off d2 w2) := hS2
                  have X2 := Lib.hid hP2
                  have X3 := Lib.hid hO2
                  clear hS2 hP2 hO2
                  go_wp2_with fail
                  go_meet
                  exact ⟨rfl, d2, X1, X2, X3⟩
                | false =>
                  have hq := HT2.out.symm
                  rw [Bool.and_eq_false_iff, decide_eq_false_iff_not, decide_eq_false_iff_not] at hq
                  have X3 := Lib.hid (I3.out (by omega))
                  clear hq
                  go_wp2_with fail
                  go_meet
                  exact ⟨rfl, D, S2, permIn_refl _ _ _, X3⟩
              case rest => as_aux_lemma =>
                obtain ⟨rfl, d2, X1, X2, X3⟩ := hcut
                clear S2 I1 I3 HT2
                go_upto_region 43 with (fail)
                go_cut [213] (fun sc wq => sc = .bool t3' ∧ wq = wc)
                case first => as_aux_lemma =>
                  by_cases q1 : mid < e
                  · have q1z : (mid : Int) < (e : Int) := by omega
                    by_cases q2 : e < b
                    · have q2z : (e : Int) < (b : Int) := by omega
                      have ht : Hid (t3' = true) := by show _ = _; rw [HT3.out]; simp [q1, q2]
                      go_wp2_with fail
                      go_meet
                      exact ⟨by rw [ht.out], rfl⟩
                    · have q2z : ¬ (e : Int) < (b : Int) := by omega
                      have ht : Hid (t3' = false) := by show _ = _; rw [HT3.out]; simp [q1, q2]
                      go_wp2_with fail
                      go_meet
                      exact ⟨by rw [ht.out], rfl⟩
                  · have q1z : ¬ (mid : Int) < (e : Int) := by omega
                    have ht : Hid (t3' = false) := by show _ = _; rw [HT3.out]; simp [q1]
                    go_wp2_with fail
                    go_meet
                    exact ⟨by rw [ht.out], rfl⟩
                case rest => as_aux_lemma =>
                  obtain ⟨rfl, rfl⟩ := hcut
                  cases t3' with
                  | true =>
                    have hq := HT3.out.symm
                    rw [Bool.and_eq_true, decide_eq_true_iff, decide_eq_true_iff] at hq
                    have I2' := Lib.hid (I2.out d2 wc X2.out X1.out hq.1 hq.2)
                    unfold Merged at I2'
                    clear hq
                    go_wp2_with fail
                    refine (I2'.out).mono ?_
                    rintro e' w2 ⟨rfl, d3, hS3, hP3, hO3⟩
                    have Y1 : Aside (SWK enc k w0 blk off d3 w2) := hS3
                    have Y2 := Lib.hid hP3
                    have Y3 := Lib.hid hO3
                    clear hS3 hP3 hO3
                    go_wp2_with fail
                    go_end0
                    exact ⟨rfl, d3, Y1.out, (I5.out d2 d3 X2.out Y2.out X3.out Y3.out).1, (I5.out d2 d3 X2.out Y2.out X3.out Y3.out).2⟩
                  | false =>
                    have hq := HT3.out.symm
                    rw [Bool.and_eq_false_iff, decide_eq_false_iff_not, decide_eq_false_iff_not] at hq
                    have Y3 := Lib.hid (I4.out d2 X2.out (by omega))
                    clear hq
                    go_wp2_with fail
                    go_end0
                    exact ⟨rfl, d2, X1.out, (I5.out d2 d2 X2.out (permIn_refl _ _ _) X3.out Y3.out).1, (I5.out d2 d2 X2.out (permIn_refl _ _ _) X3.out Y3.out).2⟩

/-- symMergeCmpFunc. -/
theorem sym_any {k : Nat} (L : Lays P k) (enc : α → List Value) (cf : α → α → Int) (lx : α → α → Bool) (hS : SWO lx) (g : Nat) (cb : Array Value) (blk off cap : Nat) (d0 : Array α) (w0 : World)
    (eg : ∀ args w, (callFunc g args).run P w = .ok (.enter g args) w) (hcmp : CmpLays P g cb enc k cf blk off d0.size w0) (R : RowK enc k w0 blk off d0) (hsz : d0.size < 4611686018427387904) :
    ∀ (n a m b : Nat) (d : Array α) (W : World), b - a = n → d.size = d0.size → SWK enc k w0 blk off d W → a < m → m < b → b ≤ d0.size → SortedIn lx a m d → SortedIn lx m b d → Agr (ltOf cf) lx d a m b →
      Calls P 82 #[.slice (some ⟨blk, off, none⟩) d0.size cap, .int .i64 a, .int .i64 m, .int .i64 b, .func (.func g) #[] cb] W (Merged enc k w0 blk off lx d a b) := by
  intro n
  induction n using Nat.strongRecOn with
  | _ n ih =>
    intro a m b d W hn hd hW ham hmb hb h1 h2 hag
    by_cases c1 : m = a + 1
    · subst c1
      have := sym_left L enc cf lx hS g cb blk off cap a b d0 d w0 W eg hcmp R hd.symm hW hmb (by omega) (by omega) h2 hag
      rw [hd] at this
      rw [show (((a + 1 : Nat) : Int)) = (a : Int) + 1 by omega]
      exact this
    · by_cases c2 : b = m + 1
      · subst c2
        have := sym_right L enc cf lx hS g cb blk off cap a m d0 d w0 W eg hcmp R hd.symm hW (by omega) (by omega) (by omega) h1 hag
        rw [hd] at this
        rw [show (((m + 1 : Nat) : Int)) = (m : Int) + 1 by omega]
        exact this
      · have := sym_mid L enc cf lx hS g cb blk off cap a m b d0 d w0 W eg hcmp R hd.symm hW (by omega) (by omega) (by omega) (by omega) h1 h2 hag
          (fun a' m' b' d' W' q1 q2 q3 q4 q5 q6 q7 q8 q9 => by rw [hd]; exact ih (b' - a') (by omega) a' m' b' d' W' rfl (by omega) q3 q4 q5 (by omega) q7 q8 q9)
        rw [hd] at this
        exact this
end Go.Cat.St
