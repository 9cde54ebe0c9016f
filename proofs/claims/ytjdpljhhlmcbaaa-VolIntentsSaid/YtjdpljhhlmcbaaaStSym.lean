/- The walk of symMergeCmpFunc: two sorted halves become one sorted row. Condition: fewer than 2^62 elements; the right half's elements are less than the left half's by the one order just if by the other one. -/
import Derived.Test.YtjdpljhhlmcbaaaStLays
namespace Go.Cat.St
open Go.Shelf Go.RowKit Go.Lib Go.Sort Go.Proofs
variable {P : Program} {α : Type} [Inhabited α]

theorem bsr_yes {p : Nat → Bool} {x y : Nat} (h : x < y) (hp : p ((x + y) / 2) = true) : bsr p ((x + y) / 2 + 1) y = bsr p x y := by
  conv => rhs; rw [bsr]
  rw [if_pos h, if_pos hp]
theorem bsr_no {p : Nat → Bool} {x y : Nat} (h : x < y) (hp : p ((x + y) / 2) = false) : bsr p x ((x + y) / 2) = bsr p x y := by
  conv => rhs; rw [bsr]
  rw [if_pos h, if_neg (by rw [hp]; simp)]
theorem bsr_end {p : Nat → Bool} {x y : Nat} (h : ¬ x < y) : bsr p x y = x := by rw [bsr, if_neg h]
theorem rot_none {d : Array α} {a : Nat} (hs : a + 1 ≤ d.size) : rotS d a (a + 1) (a + 1 + 0) = d := rot_right rfl (by omega) hs
theorem rot_none' {d : Array α} {m : Nat} (hs : m + 1 ≤ d.size) : rotS d (m - 0) m (m + 1) = d := rot_left (by omega) (by omega) hs

/-- What the merge leaves. -/
def Merged (enc : α → List Value) (k : Nat) (w0 : World) (blk off : Nat) (lx : α → α → Bool) (d : Array α) (a b : Nat) (e : Ending) (w' : World) : Prop :=
  e = .returned (.tuple #[]) ∧ ∃ d', SWK enc k w0 blk off d' w' ∧ PermIn a b d d' ∧ SortedIn lx a b d'

set_option maxHeartbeats 16000000 in
set_option maxRecDepth 1000000 in
theorem sym_left {k : Nat} (L : Lays P k) (enc : α → List Value) (cf : α → α → Int) (lx : α → α → Bool) (hS : SWO lx) (g : Nat) (cb : Array Value) (blk off cap a b : Nat) (d0 d : Array α) (w0 w : World)
    (eg : ∀ args w, (callFunc g args).run P w = .ok (.enter g args) w) (hcmp : CmpLays P g cb enc k cf blk off d0.size w0) (R : RowK enc k w0 blk off d0) (hs : d0.size = d.size) (S : SWK enc k w0 blk off d w)
    (hm : a + 1 < b) (hb : b ≤ d.size) (hsz : d.size < 4611686018427387904) (h2 : SortedIn lx (a + 1) b d) (hag : Agr (ltOf cf) lx d a (a + 1) b) :
    Calls P 82 #[.slice (some ⟨blk, off, none⟩) d.size cap, .int .i64 a, .int .i64 ((a : Int) + 1), .int .i64 b, .func (.func g) #[] cb] w (Merged enc k w0 blk off lx d a b) := by
  obtain ⟨p, hp⟩ : ∃ p : Nat → Bool, p = (fun h => ltOf cf d[h]! d[a]!) := ⟨_, rfl⟩
  obtain ⟨s, hss⟩ : ∃ s, s = bsr p (a + 1) b := ⟨_, rfl⟩
  obtain ⟨q1, q2, q3, q4⟩ := merge_one (lt := ltOf cf) (s := s) hS hb hm h2 hag (by rw [hss, hp])
  have HP := Lib.hid hp
  have Hss := Lib.hid hss
  have Q3 := Lib.hid q3
  have Q4 := Lib.hid q4
  have HC : Aside _ := hcmp
  have mixed := L.mixed; have t0 := L.t0; have a0 := L.a0; have z0 := L.z0; have v0 := L.v0; have t3 := L.t3; have a3 := L.a3; have z3 := L.z3; have v3 := L.v3; have t4 := L.t4; have a4 := L.a4; have z4 := L.z4; have v4 := L.v4; have t5 := L.t5; have a5 := L.a5; have z5 := L.z5; have v5 := L.v5; have t6 := L.t6; have a6 := L.a6; have z6 := L.z6; have v6 := L.v6; have aE := L.aE; have zE := L.zE
  have FG := L.fSym
  have S0 : Aside (SWK enc k w0 blk off d w) := S
  clear S hp hss q3 q4 hcmp h2 hag
  have d1 : ((a : Int) + 1 - (a : Int) == 1) = true := by rw [beq_iff_eq]; omega
  go_enter FG, Try.ntmps82
  go_wp2_with fail
  go_loopg [10, 11] (b - (a + 1)) (fun kx s10 s11 wr => ∃ (x y : Nat), s10 = .int .i64 x ∧ s11 = .int .i64 y ∧ a + 1 ≤ x ∧ x ≤ y ∧ y ≤ b ∧ y - x ≤ kx ∧ Aside (SWK enc k w0 blk off d wr) ∧ Hid (bsr p x y = s))
  case atStart => exact ⟨a + 1, b, by go_num, rfl, by omega, by omega, by omega, by omega, S0, by show _ = _; rw [Hss.out]⟩
  case round =>
    clear S0
    obtain ⟨x, y, rfl, rfl, hax, hxy, hyb, hkx, S1, HB⟩ := hrel
    by_cases hlt : x < y
    · have hltz : (x : Int) < (y : Int) := by omega
      obtain ⟨h, hh⟩ : ∃ h, h = (x + y) / 2 := ⟨_, rfl⟩
      have hx1 : x ≤ h := by omega
      have hx2 : h < y := by omega
      have hhz : ((x : Int) + (y : Int)) / 2 = (h : Int) := by omega
      have l1 := fun n' os' => S1.out.ld R (by omega) P h (by omega) n' os'
      have l2 := fun n' os' => S1.out.ld R (by omega) P a (by omega) n' os'
      have hcg := fun n' os' => S1.out.cmp HC.out (by omega) d[h]! d[a]! n' os'
      have hpe : p h = decide (cf d[h]! d[a]! < 0) := by rw [HP.out]; rfl
      have b1 : (h : Int) < (d.size : Int) := by omega
      have b2 : (a : Int) < (d.size : Int) := by omega
      have b3 : (0 : Int) ≤ (h : Int) := by omega
      have HPe := Lib.hid hpe
      have HHz := Lib.hid hhz
      have HH := Lib.hid hh
      clear hpe hhz hh
      generalize d[h]! = xh at l1 hcg HPe
      generalize d[a]! = xa at l2 hcg HPe
      go_wp2_with fail
      rw [HHz.out]
      by_cases hlv : cf xh xa < 0
      · go_wp2_with fail
        go_quiet_grown (first | (go_at_fn g; refine Calls.grown_of (hcg _ _)))
        clear l1 l2 hcg
        have S2 : Aside (SWK enc k w0 blk off d (grow (wr.drewN nq) osq)) := S1.out.grown nq osq
        generalize grow (wr.drewN nq) osq = w2 at S2 ⊢
        clear S1
        go_wp2_with fail
        go_roundg (y - (h + 1))
        case measure => omega
        case rel => exact ⟨h + 1, y, by go_num, rfl, by omega, by omega, by omega, Nat.le_refl _, S2, by show _ = _; rw [HH.out, bsr_yes hlt (by rw [← HH.out, HPe.out]; exact decide_eq_true hlv)]; exact HB.out⟩
      · go_wp2_with fail
        go_quiet_grown (first | (go_at_fn g; refine Calls.grown_of (hcg _ _)))
        clear l1 l2 hcg
        have S2 : Aside (SWK enc k w0 blk off d (grow (wr.drewN nq) osq)) := S1.out.grown nq osq
        generalize grow (wr.drewN nq) osq = w2 at S2 ⊢
        clear S1
        go_wp2_with fail
        go_roundg (h - x)
        case measure => omega
        case rel => exact ⟨x, h, rfl, rfl, by omega, by omega, by omega, Nat.le_refl _, S2, by show _ = _; rw [HH.out, bsr_no hlt (by rw [← HH.out, HPe.out]; exact decide_eq_false (by omega))]; exact HB.out⟩
    · have hltz : ¬ (x : Int) < (y : Int) := by omega
      have hxs : x = s := by rw [← HB.out, bsr_end hlt]
      subst hxs
      have HR0 : Hid (rotS d a (a + 1) (a + 1 + 0) = d) := rot_none (by omega)
      clear HB Hss HP
      go_wp2_with fail
      go_loopg [13] (x - (a + 1)) (fun kx s13 wr => ∃ (r : Nat) (dk : Array α), s13 = .int .i64 ((a : Int) + (r : Int)) ∧ a + 1 + r ≤ x ∧ x - (a + 1 + r) ≤ kx ∧ dk.size = d.size ∧ Aside (SWK enc k w0 blk off dk wr) ∧ Hid (dk = rotS d a (a + 1) (a + 1 + r)))
      case atStart => exact ⟨0, d, by simp, by omega, by omega, rfl, S1, HR0.out.symm⟩
      case round =>
        clear S1 HR0
        obtain ⟨r, dk, rfl, hr, hkx2, hds, S1, HD⟩ := hrel
        by_cases hlt2 : a + 1 + r < x
        · have hltz2 : (a : Int) + (r : Int) < (x : Int) - 1 := by omega
          go_wp2_with fail
          have ea44 : ((a : Int) + (r : Int)).toNat = a + r := by omega
          have pa44 : (0 : Int) ≤ (a : Int) + (r : Int) := by omega
          have ba44 : (a : Int) + (r : Int) < (d.size : Int) := by omega
          have ra44 : IntKind.i64.wrap ((a : Int) + (r : Int)) = (a : Int) + (r : Int) := by rw [IntKind.wrap_i64]; omega
          have ec44 : ((a : Int) + (r : Int) + 1).toNat = a + r + 1 := by omega
          have pc44 : (0 : Int) ≤ (a : Int) + (r : Int) + 1 := by omega
          have bc44 : (a : Int) + (r : Int) + 1 < (d.size : Int) := by omega
          have rc44 : IntKind.i64.wrap ((a : Int) + (r : Int) + 1) = (a : Int) + (r : Int) + 1 := by rw [IntKind.wrap_i64]; omega
          have S2 : Aside (SWK enc k w0 blk off (swp dk (a + r) (a + r + 1)) ((wr.drew.setCells blk (off + (a + r) * k) (enc dk[a + r + 1]!)).setCells blk (off + (a + r + 1) * k) (enc dk[a + r]!))) := S1.out.swapped R (a + r) (a + r + 1) (by omega) (by omega)
          have l44a := S1.out.ld1 R (by omega) P (a + r) (by omega)
          have l44b := S1.out.ld1 R (by omega) P (a + r + 1) (by omega)
          have s44a := S1.out.st1 R (by omega) P (a + r) (by omega) dk[a + r + 1]!
          have s44b := S1.out.st2 R (by omega) P (a + r) (a + r + 1) (by omega) (by omega) dk[a + r + 1]! dk[a + r]!
          have n44a : (enc dk[a + r]!).length = k := R.hk _
          have n44b : (enc dk[a + r + 1]!).length = k := R.hk _
          have HSw : Hid (swp dk (a + r) (a + r + 1) = rotS d a (a + 1) (a + 1 + (r + 1))) := by show _ = _; rw [HD.out, rot_up (by omega)]; congr 1
          have HSz : Hid ((swp dk (a + r) (a + r + 1)).size = d.size) := by show _ = _; rw [size_swp]; exact hds
          generalize enc dk[a + r]! = cI44 at S2 l44a s44b n44a
          generalize enc dk[a + r + 1]! = cJ44 at S2 l44b s44a s44b n44b
          clear S1
          go_wp2_with fail
          go_big_region_o
          clear l44a l44b s44a s44b
          generalize (wr.drew.setCells blk (off + (a + r) * k) cJ44).setCells blk (off + (a + r + 1) * k) cI44 = w2 at S2 ⊢
          go_wp2
          go_roundg (x - (a + 1 + (r + 1)))
          case measure => omega
          case rel => exact ⟨r + 1, swp dk (a + r) (a + r + 1), by (congr 1 <;> omega), by omega, Nat.le_refl _, HSz.out, S2, HSw.out⟩
        · have hltz2 : ¬ (a : Int) + (r : Int) < (x : Int) - 1 := by omega
          have hrx : a + 1 + r = x := by omega
          go_wp2
          go_end0
          exact ⟨rfl, dk, S1.out, by rw [HD.out, hrx]; exact Q3.out, by rw [HD.out, hrx]; exact Q4.out⟩
set_option maxHeartbeats 16000000 in
set_option maxRecDepth 1000000 in
theorem sym_right {k : Nat} (L : Lays P k) (enc : α → List Value) (cf : α → α → Int) (lx : α → α → Bool) (hS : SWO lx) (g : Nat) (cb : Array Value) (blk off cap a m : Nat) (d0 d : Array α) (w0 w : World)
    (eg : ∀ args w, (callFunc g args).run P w = .ok (.enter g args) w) (hcmp : CmpLays P g cb enc k cf blk off d0.size w0) (R : RowK enc k w0 blk off d0) (hs : d0.size = d.size) (S : SWK enc k w0 blk off d w)
    (hm : a + 1 < m) (hb : m + 1 ≤ d.size) (hsz : d.size < 4611686018427387904) (h1 : SortedIn lx a m d) (hag : Agr (ltOf cf) lx d a m (m + 1)) :
    Calls P 82 #[.slice (some ⟨blk, off, none⟩) d.size cap, .int .i64 a, .int .i64 m, .int .i64 ((m : Int) + 1), .func (.func g) #[] cb] w (Merged enc k w0 blk off lx d a (m + 1)) := by
  obtain ⟨p, hp⟩ : ∃ p : Nat → Bool, p = (fun h => !ltOf cf d[m]! d[h]!) := ⟨_, rfl⟩
  obtain ⟨s, hss⟩ : ∃ s, s = bsr p a m := ⟨_, rfl⟩
  obtain ⟨q1, q2, q3, q4⟩ := merge_last (lt := ltOf cf) (s := s) hS hb (by omega) h1 hag (by rw [hss, hp])
  have HP := Lib.hid hp
  have Hss := Lib.hid hss
  have Q3 := Lib.hid q3
  have Q4 := Lib.hid q4
  have HC : Aside _ := hcmp
  have mixed := L.mixed; have t0 := L.t0; have a0 := L.a0; have z0 := L.z0; have v0 := L.v0; have t3 := L.t3; have a3 := L.a3; have z3 := L.z3; have v3 := L.v3; have t4 := L.t4; have a4 := L.a4; have z4 := L.z4; have v4 := L.v4; have t5 := L.t5; have a5 := L.a5; have z5 := L.z5; have v5 := L.v5; have t6 := L.t6; have a6 := L.a6; have z6 := L.z6; have v6 := L.v6; have aE := L.aE; have zE := L.zE
  have FG := L.fSym
  have S0 : Aside (SWK enc k w0 blk off d w) := S
  clear S hp hss q3 q4 hcmp h1 hag
  have d1 : ((m : Int) - (a : Int) == 1) = false := by rw [beq_eq_false_iff_ne]; omega
  have d2 : ((m : Int) + 1 - (m : Int) == 1) = true := by rw [beq_iff_eq]; omega
  go_enter FG, Try.ntmps82
  go_wp2_with fail
  go_loopg [14, 15] (m - a) (fun kx s10 s11 wr => ∃ (x y : Nat), s10 = .int .i64 x ∧ s11 = .int .i64 y ∧ a ≤ x ∧ x ≤ y ∧ y ≤ m ∧ y - x ≤ kx ∧ Aside (SWK enc k w0 blk off d wr) ∧ Hid (bsr p x y = s))
  case atStart => exact ⟨a, m, rfl, rfl, by omega, by omega, by omega, by omega, S0, by show _ = _; rw [Hss.out]⟩
  case round =>
    clear S0
    obtain ⟨x, y, rfl, rfl, hax, hxy, hyb, hkx, S1, HB⟩ := hrel
    by_cases hlt : x < y
    · have hltz : (x : Int) < (y : Int) := by omega
      obtain ⟨h, hh⟩ : ∃ h, h = (x + y) / 2 := ⟨_, rfl⟩
      have hx1 : x ≤ h := by omega
      have hx2 : h < y := by omega
      have hhz : ((x : Int) + (y : Int)) / 2 = (h : Int) := by omega
      have l1 := fun n' os' => S1.out.ld R (by omega) P h (by omega) n' os'
      have l2 := fun n' os' => S1.out.ld R (by omega) P m (by omega) n' os'
      have hcg := fun n' os' => S1.out.cmp HC.out (by omega) d[m]! d[h]! n' os'
      have hpe : p h = !decide (cf d[m]! d[h]! < 0) := by rw [HP.out]; rfl
      have b1 : (h : Int) < (d.size : Int) := by omega
      have b2 : (m : Int) < (d.size : Int) := by omega
      have b3 : (0 : Int) ≤ (h : Int) := by omega
      have HPe := Lib.hid hpe
      have HHz := Lib.hid hhz
      have HH := Lib.hid hh
      clear hpe hhz hh
      generalize d[h]! = xh at l1 hcg HPe
      generalize d[m]! = xa at l2 hcg HPe
      go_wp2_with fail
      rw [HHz.out]
      by_cases hlv : cf xa xh < 0
      · have hd : decide (cf xa xh < 0) = true := decide_eq_true hlv
        go_wp2_with fail
        go_quiet_grown (first | (go_at_fn g; refine Calls.grown_of (hcg _ _)))
        clear l1 l2 hcg
        have S2 : Aside (SWK enc k w0 blk off d (grow (wr.drewN nq) osq)) := S1.out.grown nq osq
        generalize grow (wr.drewN nq) osq = w2 at S2 ⊢
        clear S1
        go_wp2_with fail
        go_roundg (h - x)
        case measure => omega
        case rel => exact ⟨x, h, rfl, rfl, by omega, by omega, by omega, Nat.le_refl _, S2, by show _ = _; rw [HH.out, bsr_no hlt (by rw [← HH.out, HPe.out, decide_eq_true hlv]; rfl)]; exact HB.out⟩
      · have hd : decide (cf xa xh < 0) = false := decide_eq_false hlv
        go_wp2_with fail
        go_quiet_grown (first | (go_at_fn g; refine Calls.grown_of (hcg _ _)))
        clear l1 l2 hcg
        have S2 : Aside (SWK enc k w0 blk off d (grow (wr.drewN nq) osq)) := S1.out.grown nq osq
        generalize grow (wr.drewN nq) osq = w2 at S2 ⊢
        clear S1
        go_wp2_with fail
        go_roundg (y - (h + 1))
        case measure => omega
        case rel => exact ⟨h + 1, y, by go_num, rfl, by omega, by omega, by omega, Nat.le_refl _, S2, by show _ = _; rw [HH.out, bsr_yes hlt (by rw [← HH.out, HPe.out, decide_eq_false (show ¬ cf xa xh < 0 by omega)]; rfl)]; exact HB.out⟩
    · have hltz : ¬ (x : Int) < (y : Int) := by omega
      have hxs : x = s := by rw [← HB.out, bsr_end hlt]
      subst hxs
      have HR0 : Hid (rotS d (m - 0) m (m + 1) = d) := rot_none' (by omega)
      clear HB Hss HP
      go_wp2_with fail
      go_loopg [17] (m - x) (fun kx s17 wr => ∃ (r : Nat) (dk : Array α), s17 = .int .i64 ((m : Int) - (r : Int)) ∧ x + r ≤ m ∧ m - x - r ≤ kx ∧ dk.size = d.size ∧ Aside (SWK enc k w0 blk off dk wr) ∧ Hid (dk = rotS d (m - r) m (m + 1)))
      case atStart => exact ⟨0, d, by simp, by omega, by omega, rfl, S1, HR0.out.symm⟩
      case round =>
        clear S1 HR0
        obtain ⟨r, dk, rfl, hr, hkx2, hds, S1, HD⟩ := hrel
        by_cases hlt2 : x + r < m
        · have hltz2 : (x : Int) < (m : Int) - (r : Int) := by omega
          have hltz3 : (m : Int) - (r : Int) > (x : Int) := by omega
          go_wp2_with fail
          have ea44 : ((m : Int) - (r : Int)).toNat = m - r := by omega
          have pa44 : (0 : Int) ≤ (m : Int) - (r : Int) := by omega
          have ba44 : (m : Int) - (r : Int) < (d.size : Int) := by omega
          have ra44 : IntKind.i64.wrap ((m : Int) - (r : Int)) = (m : Int) - (r : Int) := by rw [IntKind.wrap_i64]; omega
          have ec44 : ((m : Int) - (r : Int) - 1).toNat = m - r - 1 := by omega
          have pc44 : (0 : Int) ≤ (m : Int) - (r : Int) - 1 := by omega
          have pc45 : (1 : Int) ≤ (m : Int) - (r : Int) := by omega
          have bc44 : (m : Int) - (r : Int) - 1 < (d.size : Int) := by omega
          have rc44 : IntKind.i64.wrap ((m : Int) - (r : Int) - 1) = (m : Int) - (r : Int) - 1 := by rw [IntKind.wrap_i64]; omega
          have S2 : Aside (SWK enc k w0 blk off (swp dk (m - r) (m - r - 1)) ((wr.drew.setCells blk (off + (m - r) * k) (enc dk[m - r - 1]!)).setCells blk (off + (m - r - 1) * k) (enc dk[m - r]!))) := S1.out.swapped R (m - r) (m - r - 1) (by omega) (by omega)
          have l44a := S1.out.ld1 R (by omega) P (m - r) (by omega)
          have l44b := S1.out.ld1 R (by omega) P (m - r - 1) (by omega)
          have s44a := S1.out.st1 R (by omega) P (m - r) (by omega) dk[m - r - 1]!
          have s44b := S1.out.st2 R (by omega) P (m - r) (m - r - 1) (by omega) (by omega) dk[m - r - 1]! dk[m - r]!
          have n44a : (enc dk[m - r]!).length = k := R.hk _
          have n44b : (enc dk[m - r - 1]!).length = k := R.hk _
          have HSw : Hid (swp dk (m - r) (m - r - 1) = rotS d (m - (r + 1)) m (m + 1)) := by show _ = _; rw [HD.out, rot_down (by omega) (by omega)]
          have HSz : Hid ((swp dk (m - r) (m - r - 1)).size = d.size) := by show _ = _; rw [size_swp]; exact hds
          generalize enc dk[m - r]! = cI44 at S2 l44a s44b n44a
          generalize enc dk[m - r - 1]! = cJ44 at S2 l44b s44a s44b n44b
          obtain ⟨mr, hmr⟩ : ∃ mr, mr = m - r := ⟨_, rfl⟩
          rw [← hmr] at S2 l44a l44b s44a s44b ea44 ec44 HSw HSz
          have HMr := Lib.hid hmr
          clear S1 hmr
          go_wp2_with fail
          go_big_region_o
          clear l44a l44b s44a s44b
          generalize (wr.drew.setCells blk (off + mr * k) cJ44).setCells blk (off + (mr - 1) * k) cI44 = w2 at S2 ⊢
          rw [HMr.out] at S2 HSw HSz
          go_wp2
          go_roundg (m - x - (r + 1))
          case measure => omega
          case rel => exact ⟨r + 1, swp dk (m - r) (m - r - 1), by (congr 1 <;> omega), by omega, Nat.le_refl _, HSz.out, S2, HSw.out⟩
        · have hltz2 : ¬ (x : Int) < (m : Int) - (r : Int) := by omega
          have hrx : m - r = x := by omega
          go_wp2
          go_end0
          exact ⟨rfl, dk, S1.out, by rw [HD.out, hrx]; exact Q3.out, by rw [HD.out, hrx]; exact Q4.out⟩
end Go.Cat.St
