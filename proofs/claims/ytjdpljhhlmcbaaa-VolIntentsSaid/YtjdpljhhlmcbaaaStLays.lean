/- What slices.SortStableFunc's functions lean on, of whatever program bears this seat's bodies; the walks of swapRangeCmpFunc and rotateCmpFunc. Condition: fewer than 2^62 elements. -/
import Derived.Test.YtjdpljhhlmcbaaaProg
import Derived.Test.YtjdpljhhlmcbaaaStableV
import Derived.Shelf.SlSortCmp.KitK
import Derived.Sort.WalkB2
import Derived.Sort.WalkB12
import Derived.Deep.LoopGhost
import Derived.Lib.Hide
namespace Go.Cat.St
open Go.Shelf Go.RowKit Go.Lib Go.Sort Go.Proofs

structure Lays (P : Program) (k : Nat) : Prop where
  mixed : P.follows .mixedOrders = true
  fSwr : P.funcs[95]? = some Try.f95
  fRot : P.funcs[91]? = some Try.f91
  fSym : P.funcs[82]? = some Try.f82
  fSta : P.funcs[73]? = some Try.f73
  t0 : P.underlying 0 = some (TypeDesc.tuple #[])
  a0 : ∀ w, (isAgg 0).run P w = .ok false w
  z0 : ∀ w, (Go.sizeOf 0).run P w = .ok 1 w
  v0 : ∀ w, (zeroValue 0).run P w = .ok (Value.tuple #[]) w
  t3 : P.underlying 3 = some (TypeDesc.int IntKind.i64)
  a3 : ∀ w, (isAgg 3).run P w = .ok false w
  z3 : ∀ w, (Go.sizeOf 3).run P w = .ok 1 w
  v3 : ∀ w, (zeroValue 3).run P w = .ok (Value.int IntKind.i64 0) w
  t4 : P.underlying 4 = some (TypeDesc.bool)
  a4 : ∀ w, (isAgg 4).run P w = .ok false w
  z4 : ∀ w, (Go.sizeOf 4).run P w = .ok 1 w
  v4 : ∀ w, (zeroValue 4).run P w = .ok (Value.bool false) w
  t5 : P.underlying 125 = some (TypeDesc.int IntKind.u64)
  a5 : ∀ w, (isAgg 125).run P w = .ok false w
  z5 : ∀ w, (Go.sizeOf 125).run P w = .ok 1 w
  v5 : ∀ w, (zeroValue 125).run P w = .ok (Value.int IntKind.u64 0) w
  t6 : P.underlying 37 = some (TypeDesc.slice 80)
  a6 : ∀ w, (isAgg 37).run P w = .ok false w
  z6 : ∀ w, (Go.sizeOf 37).run P w = .ok 1 w
  v6 : ∀ w, (zeroValue 37).run P w = .ok (Value.slice none 0 0) w
  aE : ∀ w, (isAgg 80).run P w = .ok true w
  zE : ∀ w, (Go.sizeOf 80).run P w = .ok k w

theorem lays : Lays Try.prog 3 := {
  mixed := by kernel_rfl
  fSwr := Try.func95
  fRot := Try.func91
  fSym := Try.func82
  fSta := Try.func73
  t0 := Try.underlying0
  a0 := Try.isAgg0
  z0 := Try.sizeOf0
  v0 := Try.zeroValue0
  t3 := Try.underlying3
  a3 := Try.isAgg3
  z3 := Try.sizeOf3
  v3 := Try.zeroValue3
  t4 := Try.underlying4
  a4 := Try.isAgg4
  z4 := Try.sizeOf4
  v4 := Try.zeroValue4
  t5 := Try.underlying125
  a5 := Try.isAgg125
  z5 := Try.sizeOf125
  v5 := Try.zeroValue125
  t6 := Try.underlying37
  a6 := Try.isAgg37
  z6 := Try.sizeOf37
  v6 := Try.zeroValue37
  aE := Try.isAgg80
  zE := Try.sizeOf80 }

variable {P : Program} {α : Type} [Inhabited α]

set_option maxHeartbeats 4000000 in
set_option maxRecDepth 1000000 in
/-- swapRangeCmpFunc. -/
theorem swr_any {k : Nat} (L : Lays P k) (enc : α → List Value) (fv : Value) (blk off cap a b n : Nat) (d0 d : Array α) (w0 w : World)
    (R : RowK enc k w0 blk off d0) (hs : d0.size = d.size) (S : SWK enc k w0 blk off d w) (hab : a + n ≤ b) (hb : b + n ≤ d.size) (hsz : d.size < 4611686018427387904) :
    Calls P 95 #[.slice (some ⟨blk, off, none⟩) d.size cap, .int .i64 a, .int .i64 b, .int .i64 n, fv] w fun e w' => e = .returned (.tuple #[]) ∧ SWK enc k w0 blk off (swR d a b n) w' := by
  have mixed := L.mixed; have t0 := L.t0; have a0 := L.a0; have z0 := L.z0; have v0 := L.v0; have t3 := L.t3; have a3 := L.a3; have z3 := L.z3; have v3 := L.v3; have t4 := L.t4; have a4 := L.a4; have z4 := L.z4; have v4 := L.v4; have t6 := L.t6; have a6 := L.a6; have z6 := L.z6; have v6 := L.v6; have aE := L.aE; have zE := L.zE
  have FG := L.fSwr
  have S0 : Aside (SWK enc k w0 blk off d w) := S
  clear S
  go_enter FG, Try.ntmps95
  go_wp2
  go_loopg [10] n (fun kx s10 wr => ∃ (i : Nat) (dk : Array α), s10 = .int .i64 i ∧ i ≤ n ∧ n - i ≤ kx ∧ dk.size = d.size ∧ Aside (SWK enc k w0 blk off dk wr) ∧ Hid (dk = swR d a b i))
  case atStart => exact ⟨0, d, rfl, Nat.zero_le _, by omega, rfl, S0, rfl⟩
  case round =>
    clear S0
    obtain ⟨i, dk, rfl, hin, hkx, hds, S1, HD⟩ := hrel
    by_cases hlt : i < n
    · have hltz : (i : Int) < (n : Int) := by omega
      have hai : (a : Int) + (i : Int) = ((a + i : Nat) : Int) := by omega
      have hbi : (b : Int) + (i : Int) = ((b + i : Nat) : Int) := by omega
      go_wp2_with fail
      have ea44 : ((a : Int) + (i : Int)).toNat = a + i := by omega
      have pa44 : (0 : Int) ≤ (a : Int) + (i : Int) := by omega
      have ba44 : (a : Int) + (i : Int) < (d.size : Int) := by omega
      have ra44 : IntKind.i64.wrap ((a : Int) + (i : Int)) = (a : Int) + (i : Int) := by rw [IntKind.wrap_i64]; omega
      have ec44 : ((b : Int) + (i : Int)).toNat = b + i := by omega
      have pc44 : (0 : Int) ≤ (b : Int) + (i : Int) := by omega
      have bc44 : (b : Int) + (i : Int) < (d.size : Int) := by omega
      have rc44 : IntKind.i64.wrap ((b : Int) + (i : Int)) = (b : Int) + (i : Int) := by rw [IntKind.wrap_i64]; omega
      have S2 : Aside (SWK enc k w0 blk off (swp dk (a + i) (b + i)) ((wr.drew.setCells blk (off + (a + i) * k) (enc dk[b + i]!)).setCells blk (off + (b + i) * k) (enc dk[a + i]!))) := S1.out.swapped R (a + i) (b + i) (by omega) (by omega)
      have l44a := S1.out.ld1 R (by omega) P (a + i) (by omega)
      have l44b := S1.out.ld1 R (by omega) P (b + i) (by omega)
      have s44a := S1.out.st1 R (by omega) P (a + i) (by omega) dk[b + i]!
      have s44b := S1.out.st2 R (by omega) P (a + i) (b + i) (by omega) (by omega) dk[b + i]! dk[a + i]!
      have n44a : (enc dk[a + i]!).length = k := R.hk _
      have n44b : (enc dk[b + i]!).length = k := R.hk _
      generalize enc dk[a + i]! = cI44 at S2 l44a s44b n44a
      generalize enc dk[b + i]! = cJ44 at S2 l44b s44a s44b n44b
      clear S1 hai hbi
      go_wp2_with fail
      go_big_region_o
      clear l44a l44b s44a s44b
      generalize (wr.drew.setCells blk (off + (a + i) * k) cJ44).setCells blk (off + (b + i) * k) cI44 = w2 at S2 ⊢
      go_wp2
      go_roundg (n - (i + 1))
      case measure => omega
      case rel => exact ⟨i + 1, swp dk (a + i) (b + i), by go_num, by omega, Nat.le_refl _, by rw [size_swp]; exact hds, S2, by show _ = _; rw [HD.out]; rfl⟩
    · have hltz : ¬ (i : Int) < (n : Int) := by omega
      obtain rfl : i = n := by omega
      go_wp2
      go_end0
      exact ⟨rfl, by rw [← HD.out]; exact S1.out⟩

set_option maxHeartbeats 4000000 in
set_option maxRecDepth 1000000 in
/-- rotateCmpFunc. -/
theorem rot_any {k : Nat} (L : Lays P k) (enc : α → List Value) (fv : Value) (blk off cap a m b : Nat) (d0 d : Array α) (w0 w : World)
    (R : RowK enc k w0 blk off d0) (hs : d0.size = d.size) (S : SWK enc k w0 blk off d w) (ham : a < m) (hmb : m < b) (hb : b ≤ d.size) (hsz : d.size < 4611686018427387904) :
    Calls P 91 #[.slice (some ⟨blk, off, none⟩) d.size cap, .int .i64 a, .int .i64 m, .int .i64 b, fv] w fun e w' => e = .returned (.tuple #[]) ∧ SWK enc k w0 blk off (rotS d a m b) w' := by
  have P1 : Hid (∀ (a b n : Nat) (dk : Array α) (W : World), dk.size = d.size → SWK enc k w0 blk off dk W → a + n ≤ b → b + n ≤ d.size → Calls P 95 #[.slice (some ⟨blk, off, none⟩) d.size cap, .int .i64 a, .int .i64 b, .int .i64 n, fv] W fun e w' => e = .returned (.tuple #[]) ∧ SWK enc k w0 blk off (swR dk a b n) w') := by
    intro a b n dk W hds hS h1 h2
    rw [← hds]
    exact swr_any L enc fv blk off cap a b n d0 dk w0 W R (by rw [hs, hds]) hS h1 (by rw [hds]; exact h2) (by rw [hds]; exact hsz)
  have e95 : ∀ args w, (callFunc 95 args).run P w = .ok (.enter 95 args) w := enters_of L.fSwr (by kernel_rfl) rfl
  have mixed := L.mixed; have t0 := L.t0; have a0 := L.a0; have z0 := L.z0; have v0 := L.v0; have t3 := L.t3; have a3 := L.a3; have z3 := L.z3; have v3 := L.v3; have t4 := L.t4; have a4 := L.a4; have z4 := L.z4; have v4 := L.v4; have t6 := L.t6; have a6 := L.a6; have z6 := L.z6; have v6 := L.v6; have aE := L.aE; have zE := L.zE
  have FG := L.fRot
  have S0 : Aside (SWK enc k w0 blk off d w) := S
  clear S
  have hma : (m : Int) - (a : Int) = ((m - a : Nat) : Int) := by omega
  have hbm : (b : Int) - (m : Int) = ((b - m : Nat) : Int) := by omega
  have HMA := Lib.hid hma
  have HBM := Lib.hid hbm
  clear hma hbm
  go_enter FG, Try.ntmps91
  go_wp2
  rw [HMA.out, HBM.out]
  go_loopg [10, 11] (b - a) (fun kx s10 s11 wr => ∃ (i j : Nat) (dk : Array α), s10 = .int .i64 i ∧ s11 = .int .i64 j ∧ 0 < i ∧ 0 < j ∧ i ≤ m ∧ m + j ≤ d.size ∧ i + j ≤ kx ∧ dk.size = d.size ∧ Aside (SWK enc k w0 blk off dk wr) ∧ Hid (rotS dk (m - i) m (m + j) = rotS d a m b))
  case atStart => exact ⟨m - a, b - m, d, rfl, rfl, by omega, by omega, by omega, by omega, by omega, rfl, S0, by show _ = _; rw [show m - (m - a) = a by omega, show m + (b - m) = b by omega]⟩
  case round =>
    clear S0 HMA HBM
    obtain ⟨i, j, dk, rfl, rfl, hi0, hj0, him, hmj, hkx, hds, S1, HR⟩ := hrel
    have hmi : (m : Int) - (i : Int) = ((m - i : Nat) : Int) := by omega
    have hij : (i : Int) - (j : Int) = (i : Int) - (j : Int) := rfl
    by_cases hne : i = j
    · subst hne
      have hneq : ((i : Int) != (i : Int)) = false := by simp
      have P1' := Lib.hid (P1.out (m - i) m i dk wr hds S1.out (by omega) (by omega))
      rw [rot_even him (by omega)] at P1'
      rw [HR.out] at P1'
      rw [← hmi] at P1'
      clear hmi hij S1 HR
      go_wp2_with fail
      refine (P1'.out).mono ?_
      rintro e w' ⟨rfl, hS⟩
      go_wp2
      go_end0
      exact ⟨rfl, hS⟩
    · have hneq : ((i : Int) != (j : Int)) = true := by rw [bne_iff_ne]; omega
      by_cases hgt : j < i
      · have hgtz : decide ((j : Int) < (i : Int)) = true := by simp; omega
        have P1' := Lib.hid (P1.out (m - i) m j dk wr hds S1.out (by omega) (by omega))
        rw [← hmi] at P1'
        have hij2 : Hid ((i : Int) - (j : Int) = ((i - j : Nat) : Int)) := by show _ = _; omega
        have HR2 : Hid (rotS (swR dk (m - i) m j) (m - (i - j)) m (m + j) = rotS d a m b) := by show _ = _; rw [rot_big hgt him (by omega)]; exact HR.out
        clear hmi hij S1 HR
        go_wp2_with fail
        refine (P1'.out).mono ?_
        rintro e w' ⟨rfl, hS⟩
        go_wp2
        go_roundg (i - j + j)
        case measure => omega
        case rel => exact ⟨i - j, j, swR dk (m - i) m j, by rw [hij2.out], rfl, by omega, hj0, by omega, hmj, Nat.le_refl _, by rw [size_swR]; exact hds, hS, HR2.out⟩
      · have hgtz : decide ((j : Int) < (i : Int)) = false := by simp; omega
        have P1' := Lib.hid (P1.out (m - i) (m + j - i) i dk wr hds S1.out (by omega) (by omega))
        have hmj2 : ((m + j - i : Nat) : Int) = (m : Int) + (j : Int) - (i : Int) := by omega
        rw [hmj2, ← hmi] at P1'
        have hij2 : Hid ((j : Int) - (i : Int) = ((j - i : Nat) : Int)) := by show _ = _; omega
        have HR2 : Hid (rotS (swR dk (m - i) (m + j - i) i) (m - i) m (m + (j - i)) = rotS d a m b) := by show _ = _; rw [rot_small (by omega) him (by omega)]; exact HR.out
        clear hmi hij S1 HR hmj2
        go_wp2_with fail
        refine (P1'.out).mono ?_
        rintro e w' ⟨rfl, hS⟩
        go_wp2
        go_roundg (i + (j - i))
        case measure => omega
        case rel => exact ⟨i, j - i, swR dk (m - i) (m + j - i) i, rfl, by rw [hij2.out], hi0, by omega, him, by omega, Nat.le_refl _, by rw [size_swR]; exact hds, hS, HR2.out⟩
end Go.Cat.St
