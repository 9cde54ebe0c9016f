/- The walk of the law BitsTakes: it answers true, whatever comes in. No condition. -/
import Derived.Test.YtddmffdnookdlaaBitsAwake
namespace Go.Proofs.Ytddmffdnookdlaa
open Go.RowKit Go.Cat Go.Cat.Bits

theorem box_below (w : World) (o : Obj) (n : Nat) : Below w.heap.size w ((w.alloc o).drewN n) := below_drewN ((Below.refl _ _).alloc (Nat.le_refl _) _) n

theorem rep_len {bs : List UInt8} {n : Int} {p : Nat → Bool} (h : Rep bs n p) (hn : n ≤ 4096) : bs.length ≤ 512 := by rw [h.1]; unfold sz; omega
theorem TakeTo.small {bs : List UInt8} {n k : Int} {o : List UInt8} {g : List Int} {e : Int} (h : TakeTo bs n k o g e) : o.length ≤ 512 ∧ g.length ≤ 4096 := by
  rcases h with ⟨_, rfl, rfl, _⟩ | ⟨_, _, rfl, rfl, _⟩ | ⟨_, _, _, rfl, rfl, _⟩ | ⟨a, _, _, rfl, r, _⟩
  · simp
  · simp
  · simp
  · refine ⟨rep_len r a.hi, ?_⟩
    have := nums_le (fun j => !bit bs j) n.toNat
    have := a.hi
    rw [List.length_take]
    unfold free
    omega
theorem GiveTo.small {bs : List UInt8} {n : Int} {l : List Int} {o : List UInt8} {e : Int} (h : GiveTo bs n l o e) : o.length ≤ 512 := by
  rcases h with ⟨_, rfl, _⟩ | ⟨_, _, rfl, _⟩ | ⟨a, p, _, r, _⟩
  · simp
  · simp
  · exact rep_len r a.hi

theorem takes_walk (A L : Option Addr) (m c k d : Nat) (bs : List UInt8) (l : List Int) (n K : Int) (w : World) (hb : Bytes w A bs) (hm : m = bs.length) (hl : Ints w L l) (hk : k = l.length) :
    Calls Try.prog 3 #[.slice A m c, .agg #[.int .i64 n, .int .i64 K], .slice L k d] w fun e w' => e = .returned (.bool true) ∧ Below w.heap.size w w' := by
  subst hm hk
  by_cases h1 : 600 < bs.length
  · have t1 : (600 : Int) < (bs.length : Int) := by omega
    go_enter Try.func3, Try.ntmps3
    go_wp2_with fail
    go_quiet (fail)
    have hB0 := box_below w (.cells #[.int .i64 n, .int .i64 K] 23) nq
    generalize (w.alloc (.cells #[.int .i64 n, .int .i64 K] 23)).drewN nq = w0 at hB0 ⊢
    go_wp2_with (go_at_call 7; refine (awake_any _).mono ?_; rintro e w1 ⟨rfl, hB1⟩)
    go_ret
    exact ⟨rfl, hB0.trans (hB1.mono hB0.size)⟩
  · have d1 : decide ((600 : Int) < (bs.length : Int)) = false := by simp; omega
    by_cases h2 : 60 < l.length
    · have t2 : (60 : Int) < (l.length : Int) := by omega
      go_enter Try.func3, Try.ntmps3
      go_wp2_with fail
      go_quiet (fail)
      have hB0 := box_below w (.cells #[.int .i64 n, .int .i64 K] 23) nq
      generalize (w.alloc (.cells #[.int .i64 n, .int .i64 K] 23)).drewN nq = w0 at hB0 ⊢
      go_wp2_with (go_at_call 7; refine (awake_any _).mono ?_; rintro e w1 ⟨rfl, hB1⟩)
      go_ret
      exact ⟨rfl, hB0.trans (hB1.mono hB0.size)⟩
    · have d2 : decide ((60 : Int) < (l.length : Int)) = false := by simp; omega
      go_enter Try.func3, Try.ntmps3
      go_wp2_with fail
      go_quiet (fail)
      have hB0 := box_below w (.cells #[.int .i64 n, .int .i64 K] 23) nq
      generalize (w.alloc (.cells #[.int .i64 n, .int .i64 K] 23)).drewN nq = w0 at hB0 ⊢
      go_wp2_with fail
      refine (take_any A bs.length c bs n K w0 (hb.below hB0) rfl (by omega)).mono ?_
      rintro e w1 ⟨x, p, z1, X, cx, P, cp, ht1, rfl, hx1, hp1, hB1⟩
      have hC1 := hB0.trans (hB1.mono hB0.size)
      go_wp2_with fail
      refine (rtake_any A bs.length c bs n K w1 (hb.below hC1) rfl (by omega)).mono ?_
      rintro e w2 ⟨y, q, z2, Y, cy, Q, cq, ht2, rfl, hy2, hq2, hB2⟩
      have hC2 := hC1.trans (hB2.mono hC1.size)
      obtain ⟨rfl, rfl, rfl⟩ := ht1.uniq ht2
      obtain ⟨hxl, hpl⟩ := TakeTo.small ht1
      go_wp2_with fail
      refine (give_any A L bs.length c l.length d bs l n w2 (hb.below hC2) rfl (by omega) (hl.below hC2) rfl (by omega)).mono ?_
      rintro e w3 ⟨u, z3, U, cu, hg3, rfl, hu3, hB3⟩
      have hC3 := hC2.trans (hB3.mono hC2.size)
      go_wp2_with fail
      refine (rgive_any A L bs.length c l.length d bs l n w3 (hb.below hC3) rfl (by omega) (hl.below hC3) rfl (by omega)).mono ?_
      rintro e w4 ⟨v, z4, V, cv, hg4, rfl, hv4, hB4⟩
      have hC4 := hC3.trans (hB4.mono hC3.size)
      obtain ⟨rfl, rfl⟩ := hg3.uniq hg4
      have hul := GiveTo.small hg3
      have hx4 : Bytes w4 X x := ((hx1.below hB2).below hB3).below hB4
      have hp4 : Ints w4 P p := ((hp1.below hB2).below hB3).below hB4
      have hy4 : Bytes w4 Y x := (hy2.below hB3).below hB4
      have hq4 : Ints w4 Q p := (hq2.below hB3).below hB4
      have hu4 : Bytes w4 U u := hu3.below hB4
      clear ht1 ht2 hg3 hg4 hx1 hp1 hy2 hq2 hu3 hB0 hB1 hB2 hB3 hB4 hC1 hC2 hC3
      go_wp2_with fail
      refine (same8_any X Y x.length x.length cx cy x x w4 hx4 hy4 rfl rfl (by omega) (by omega)).mono ?_
      rintro e w' ⟨rfl, k5, rfl⟩
      have E1 : decide (x = x) = true := by simp
      rw [E1]
      go_wp2_with fail
      refine (sameI_any P Q p.length p.length cp cq p p (w4.drewN k5) hp4 hq4 rfl rfl (by omega) (by omega)).mono ?_
      rintro e w' ⟨rfl, k6, rfl⟩
      have E2 : decide (p = p) = true := by simp
      rw [E2]
      have T1 : (z1 == z1) = true := by simp
      go_wp2_with fail
      refine (same8_any U V u.length u.length cu cv u u (w4.drewN (k5 + k6)) hu4 hv4 rfl rfl (by omega) (by omega)).mono ?_
      rintro e w' ⟨rfl, k7, rfl⟩
      have E3 : decide (u = u) = true := by simp
      rw [E3]
      have T2 : (z3 == z3) = true := by simp
      go_wp2_with fail
      refine (awake_any _).mono ?_
      rintro e w5 ⟨rfl, hB5⟩
      go_wp2
      go_ret
      exact ⟨rfl, (below_drewN hC4 _).trans (hB5.mono hC4.size)⟩
end Go.Proofs.Ytddmffdnookdlaa
