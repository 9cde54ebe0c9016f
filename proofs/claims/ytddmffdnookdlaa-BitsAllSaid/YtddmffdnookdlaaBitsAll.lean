/- The walk of the law BitsAll: it answers true, whatever comes in. No condition. -/
import Derived.Test.YtddmffdnookdlaaBitsAre
import Derived.Test.YtddmffdnookdlaaBitsBackPure
namespace Go.Cat.Bits
theorem give_all {x y : List UInt8} {n e : Int} (hx : FitsP x n) (h : GiveTo x n (had x n) y e) : e = 0 ∧ had y n = [] ∧ y.length ≤ 512 := by
  have hmem : ∀ z ∈ had x n, 0 ≤ z ∧ z < n ∧ bit x z.toNat = true := by
    intro z hz
    rw [had_yes hx] at hz
    obtain ⟨j, rfl, h1, h2⟩ := mem_nums.1 hz
    exact ⟨by omega, by omega, by simpa using h2⟩
  obtain ⟨p', hp', hj⟩ := give_back (n := n) (had x n) (bit x) hmem (by rw [had_yes hx]; exact nums_nodup _ _)
  rcases h with ⟨a, _, _⟩ | ⟨_, b, _, _⟩ | ⟨_, q, b, r, he⟩
  · exact absurd hx a
  · rw [hp'] at b; cases b
  · rw [hp'] at b; simp only [Prod.mk.injEq, Option.some.injEq, and_true] at b; subst b
    have hz : ∀ j, j < n.toNat → bit y j = false := by
      intro j hjn
      rw [r.bit_lt hjn, hj]
      cases hb : bit x j
      · rfl
      · have : (j : Int) ∈ had x n := by rw [had_yes hx, mem_nums]; exact ⟨j, rfl, hjn, hb⟩
        simp [this]
    refine ⟨he, ?_, ?_⟩
    · rw [had_yes (r.fits hx.lo hx.hi), nums_congr (q := fun _ => false) hz]
      simp [nums]
    · rw [r.1]; have := hx.hi; unfold sz; omega
end Go.Cat.Bits
namespace Go.Proofs.Ytddmffdnookdlaa
open Go.RowKit Go.Cat Go.Cat.Bits

set_option maxRecDepth 100000 in
theorem all_walk (A : Option Addr) (m c : Nat) (bs : List UInt8) (n : Int) (w : World) (hb : Bytes w A bs) (hm : m = bs.length) :
    Calls Try.prog 5 #[.slice A m c, .int .i64 n] w fun e w' => e = .returned (.bool true) ∧ Below w.heap.size w w' := by
  subst hm
  by_cases h1 : 600 < bs.length
  · have t1 : (600 : Int) < (bs.length : Int) := by omega
    go_enter Try.func5, Try.ntmps5
    go_wp2_with (go_at_call 7; refine (awake_any _).mono ?_; rintro e w1 ⟨rfl, hB1⟩)
    go_ret
    exact ⟨rfl, hB1⟩
  · have d1 : decide ((600 : Int) < (bs.length : Int)) = false := by simp; omega
    by_cases hf : FitsP bs n
    · have hlo := hf.lo
      have hhi := hf.hi
      have hadd := nums_add (bit bs) n.toNat
      have hle := nums_le (bit bs) n.toNat
      have hhad := had_yes hf
      have hHl := had_le bs n
      obtain ⟨K, hK⟩ : ∃ K : Nat, n - ((had bs n).length : Int) = (K : Int) := ⟨n.toNat - (had bs n).length, by rw [hhad]; omega⟩
      have hfr : (free bs n).length = K := by unfold free; rw [hhad] at hK; omega
      have HK := Lib.hid hK
      have HFr := Lib.hid hfr
      clear hadd hle hhad hK hfr
      go_enter Try.func5, Try.ntmps5
      go_wp2_with (go_at_call 17; refine (rfits_yes hb rfl (by omega) hf).mono ?_; rintro e w' ⟨rfl, rfl⟩)
      refine (rlist_any A bs.length c bs n w hb rfl (by omega)).mono ?_
      rintro e w1 ⟨v1, rfl, ho1, hB1⟩
      obtain ⟨A1, c1, rfl, _⟩ := own_form ho1
      have hb1 := hb.below hB1
      clear ho1
      go_wp2_with fail
      rw [HK.out]
      refine (take_any A bs.length c bs n (K : Int) w1 hb1 rfl (by omega)).mono ?_
      rintro e w2 ⟨x, l, z, X, cx, L, cl, ht, rfl, hx2, hl2, hB2⟩
      have hC2 := hB1.trans (hB2.mono hB1.size)
      have hb2 := hb.below hC2
      obtain ⟨hxl, hll⟩ := TakeTo.small ht
      have hz : z = 0 := by
        have := HFr.out
        rcases ht with ⟨a, _⟩ | ⟨_, b, _⟩ | ⟨_, _, b, _⟩ | ⟨_, _, _, _, _, h⟩
        · exact absurd hf a
        · omega
        · omega
        · exact h
      obtain ⟨K', hKK, hK', took⟩ := ht.ok hz
      have hkk : K' = K := by omega
      subst hkk
      have ez : (z == 0) = true := by simp [hz]
      have elen : ((l.length : Int) == (K' : Int)) = true := by rw [took.len]; simp
      have HTk := Lib.hid took
      clear hKK ht hz took hl2 hB1 hB2
      go_wp2_with fail
      refine (take_any A bs.length c bs n _ w2 hb2 rfl (by omega)).mono ?_
      rintro e w3 ⟨x', l', z', X', cx', L', cl', ht', rfl, _, _, hB3⟩
      have hC3 := hC2.trans (hB3.mono hC2.size)
      have hz' : z' = 16 := by
        have := HFr.out
        rcases ht' with ⟨a, _⟩ | ⟨_, b, _⟩ | ⟨_, _, _, _, _, h⟩ | ⟨_, _, b, _⟩
        · exact absurd hf a
        · omega
        · exact h
        · omega
      have ez' : (z' == 16) = true := by simp [hz']
      have hx3 := hx2.below hB3
      clear ht' hz' hB3 hx2
      have hxf : FitsP x n := HTk.out.rep.fits hlo hhi
      have hHx := had_le x n
      go_wp2_with fail
      refine (list_any X x.length cx x n w3 hx3 rfl (by omega)).mono ?_
      rintro e w4 ⟨v4, rfl, ho4, hB4⟩
      obtain ⟨A4, c4, rfl, hs4⟩ := own_form ho4
      have hC4 := hC3.trans (hB4.mono hC3.size)
      have hx4 := hx3.below hB4
      clear ho4 hB4 hx3
      go_wp2_with fail
      refine (give_any X A4 x.length cx (had x n).length c4 x (had x n) n w4 hx4 rfl (by omega) hs4 rfl (by omega)).mono ?_
      rintro e w5 ⟨y, zg, Y, cy, hg, rfl, hy5, hB5⟩
      have hC5 := hC4.trans (hB5.mono hC4.size)
      have hx5 := hx4.below hB5
      obtain ⟨rfl, hy0, hyl⟩ := give_all hxf hg
      have hmany := HTk.out.many
      have e6 : (((had x n).length : Int) == n) = true := by rw [beq_iff_eq, hmany]; have := HK.out; omega
      have HY := Lib.hid hy0
      clear hg hB5 hx4 hs4 hmany hy0
      go_wp2_with fail
      refine (count_any X x.length cx x n w5 hx5 rfl (by omega)).mono ?_
      rintro e w' ⟨rfl, rfl⟩
      have hcy := count_any Y y.length cy y n w5 hy5 rfl (by omega)
      rw [HY.out] at hcy
      have HCy := Lib.hid hcy
      clear hcy
      go_wp2_with (first
        | (go_at_call 16; refine (HCy.out).mono ?_; rintro e w' ⟨rfl, rfl⟩)
        | (go_at_call 7; refine (awake_any _).mono ?_; rintro e w7 ⟨rfl, hB7⟩))
      go_ret
      exact ⟨rfl, hC5.trans (hB7.mono hC5.size)⟩
    · go_enter Try.func5, Try.ntmps5
      go_wp2_with (first
        | (go_at_call 17; refine (rfits_not hb rfl (by omega) hf).mono ?_; rintro e w' ⟨rfl, rfl⟩)
        | (go_at_call 7; refine (awake_any _).mono ?_; rintro e w1 ⟨rfl, hB1⟩))
      go_ret
      exact ⟨rfl, hB1⟩
end Go.Proofs.Ytddmffdnookdlaa
