/- The contracts of bits.List and of the reference's List, without, and of Same of two lists of bytes, or of numbers. -/
import Derived.Test.YtddmffdnookdlaaBitsFits
import Derived.Test.YtddmffdnookdlaaBitsNums
namespace Go.Proofs.Ytddmffdnookdlaa
open Go.RowKit Go.Cat Go.Cat.Bits

theorem info_int : (Try.prog.info? 3).map (fun i => (i.zero, i.size, i.bytes)) = some (some (.int .i64 0), 1, 8) := by kernel_rfl
theorem info_u8 : (Try.prog.info? 5).map (fun i => (i.zero, i.size, i.bytes)) = some (some (.int .u8 0), 1, 1) := by kernel_rfl

theorem fits_yes {A : Option Addr} {m c : Nat} {bs : List UInt8} {n : Int} {w : World} (hb : Bytes w A bs) (hn : m = bs.length) (hm : bs.length ≤ 4096) (h : FitsP bs n) :
    Calls Try.prog 23 #[.slice A m c, .int .i64 n] w fun e w' => e = .returned (.bool true) ∧ w = w' := by
  have := fits_any A m c bs n w hb hn hm
  rwa [fits_true h] at this
theorem fits_not {A : Option Addr} {m c : Nat} {bs : List UInt8} {n : Int} {w : World} (hb : Bytes w A bs) (hn : m = bs.length) (hm : bs.length ≤ 4096) (h : ¬ FitsP bs n) :
    Calls Try.prog 23 #[.slice A m c, .int .i64 n] w fun e w' => e = .returned (.bool false) ∧ w = w' := by
  have := fits_any A m c bs n w hb hn hm
  rwa [fits_false h] at this
theorem rfits_yes {A : Option Addr} {m c : Nat} {bs : List UInt8} {n : Int} {w : World} (hb : Bytes w A bs) (hn : m = bs.length) (hm : bs.length ≤ 4096) (h : FitsP bs n) :
    Calls Try.prog 17 #[.slice A m c, .int .i64 n] w fun e w' => e = .returned (.bool true) ∧ w = w' := by
  have := rfits_any A m c bs n w hb hn hm
  rwa [fits_true h] at this
theorem rfits_not {A : Option Addr} {m c : Nat} {bs : List UInt8} {n : Int} {w : World} (hb : Bytes w A bs) (hn : m = bs.length) (hm : bs.length ≤ 4096) (h : ¬ FitsP bs n) :
    Calls Try.prog 17 #[.slice A m c, .int .i64 n] w fun e w' => e = .returned (.bool false) ∧ w = w' := by
  have := rfits_any A m c bs n w hb hn hm
  rwa [fits_false h] at this

theorem own_nil_int (w : World) : ∃ v, v = .slice none 0 0 ∧ w.ownsRow w.heap.size 3 1 v ([] : List Int).length (([] : List Int).map i64) := ⟨_, rfl, World.ownsRow_nil _ _ _ _⟩

theorem list_any (A : Option Addr) (m c : Nat) (bs : List UInt8) (n : Int) (w : World) (hb : Bytes w A bs) (hn : m = bs.length) (hm : bs.length ≤ 4096) :
    Calls Try.prog 15 #[.slice A m c, .int .i64 n] w fun e w' => ∃ v, e = .returned v ∧ w'.ownsRow w.heap.size 3 1 v (had bs n).length ((had bs n).map i64) ∧ Below w.heap.size w w' := by
  subst hn
  obtain ⟨i0, hi, hz0, hz1, hz2⟩ := info_parts info_int
  by_cases h : FitsP bs n
  · rw [had_yes h]
    have h0 := h.lo
    have h1 := h.hi
    obtain ⟨N, rfl⟩ := Int.eq_ofNat_of_zero_le h0
    simp only [Int.toNat_natCast]
    go_enter Try.func15, Try.ntmps15
    go_wp2_with (go_at_call 23; refine (fits_yes hb rfl hm h).mono ?_; rintro e w' ⟨rfl, rfl⟩)
    go_loopw [5, 12] (fun v i wr => ∃ k : Nat, k ≤ N ∧ i = .int .i64 k ∧ wr.ownsRow w.heap.size 3 1 v (nums (bit bs) k).length ((nums (bit bs) k).map i64) ∧ Below w.heap.size w wr) (fun _ i _ => N - (intOf i).toNat)
    case atStart => exact ⟨0, Nat.zero_le _, rfl, World.ownsRow_nil _ _ _ _, Below.refl _ _⟩
    case round =>
      obtain ⟨k, hk, rfl, hown, hbel⟩ := hrel
      have hbr := hb.below hbel
      have hle := nums_le (bit bs) k
      by_cases hlt : k < N
      · rcases Bool.eq_false_or_eq_true (bit bs k) with hbt | hbt
        · have hh : Hid (hasB bs (k : Int) = true) := by show _ = _; simpa [hasB] using hbt
          have hx := nums_yes hbt
          have HX := Lib.hid hx
          clear hx hbt
          go_wp2_with (first
            | (go_at_call 14; refine (has_true hbr rfl hm (by omega) hh.out).mono ?_; rintro e w' ⟨rfl, rfl⟩)
            | (at_builtin; refine wpList_append_own _ rfl _ _ 24 rfl w.heap.size 3 i0 (.int .i64 0) 1 8 Try.underlying24 hi hz0 hz1 hz2 rfl (by decide) _ _ _ rfl (hown.alloc _) ⟨wr.heap.size, 0, none⟩ 1 1 [.int .i64 (k : Int)] rfl rfl ?c1 ?c2 ?c3 ?c4 ?c5 ?_))
          case c1 =>
            intro j u hj
            match j, hj with
            | 0, hj => simp at hj; subst hj; simp [Addr.add]
          case c2 => intro u hu; simp at hu; subst hu; rfl
          case c3 => unfold maxLen; omega
          case c4 => omega
          case c5 => have := hbel.size; simp; omega
          · intro v' w1 hown' hgrow _
            have hR : w1.ownsRow w.heap.size 3 1 v' (nums (bit bs) (k + 1)).length ((nums (bit bs) (k + 1)).map i64) := by rw [HX.out]; simpa [i64] using hown'
            have hB : Below w.heap.size w w1 := (hbel.alloc hbel.size _).grown hgrow (by have := hbel.size; simp; omega) (fun g hg => (hown.lt g hg).1)
            clear hown' hgrow hown hbr
            go_wp2
            go_roundw
            case rel => exact ⟨k + 1, by omega, by go_num, hR, hB⟩
            case measure => simp [intOf]; omega
        · have hh : Hid (hasB bs (k : Int) = false) := by show _ = _; simpa [hasB] using hbt
          have hx := nums_no hbt
          have HX := Lib.hid hx
          clear hx hbt
          go_wp2_with (go_at_call 14; refine (has_false hbr rfl hm (by omega) hh.out).mono ?_; rintro e w' ⟨rfl, rfl⟩)
          go_roundw
          case rel => exact ⟨k + 1, by omega, by go_num, by rw [HX.out]; exact hown, hbel⟩
          case measure => simp [intOf]; omega
      · obtain rfl : k = N := by omega
        go_wp2
        go_ret
        exact ⟨_, rfl, hown, hbel⟩
  · rw [had_no h]
    go_enter Try.func15, Try.ntmps15
    go_wp2_with (go_at_call 23; refine (fits_not hb rfl hm h).mono ?_; rintro e w' ⟨rfl, rfl⟩)
    go_ret
    exact ⟨_, rfl, World.ownsRow_nil _ _ _ _, Below.refl _ _⟩
theorem rlist_any (A : Option Addr) (m c : Nat) (bs : List UInt8) (n : Int) (w : World) (hb : Bytes w A bs) (hn : m = bs.length) (hm : bs.length ≤ 4096) :
    Calls Try.prog 18 #[.slice A m c, .int .i64 n] w fun e w' => ∃ v, e = .returned v ∧ w'.ownsRow w.heap.size 3 1 v (had bs n).length ((had bs n).map i64) ∧ Below w.heap.size w w' := by
  subst hn
  obtain ⟨i0, hi, hz0, hz1, hz2⟩ := info_parts info_int
  by_cases h : FitsP bs n
  · rw [had_yes h]
    have h0 := h.lo
    have h1 := h.hi
    obtain ⟨N, rfl⟩ := Int.eq_ofNat_of_zero_le h0
    simp only [Int.toNat_natCast]
    go_enter Try.func18, Try.ntmps18
    go_wp2_with (go_at_call 17; refine (rfits_yes hb rfl hm h).mono ?_; rintro e w' ⟨rfl, rfl⟩)
    go_loopw [5, 6] (fun v i wr => ∃ k : Nat, k ≤ N ∧ i = .int .i64 k ∧ wr.ownsRow w.heap.size 3 1 v (nums (bit bs) k).length ((nums (bit bs) k).map i64) ∧ Below w.heap.size w wr) (fun _ i _ => N - (intOf i).toNat)
    case atStart => exact ⟨0, Nat.zero_le _, rfl, World.ownsRow_nil _ _ _ _, Below.refl _ _⟩
    case round =>
      obtain ⟨k, hk, rfl, hown, hbel⟩ := hrel
      have hbr := hb.below hbel
      have hle := nums_le (bit bs) k
      by_cases hlt : k < N
      · rcases Bool.eq_false_or_eq_true (bit bs k) with hbt | hbt
        · have hh : Hid (hasB bs (k : Int) = true) := by show _ = _; simpa [hasB] using hbt
          have hx := nums_yes hbt
          have HX := Lib.hid hx
          clear hx hbt
          go_wp2_with (first
            | (go_at_call 24; refine (rhas_true hbr rfl hm (by omega) hh.out).mono ?_; rintro e w' ⟨rfl, rfl⟩)
            | (at_builtin; refine wpList_append_own _ rfl _ _ 24 rfl w.heap.size 3 i0 (.int .i64 0) 1 8 Try.underlying24 hi hz0 hz1 hz2 rfl (by decide) _ _ _ rfl (hown.alloc _) ⟨wr.heap.size, 0, none⟩ 1 1 [.int .i64 (k : Int)] rfl rfl ?c1 ?c2 ?c3 ?c4 ?c5 ?_))
          case c1 =>
            intro j u hj
            match j, hj with
            | 0, hj => simp at hj; subst hj; simp [Addr.add]
          case c2 => intro u hu; simp at hu; subst hu; rfl
          case c3 => unfold maxLen; omega
          case c4 => omega
          case c5 => have := hbel.size; simp; omega
          · intro v' w1 hown' hgrow _
            have hR : w1.ownsRow w.heap.size 3 1 v' (nums (bit bs) (k + 1)).length ((nums (bit bs) (k + 1)).map i64) := by rw [HX.out]; simpa [i64] using hown'
            have hB : Below w.heap.size w w1 := (hbel.alloc hbel.size _).grown hgrow (by have := hbel.size; simp; omega) (fun g hg => (hown.lt g hg).1)
            clear hown' hgrow hown hbr
            go_wp2
            go_roundw
            case rel => exact ⟨k + 1, by omega, by go_num, hR, hB⟩
            case measure => simp [intOf]; omega
        · have hh : Hid (hasB bs (k : Int) = false) := by show _ = _; simpa [hasB] using hbt
          have hx := nums_no hbt
          have HX := Lib.hid hx
          clear hx hbt
          go_wp2_with (go_at_call 24; refine (rhas_false hbr rfl hm (by omega) hh.out).mono ?_; rintro e w' ⟨rfl, rfl⟩)
          go_roundw
          case rel => exact ⟨k + 1, by omega, by go_num, by rw [HX.out]; exact hown, hbel⟩
          case measure => simp [intOf]; omega
      · obtain rfl : k = N := by omega
        go_wp2
        go_ret
        exact ⟨_, rfl, hown, hbel⟩
  · rw [had_no h]
    go_enter Try.func18, Try.ntmps18
    go_wp2_with (go_at_call 17; refine (rfits_not hb rfl hm h).mono ?_; rintro e w' ⟨rfl, rfl⟩)
    go_ret
    exact ⟨_, rfl, World.ownsRow_nil _ _ _ _, Below.refl _ _⟩

theorem without_any (A : Option Addr) (m c : Nat) (zs : List Int) (x : Int) (w : World) (hb : Ints w A zs) (hn : m = zs.length) (hm : zs.length ≤ 65536) :
    Calls Try.prog 27 #[.slice A m c, .int .i64 x] w fun e w' => ∃ v, e = .returned (.tuple #[v, .bool (decide (x ∈ zs))]) ∧ w'.ownsRow w.heap.size 3 1 v (wo zs x).length ((wo zs x).map i64) ∧ Below w.heap.size w w' := by
  subst hn
  obtain ⟨i0, hi, hz0, hz1, hz2⟩ := info_parts info_int
  go_enter Try.func27, Try.ntmps27
  go_wp2
  go_loopw [6, 7, 8] (fun v q i wr => ∃ k : Nat, k ≤ zs.length ∧ i = .int .i64 k ∧ q = .bool (decide (x ∈ zs.take k)) ∧ wr.ownsRow w.heap.size 3 1 v (wo (zs.take k) x).length ((wo (zs.take k) x).map i64) ∧ Below w.heap.size w wr) (fun _ _ i _ => zs.length - (intOf i).toNat)
  case atStart => exact ⟨0, Nat.zero_le _, rfl, by simp, World.ownsRow_nil _ _ _ _, Below.refl _ _⟩
  case round =>
    obtain ⟨k, hk, rfl, rfl, hown, hbel⟩ := hrel
    have hle := wo_le (zs.take k) x
    have hle' : (zs.take k).length ≤ k := List.length_take_le _ _
    by_cases hlt : k < zs.length
    · obtain ⟨b, off, rfl, _, hc⟩ := (hb.below hbel).at_ (by omega)
      have e1 := hc k hlt
      clear hc
      obtain ⟨z, hzk⟩ : ∃ z, z = zs.getD k 0 := ⟨_, rfl⟩
      rw [← hzk] at e1
      have HZ : Hid (zs.take (k + 1) = zs.take k ++ [z]) := by show _ = _; rw [List.take_succ_eq_append_getElem hlt, hzk]; simp [List.getD_eq_getElem?_getD, hlt]
      clear hzk
      obtain ⟨q, hq⟩ : ∃ q, q = decide (x ∈ zs.take k) := ⟨_, rfl⟩
      rw [← hq]
      have HQ := Lib.hid hq
      clear hq
      by_cases hzx : z = x
      · have ht : (z == x) = true := by simpa using hzx
        have HX : Hid (wo (zs.take (k + 1)) x = wo (zs.take k) x) := by show _ = _; rw [HZ.out, hzx, wo_snoc_eq]
        have HM : Hid (decide (x ∈ zs.take (k + 1)) = true) := by show _ = _; rw [HZ.out, hzx]; simp
        clear hzx
        go_wp2
        go_roundw
        case rel => exact ⟨k + 1, by omega, by go_num, by rw [HM.out], by rw [HX.out]; exact hown, hbel⟩
        case measure => simp [intOf]; omega
      · have ht : (z == x) = false := by simpa using hzx
        have HX : Hid (wo (zs.take (k + 1)) x = wo (zs.take k) x ++ [z]) := by show _ = _; rw [HZ.out, wo_snoc_ne hzx]
        have HM : Hid (decide (x ∈ zs.take (k + 1)) = q) := by show _ = _; rw [HZ.out, HQ.out]; simp; intro e; exact absurd e.symm hzx
        clear hzx
        go_wp2_with (at_builtin; refine wpList_append_own _ rfl _ _ 24 rfl w.heap.size 3 i0 (.int .i64 0) 1 8 Try.underlying24 hi hz0 hz1 hz2 rfl (by decide) _ _ _ rfl (hown.alloc _) ⟨wr.heap.size, 0, none⟩ 1 1 [.int .i64 z] rfl rfl ?c1 ?c2 ?c3 ?c4 ?c5 ?_)
        case c1 =>
          intro j u hj
          match j, hj with
          | 0, hj => simp at hj; subst hj; simp [Addr.add]
        case c2 => intro u hu; simp at hu; subst hu; rfl
        case c3 => unfold maxLen; omega
        case c4 => omega
        case c5 => have := hbel.size; simp; omega
        · intro v' w1 hown' hgrow _
          have hR : w1.ownsRow w.heap.size 3 1 v' (wo (zs.take (k + 1)) x).length ((wo (zs.take (k + 1)) x).map i64) := by rw [HX.out]; simpa [i64] using hown'
          have hB : Below w.heap.size w w1 := (hbel.alloc hbel.size _).grown hgrow (by have := hbel.size; simp; omega) (fun g hg => (hown.lt g hg).1)
          clear hown' hgrow hown
          go_wp2
          go_roundw
          case rel => exact ⟨k + 1, by omega, by go_num, by rw [HM.out], hR, hB⟩
          case measure => simp [intOf]; omega
    · have hkz : k = zs.length := by omega
      have hT : zs.take k = zs := List.take_of_length_le (by omega)
      rw [hT] at hown ⊢
      clear hT hkz
      go_wp2
      go_ret2
      exact ⟨_, rfl, hown, hbel⟩
end Go.Proofs.Ytddmffdnookdlaa
