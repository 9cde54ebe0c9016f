/- Bytes that are put: the contracts of fix.New, known, fits, laid, put, Put, Text, Raw, Done where nothing goes wrong. Condition: numbers that fit, room. -/
import Derived.Test.YtjdpljhhlmcbaaaBe
import Derived.Test.YtjdpljhhlmcbaaaFixGet
namespace Go.Cat
open Go.RowKit
/-- A block with bytes that are put, without an error. -/
structure OutS (t u8 : TypeId) (g : Nat) (bs : List UInt8) (most : Int) (w : World) : Prop where
  ex : ∃ A c, w.heap[g]? = some (.cells #[.slice A bs.length c, .int .i64 most, .int .i64 0] t (0, 0)) ∧ w.ownsRow (g + 1) u8 1 (.slice A bs.length c) bs.length (bs.map by8)
section
variable {t u8 : TypeId} {g : Nat} {bs : List UInt8} {most : Int} {w w' : World}
theorem OutS.below (h : OutS t u8 g bs most w) (hb : Below w.heap.size w w') : OutS t u8 g bs most w' := by
  obtain ⟨A, c, h1, h2⟩ := h.ex
  exact ⟨A, c, (hb.block g (Array.getElem?_eq_some_iff.1 h1).1).trans h1, own_touch (K := fun _ => False) h2 (Tch.of_below hb) (fun _ _ e => e)⟩
theorem OutS.lt (h : OutS t u8 g bs most w) : g < w.heap.size := by
  obtain ⟨A, c, h1, _⟩ := h.ex
  exact (Array.getElem?_eq_some_iff.1 h1).1
end
/-- The bytes of a number that are laid so far. -/
def laidTo (n width k : Nat) : List UInt8 := List.replicate (width - k) 0 ++ be n k
theorem laidTo_length (n width k : Nat) (h : k ≤ width) : (laidTo n width k).length = width := by unfold laidTo; rw [List.length_append, List.length_replicate, be_length]; omega
theorem laidTo_succ {n width k : Nat} (h : k < width) : (laidTo n width k).set (width - 1 - k) (UInt8.ofNat (n / 256 ^ k % 256)) = laidTo n width (k + 1) := by
  unfold laidTo
  rw [be_cons, show width - k = (width - 1 - k) + 1 by omega, show width - (k + 1) = width - 1 - k by omega, List.replicate_succ', List.append_assoc, List.set_append_right _ _ (by simp)]
  simp
theorem laidTo_full (n width : Nat) : laidTo n width width = be n width := by unfold laidTo; rw [Nat.sub_self]; rfl
theorem shr8 (n k : Nat) : IntKind.u8.wrap ((n : Int) / 2 ^ (8 * k)) = ((UInt8.ofNat (n / 256 ^ k % 256)).toNat : Int) := by
  have h : (2 : Int) ^ (8 * k) = ((256 ^ k : Nat) : Int) := by rw [Int.pow_mul]; simp
  rw [h, IntKind.wrap_u8, UInt8.toNat_ofNat']
  have : ((n : Int) / ((256 ^ k : Nat) : Int)) = ((n / 256 ^ k : Nat) : Int) := by simp
  rw [this]
  omega
end Go.Cat
namespace Go.Proofs.Ytjdpljhhlmcbaaa
open Go.RowKit Go.Cat

abbrev OutF (g : Nat) (bs : List UInt8) (most : Int) (w : World) : Prop := OutS 114 5 g bs most w
abbrev OutU (g : Nat) (w w' : World) : Prop := Upd g [114, 5] w w'

theorem onew_any (most : Int) (w : World) (h : 0 ≤ most) :
    Calls Try.prog 43 #[.int .i64 most] w fun e w' => e = .returned (.pointer (some ⟨w.heap.size, 0, none⟩)) ∧ OutF w.heap.size [] most w' ∧ Below w.heap.size w w' := by
  have hm1 : max most 0 = most := by omega
  have hm2 : max 0 most = most := by omega
  have hfin : OutF w.heap.size [] most (w.alloc (.cells #[.slice none 0 0, .int .i64 most, .int .i64 0] 114)) := ⟨none, 0, heap_alloc_new _ _, World.ownsRow_nil _ _ _ _⟩
  have HF := Lib.hid hfin
  clear hfin
  go_enter Try.func43, Try.ntmps43
  go_wp2_with fail
  go_ret
  exact ⟨rfl, HF.out, (Below.refl _ _).alloc (Nat.le_refl _) _⟩

theorem pow_eight (n width : Nat) (h : n < 256 ^ width) : (n : Int) / 2 ^ (8 * width) = 0 := by
  have h2 : (2 : Int) ^ (8 * width) = ((256 ^ width : Nat) : Int) := by rw [Int.pow_mul]; simp
  rw [h2]
  have : ((n : Int) / ((256 ^ width : Nat) : Int)) = ((n / 256 ^ width : Nat) : Int) := by simp
  rw [this, Nat.div_eq_of_lt h]
  rfl

theorem fits_ok (n width : Nat) (w : World) (h : n < 256 ^ width) (h1 : 1 ≤ width) (h8 : width ≤ 8) :
    Calls Try.prog 69 #[.int .u64 n, .int .i64 width] w fun e w' => e = .returned (.bool true) ∧ w = w' := by
  by_cases hw : width = 8
  · subst hw
    have d : (((8 : Nat) : Int) == 8) = true := by decide
    clear h h1 h8
    go_enter Try.func69, Try.ntmps69
    go_wp2_with fail
    go_ret
    exact ⟨rfl, rfl⟩
  · have d : ((width : Int) == 8) = false := by simp; omega
    have hp := pow_eight n width h
    have hp' : (n : Int) / 2 ^ (8 * (width : Int)).toNat = 0 := by rw [show (8 * (width : Int)).toNat = 8 * width by omega]; exact hp
    have b0 : (0 : Int) ≤ 8 * (width : Int) := by omega
    have b1 : 8 * (width : Int) ≤ 64 := by omega
    clear h hw
    go_enter Try.func69, Try.ntmps69
    go_wp2_with fail
    go_ret
    exact ⟨by first | rfl | simp [*], rfl⟩

theorem info8 : (Try.prog.info? 5).map (fun i => (i.zero, i.size, i.bytes)) = some (some (.int .u8 0), 1, 1) := by kernel_rfl

theorem own_of_block' {w : World} {base g n : Nat} {e : TypeId} {xs : List Value} (hb : base ≤ g) (hh : w.heap[g]? = some (.cells xs.toArray e (0, 0))) (hn : xs.length = n) (hm : n ≤ maxLen) :
    w.ownsRow base e 1 (.slice (some ⟨g, 0, none⟩) n n) n xs :=
  ⟨by omega, .inr ⟨g, n, xs.toArray, rfl, hb, hh, Nat.le_refl _, hm, by simp; omega, by simp [← hn]⟩⟩
theorem block_of_own' {w : World} {base g n cap : Nat} {e : TypeId} {xs : List Value} (h : w.ownsRow base e 1 (.slice (some ⟨g, 0, none⟩) n cap) n xs) (hc : cap = n) : w.heap[g]? = some (.cells xs.toArray e (0, 0)) := by
  rcases h.2 with ⟨h1, _⟩ | ⟨g', cap', cur, hv, hb, hh, hnc, hm, hs, ht⟩
  · cases h1
  · injection hv with hA _ hC
    injection hA with hA
    injection hA with hA
    subst hA
    rw [hh]
    have : cur.toList = xs := by rw [← ht]; exact (List.take_of_length_le (by rw [Array.length_toList]; omega)).symm
    rw [← this]

set_option maxRecDepth 100000 in
theorem laid_any (n width : Nat) (w : World) (h1 : 1 ≤ width) (h8 : width ≤ 8) :
    Calls Try.prog 71 #[.int .u64 n, .int .i64 width] w fun e w' => ∃ A c, e = .returned (.slice A width c) ∧ w'.ownsRow w.heap.size 5 1 (.slice A width c) width ((be n width).map by8) ∧ Below w.heap.size w w' := by
  obtain ⟨i0, hi, hz0, hz1, hz2⟩ := info_parts info8
  have h0 : (0 : Int) ≤ (width : Int) := by omega
  go_enter Try.func71, Try.ntmps71
  go_wp2_with (at_make; refine wpList_make_full _ rfl _ _ 35 rfl w.heap.size 5 i0 (.int .u8 0) 1 Try.underlying35 hi hz0 hz1 _ _ _ _ width rfl rfl rfl rfl ?b1 ?b2 ?b3 ?_)
  case b1 => rw [hz2]; omega
  case b2 => unfold maxLen; omega
  case b3 => exact Nat.le_refl _
  intro w1 hown1 hg1
  have hbk := block_of_own' hown1 rfl
  rw [toList_madeCells_one] at hbk
  have hB1 : Below w.heap.size w w1 := (Below.refl _ _).grown hg1 (Nat.le_refl _) (fun k hk => by cases hk)
  have hb0 : w1.heap[w.heap.size]? = some (.cells ((laidTo n width 0).map by8).toArray 5 (0, 0)) := by
    rw [hbk]
    unfold laidTo
    simp [be, by8]
  have HB1 := Lib.hid hB1
  have HB0 := Lib.hid hb0
  clear hown1 hg1 hbk hB1 hb0 hi hz0 hz1 hz2
  go_wp2_with fail
  go_loopw [11] (fun iv wr => ∃ k : Nat, k ≤ width ∧ iv = .int .i64 k ∧ Hid (wr.heap[w.heap.size]? = some (.cells ((laidTo n width k).map by8).toArray 5 (0, 0))) ∧ Hid (Below w.heap.size w wr)) (fun iv _ => width - (intOf iv).toNat)
  case atStart => exact ⟨0, Nat.zero_le _, rfl, HB0.out, HB1.out⟩
  case round =>
    clear HB0 HB1
    obtain ⟨k, hk, rfl, HBk, HB⟩ := hrel
    by_cases hlt : k < width
    · have hkI : decide ((k : Int) < (width : Int)) = true := by simp; omega
      have hlen := laidTo_length n width k hk
      obtain ⟨u, hcell⟩ : ∃ u, wr.cell? ⟨w.heap.size, width - 1 - k, none⟩ = some u := by
        refine ⟨by8 ((laidTo n width k)[width - 1 - k]'(by omega)), ?_⟩
        rw [cell_of_row wr _ _ _ _ _ HBk.out]
        simp
        exact ⟨_, List.getElem?_eq_getElem (by omega), rfl⟩
      have hfr : wr.frozen? ⟨w.heap.size, width - 1 - k, none⟩ = false := frozen_of_row wr _ _ _ _ HBk.out
      have hset : (wr.setCell ⟨w.heap.size, width - 1 - k, none⟩ (by8 (UInt8.ofNat (n / 256 ^ k % 256)))).heap[w.heap.size]? = some (.cells ((laidTo n width (k + 1)).map by8).toArray 5 (0, 0)) := by
        have := set_block (i := width - 1 - k) (by8 (UInt8.ofNat (n / 256 ^ k % 256))) HBk.out
        rw [this, ← laidTo_succ hlt, List.map_set]
        simp
      have hsh : Value.int .u8 ((n : Int) / 2 ^ (8 * k) % 256) = by8 (UInt8.ofNat (n / 256 ^ k % 256)) := by unfold by8; rw [← IntKind.wrap_u8, shr8]
      have b0 : (0 : Int) ≤ 8 * (k : Int) := by omega
      have b1 : 8 * (k : Int) ≤ 64 := by omega
      have b2 : (0 : Int) ≤ (width : Int) - 1 - (k : Int) := by omega
      have b3 : (width : Int) - 1 - (k : Int) < (width : Int) := by omega
      have HSet := Lib.hid hset
      have HSh := Lib.hid hsh
      clear hlen hset hsh
      go_wp2_with fail
      go_roundw
      case rel =>
        rw [HSh.out]
        exact ⟨k + 1, by omega, by go_num, HSet.out, HB.out.setCell (Nat.le_refl _) _⟩
      case measure => simp [intOf]; omega
    · obtain rfl : k = width := by omega
      have hkI : decide ((k : Int) < (k : Int)) = false := by simp
      go_wp2_with fail
      go_ret
      refine ⟨_, _, rfl, own_of_block' (Nat.le_refl _) ?_ (by simp [be_length]) (by unfold maxLen; omega), HB.out⟩
      have := HBk.out
      rwa [laidTo_full] at this

theorem ofail_skip : True := trivial

set_option maxRecDepth 100000 in
theorem oput_ok (g : Nat) (bs xs : List UInt8) (most : Int) (A : Option Addr) (c : Nat) (w : World) (h : OutF g bs most w) (hx : Bytes w A xs) (hm : (bs.length : Int) + xs.length ≤ most) (hmost : most ≤ 1000000) :
    Calls Try.prog 70 #[.pointer (some ⟨g, 0, none⟩), .slice A xs.length c] w fun e w' => (∃ v, e = .returned v) ∧ OutF g (bs ++ xs) most w' ∧ OutU g w w' := by
  obtain ⟨A1, c1, hh, ho⟩ := h.ex
  have c0 : w.cell? ⟨g, 0, none⟩ = some (.slice A1 bs.length c1) := cell_of_row w g 0 _ _ _ hh
  have c1' : w.cell? ⟨g, 1, none⟩ = some (.int .i64 most) := cell_of_row w g 1 _ _ _ hh
  have c2 : w.cell? ⟨g, 2, none⟩ = some (.int .i64 0) := cell_of_row w g 2 _ _ _ hh
  obtain ⟨n, hn⟩ : ∃ n, n = bs.length := ⟨_, rfl⟩
  obtain ⟨m, hmm⟩ : ∃ m, m = xs.length := ⟨_, rfl⟩
  rw [← hn] at c0 hm
  rw [← hmm] at hm ⊢
  have hw1 : IntKind.i64.wrap (most - (n : Int)) = most - (n : Int) := IntWalk.i64_in _ (by omega)
  have d1 : decide (most - (n : Int) < (m : Int)) = false := by simp; omega
  have HH := Lib.hid hh
  have HO := Lib.hid ho
  have HX := Lib.hid hx
  have HN := Lib.hid hn
  have HM := Lib.hid hmm
  have hlt := h.lt
  clear h hh ho hx hn hmm
  go_enter Try.func70, Try.ntmps70
  go_wp2_with fail
  go_quiet (fail)
  go_wp2_with (at_builtin; refine wpList_app elem_u8 rfl _ _ rfl (g + 1) (.slice A1 n c1) n (bs.map by8) rfl (by rw [HN.out]; exact own_dN HO.out _) A m c (xs.map by8) rfl (HX.out.drewN _) (by rw [HM.out]; simp) (one_by8 _) (by omega) (by simp; omega) ?_)
  intro v2 w2 hown hgr _
  have hne : (Value.slice A1 n c1).ownBlock ≠ some g := fun e => by
    have ho := HO.out
    rw [← HN.out] at ho
    have := (ho.lt _ e).1
    omega
  have hh2 : w2.heap[g]? = some (.cells #[.slice A1 n c1, .int .i64 most, .int .i64 0] 114 (0, 0)) := (hgr.block g (by simpa using hlt) (fun e => hne e.symm)).trans (by rw [HN.out]; exact HH.out)
  have k0 : w2.cell? ⟨g, 0, none⟩ = some (.slice A1 n c1) := cell_of_row w2 g 0 _ _ _ hh2
  have f0 : w2.frozen? ⟨g, 0, none⟩ = false := frozen_of_row w2 g 0 _ _ hh2
  obtain ⟨A2, c2', rfl, _, _⟩ := own_full hown
  have hfin : OutF g (bs ++ xs) most (w2.setCell ⟨g, 0, none⟩ (.slice A2 (n + m) c2')) := by
    have e : (bs ++ xs).length = n + m := by rw [List.length_append, HN.out, HM.out]
    refine ⟨A2, c2', ?_, ?_⟩
    · have := set_block (i := 0) (.slice A2 (n + m) c2') hh2
      rw [e]; simpa using this
    · rw [e, List.map_append]
      exact own_touch hown (Tch.set _ _ _ _) (fun k hk e => by have := (hown.lt _ hk).1; omega)
  have hup : OutU g w (w2.setCell ⟨g, 0, none⟩ (.slice A2 (n + m) c2')) := by
    have ho := HO.out
    rw [← HN.out] at ho
    have u1 : OutU g w (w.drewN nq) := (Upd.refl _ _ _).drewN nq
    have u2 : OutU g (w.drewN nq) w2 := Upd.own (own_dN ho nq) hgr (Nat.le_succ g) (by decide)
    have u3 : OutU g w2 (w2.setCell ⟨g, 0, none⟩ (.slice A2 (n + m) c2')) := Upd.set (p := ⟨g, 0, none⟩) hh2 (Nat.le_refl _) (by decide) _
    exact (u1.trans u2).trans u3
  have HF := Lib.hid hfin
  have HU := Lib.hid hup
  clear hown hgr hne hh2 hfin hup
  go_wp2_with fail
  refine bodyPost_end (v := .tuple #[]) (by simp [results, Try.results70, go_sem]) rfl ⟨⟨_, rfl⟩, HF.out, HU.out⟩
end Go.Proofs.Ytjdpljhhlmcbaaa
