/- The contract of the reference's Bytes of an inode that may be. Condition: it may be. -/
import Derived.Test.YtkeebkackbkfhaaRefPut
import Derived.Test.YtkeebkackbkfhaaInoPut
import Derived.Deep.RegionWith
namespace Go.Proofs.Ytkeebkackbkfhaa
open Go.RowKit Go.Shelf Go.Cat Go.Cat.Ino

/-- What the reference's Bytes tells. -/
def ToldRB (l : List UInt8) (w : World) (e : Ending) (w' : World) : Prop := ∃ A c, e = .returned (.slice A l.length c) ∧ Bytes w' A l ∧ Below w.heap.size w w'

set_option maxRecDepth 100000 in
set_option maxHeartbeats 4000000 in
theorem rbytes_ok (m z : Int) (A : Option Addr) (xs : List Ext) (c : Nat) (w : World) (hs : Sees w A (erows xs)) (hok : checkI m z xs = 0) :
    Calls Try.prog 29 #[iv m z A xs.length c] w (ToldRB (encIv m z xs) w) := by
  have mb := check_zero hok
  obtain ⟨W0, hW0⟩ : ∃ W0, W0 = w.alloc (.cells #[.int .i64 m, .int .i64 z, .slice A xs.length c] 32) := ⟨_, rfl⟩
  have hi0 : IbS w.heap.size m z A xs c w W0 := by rw [hW0]; exact IbS.new hs
  obtain ⟨n, hnn⟩ : ∃ n, n = xs.length := ⟨_, rfl⟩
  obtain ⟨H, hH⟩ : ∃ H, H = w.heap.size := ⟨_, rfl⟩
  obtain ⟨md, hmd⟩ : ∃ md : Nat, m = (md : Int) := ⟨m.toNat, by have := mb.m0; omega⟩
  obtain ⟨sz, hsz⟩ : ∃ sz : Nat, z = (sz : Int) := ⟨z.toNat, by have := mb.s0; omega⟩
  have hmd2 : md ≤ 2 := by have := mb.m2; omega
  have hsz2 : sz ≤ 512 := by have := mb.s1; omega
  have hn8 : n ≤ 8 := by rw [hnn]; exact mb.len
  have hwm : IntKind.u8.wrap (md : Int) = (md : Int) := IntWalk.u8_in _ (by omega)
  have hws : IntKind.u64.wrap (sz : Int) = (sz : Int) := IntWalk.u64_in _ (by omega)
  have hwn : IntKind.u8.wrap (n : Int) = (n : Int) := IntWalk.u8_in _ (by omega)
  subst hmd hsz
  have hfine : ∀ e ∈ xs, InE e := fun e he => by
    obtain ⟨i, hi, rfl⟩ := List.getElem_of_mem he
    exact (mb.fine.1 i hi _ (List.getElem?_eq_getElem hi)).1
  have enc0 : (encIT (md : Int) (sz : Int) xs 0).map by8 = [.int .u8 (md : Int), .int .u8 (n : Int)] ++ (be sz 4).map by8 := by
    have h1 : be md 1 = [UInt8.ofNat md] := by show [] ++ [UInt8.ofNat (md % 256)] = _; rw [Nat.mod_eq_of_lt (by omega)]; rfl
    have h2 : be n 1 = [UInt8.ofNat n] := by show [] ++ [UInt8.ofNat (n % 256)] = _; rw [Nat.mod_eq_of_lt (by omega)]; rfl
    have h3 : (UInt8.ofNat md).toNat = md := by rw [UInt8.toNat_ofNat', Nat.mod_eq_of_lt (by omega)]
    have h4 : (UInt8.ofNat n).toNat = n := by rw [UInt8.toNat_ofNat', Nat.mod_eq_of_lt (by omega)]
    unfold encIT
    rw [← hnn, Int.toNat_natCast, Int.toNat_natCast, h1, h2]
    simp [by8, h3, h4]
  have P1 : Hid (∀ W, Calls Try.prog 46 #[.int .u64 (sz : Int), .int .i64 4] W (ToldBe1 sz 4 W)) := fun W => rbig_ok sz 4 W (by show sz < 4294967296; omega) (by omega) (by omega) (by omega)
  have hall := encIT_all (md : Int) (sz : Int) xs
  rw [← hnn] at hW0 hall ⊢
  have HAll := Lib.hid hall
  have HE0 := Lib.hid enc0
  have HFine := Lib.hid hfine
  have HW0 := Lib.hid hW0
  have HI0 := Lib.hid hi0
  have HS := Lib.hid hs
  have HN := Lib.hid hnn
  have HH := Lib.hid hH
  clear mb hok hW0 hi0 hs hnn hH enc0 hfine hall
  go_enter Try.func29, Try.ntmps29
  go_upto_region 1 with (fail)
  rw [← HW0.out, ← HH.out]
  rw [← HH.out] at HI0
  obtain ⟨c0, c1, c2, _, _⟩ := HI0.out
  rw [← HN.out] at c2
  have hlt : H < W0.heap.size := World.block_lt_of_cell? _ _ c0
  have hbO : Below W0.heap.size W0 (W0.alloc (.cells #[.int .u8 (md : Int), .int .u8 (n : Int)] 5)) := (Below.refl _ _).alloc (Nat.le_refl _) _
  have HbO := Lib.hid hbO
  have hHw : w.heap.size < H + 1 := by rw [HH.out]; omega
  have hnH : n * 4 ≤ 32 := by omega
  have HFirst : Hid (∀ W1 A2 c2 w3 A3 c3, IbS H (md : Int) (sz : Int) A xs c w W1 → W1.ownsRow (H + 1) 5 1 (.slice A2 2 c2) 2 [.int .u8 (md : Int), .int .u8 (n : Int)] → w3.ownsRow (H + 1) 5 1 (.slice A3 (2 + 4) c3) (2 + 4) ([.int .u8 (md : Int), .int .u8 (n : Int)] ++ (be sz 4).map by8) → W1.grownBy w3 (Value.slice A2 2 c2).ownBlock →
      Hid (IbS H (md : Int) (sz : Int) A xs c w w3) ∧ Hid (w3.ownsRow (H + 1) 5 1 (.slice A3 (6 + 0 * 4) c3) (6 + 0 * 4) ((encIT (md : Int) (sz : Int) xs 0).map by8))) := by
    intro W1 A2 c2 w3 A3 c3 h1 h2 h3 h4
    have g : H + 1 ≤ W1.heap.size := World.block_lt_of_cell? _ _ h1.c0
    exact ⟨h1.up HS.out (Nat.lt_succ_self _) (by omega) ((Below.refl _ _).own h2 h4 g (Nat.le_refl _)), by show World.ownsRow _ _ _ _ _ _ _; rw [HE0.out]; exact h3⟩
  clear hbO
  go_region_law (first
    | (refine step_app elem_u8P rfl (.tmp 12) (.tmp 16) rfl (H + 1) (.slice (some ⟨W0.heap.size, 0, none⟩) 2 2) 2 [.int .u8 (md : Int), .int .u8 (n : Int)] rfl HOwnA.out A2 4 cA ((be sz 4).map by8) rfl HByA.out (by simp [be_length]) (one_by8P _) (by omega) hszA ?_; intro v2 w3 hown hgr _; obtain ⟨A3, c3, rfl, _, _⟩ := own_full hown; obtain ⟨F1, F2⟩ := HFirst.out _ _ _ _ _ _ HIA.out HOwnA.out hown hgr)
    | (refine step_app elem_u8P rfl (.tmp 12) (.tmp 16) rfl (H + 1) (.slice (some ⟨wB.heap.size, 0, none⟩) 2 2) 2 [.int .u8 (md : Int), .int .u8 (n : Int)] rfl HOwnB.out A2 4 cB ((be sz 4).map by8) rfl HByB.out (by simp [be_length]) (one_by8P _) (by omega) hszB ?_; intro v2 w3 hown hgr _; obtain ⟨A3, c3, rfl, _, _⟩ := own_full hown; obtain ⟨F1, F2⟩ := HFirst.out _ _ _ _ _ _ HIB.out HOwnB.out hown hgr)
    | (go_simp; go_at_call 46; (with_reducible refine (P1.out (W0.alloc (.cells #[.int .u8 (md : Int), .int .u8 (n : Int)] 5)).drew).mono ?_); rintro e wA ⟨A2, cA, rfl, hb2, hB2⟩; have hBA : Below W0.heap.size W0 wA := HbO.out.drew.trans (hB2.mono (by simp)); have HIA := Lib.hid (HI0.out.below hBA); obtain ⟨x0, x1, x2, _, _⟩ := HIA.out; rw [← HN.out] at x2; have HOwnA : Hid (wA.ownsRow (H + 1) 5 1 (.slice (some ⟨W0.heap.size, 0, none⟩) 2 2) 2 [.int .u8 (md : Int), .int .u8 (n : Int)]) := own_of_block' hlt ((hB2.block _ (by simp)).trans (heap_alloc_new W0 _)) rfl (by unfold maxLen; omega); have HByA := Lib.hid hb2; have hszA : H + 1 ≤ wA.heap.size := Nat.le_trans hlt hBA.size; clear hb2 hB2 hBA)
    | (go_simp; go_at_call 46; (with_reducible refine (P1.out W0.drew).mono ?_); rintro e wB ⟨A2, cB, rfl, hb2, hB2⟩; have hBB : Below W0.heap.size W0 wB := below_undrew hB2; have hbn : Below wB.heap.size wB (wB.alloc (.cells #[.int .u8 (md : Int), .int .u8 (n : Int)] 5)) := (Below.refl _ _).alloc (Nat.le_refl _) _; have hI2 := HI0.out.below hBB; obtain ⟨x0, x1, x2, _, _⟩ := hI2; rw [← HN.out] at x2; have hltB : H < wB.heap.size := Nat.lt_of_lt_of_le hlt hBB.size; have HIB := Lib.hid ((HI0.out.below hBB).below hbn); have HOwnB : Hid ((wB.alloc (.cells #[.int .u8 (md : Int), .int .u8 (n : Int)] 5)).ownsRow (H + 1) 5 1 (.slice (some ⟨wB.heap.size, 0, none⟩) 2 2) 2 [.int .u8 (md : Int), .int .u8 (n : Int)]) := own_of_block' hltB (heap_alloc_new wB _) rfl (by unfold maxLen; omega); have HByB := Lib.hid (hb2.below hbn); have hszB : H + 1 ≤ (wB.alloc (.cells #[.int .u8 (md : Int), .int .u8 (n : Int)] 5)).heap.size := Nat.le_trans hltB hbn.size; clear hb2 hB2 hBB hbn)
    | fail)
  all_goals
    clear hown hgr
    go_wp2_with fail
    go_loopw [3, 4] (fun ov iv' wr => ∃ (k : Nat) (B : Option Addr) (d : Nat), k ≤ n ∧ iv' = .int .i64 k ∧ ov = .slice B (6 + k * 4) d ∧ Hid (IbS H (md : Int) (sz : Int) A xs c w wr) ∧ Hid (wr.ownsRow (H + 1) 5 1 (.slice B (6 + k * 4) d) (6 + k * 4) ((encIT (md : Int) (sz : Int) xs k).map by8))) (fun _ iv' _ => n - (intOf iv').toNat)
    case atStart => exact ⟨0, A3, c3, Nat.zero_le _, rfl, rfl, F1, F2⟩
    case round =>
      clear F1 F2
      obtain ⟨k, B, d, hk, rfl, rfl, HI, HO⟩ := hrel
      obtain ⟨y0, y1, y2, _, _⟩ := HI.out
      rw [← HN.out] at y2
      by_cases hlt2 : k < n
      · have t1 : decide ((k : Int) < (n : Int)) = true := by simp; omega
        have hkx : k < xs.length := by rw [← HN.out]; exact hlt2
        obtain ⟨b, off, hA, hbl, e0, e1⟩ := erows_at HS.out hkx
        obtain ⟨p, hp⟩ : ∃ p, p = xs[k] := ⟨_, rfl⟩
        have hpE : InE p := HFine.out p (by rw [hp]; exact List.getElem_mem _)
        have hnext : encIT (md : Int) (sz : Int) xs (k + 1) = encIT (md : Int) (sz : Int) xs k ++ encE p := by rw [encIT_succ hkx, hp]
        have hlen := encIT_length (mode := (md : Int)) (size := (sz : Int)) (xs := xs) k (by rw [← HN.out]; exact hk)
        rw [← hp] at e0 e1
        obtain ⟨st, hst⟩ : ∃ st : Nat, p.1 = (st : Int) := ⟨p.1.toNat, by have := hpE.s0; omega⟩
        obtain ⟨ln, hln⟩ : ∃ ln : Nat, p.2 = (ln : Int) := ⟨p.2.toNat, by have := hpE.right.1; omega⟩
        have hst2 : st < 4096 := by have := hpE.s1; omega
        have hln2 : ln ≤ 8 := by have := hpE.right.2; omega
        have hee : encE p = be st 2 ++ be ln 2 := by unfold encE; rw [hst, hln]; rfl
        rw [hst] at e0
        rw [hln] at e1
        rw [hee] at hnext
        have hw1 : IntKind.u64.wrap (st : Int) = (st : Int) := IntWalk.u64_in _ (by omega)
        have hw2 : IntKind.u64.wrap (ln : Int) = (ln : Int) := IntWalk.u64_in _ (by omega)
        have hkI : (k : Int) < (n : Int) := by omega
        have hk0 : (0 : Int) ≤ (k : Int) := by omega
        have HNext := Lib.hid hnext
        have HLen := Lib.hid hlen
        have P4 : Hid (∀ W, Calls Try.prog 46 #[.int .u64 (st : Int), .int .i64 2] W (ToldBe1 st 2 W)) := fun W => rbig_ok st 2 W (by show st < 65536; omega) (by omega) (by omega) (by omega)
        have P5 : Hid (∀ W, Calls Try.prog 46 #[.int .u64 (ln : Int), .int .i64 2] W (ToldBe1 ln 2 W)) := fun W => rbig_ok ln 2 W (by show ln < 65536; omega) (by omega) (by omega) (by omega)
        have E1 := Lib.hid e1
        have f0 := (HI.out.bel.cell (p := ⟨b, off + k * 2, none⟩) hbl).trans e0
        rw [hA] at y2
        have HA := Lib.hid hA
        clear hp hpE hkx hnext hst hln hee hlen e0 e1 hA
        go_wp2_with fail
        refine (P4.out wr).mono ?_
        rintro e w4 ⟨A4, c4, rfl, hb4, hB4⟩
        have HO4 := Lib.hid (own_below HO.out hB4)
        have HI4 := Lib.hid (HI.out.below hB4)
        have HB4 := Lib.hid hb4
        have hsz4 : H + 1 ≤ w4.heap.size := World.block_lt_of_cell? _ _ HI4.out.c0
        clear hb4 hB4 y0 y1 y2 f0 P4
        go_wp2_with (at_builtin; refine wpList_app elem_u8P rfl _ _ rfl (H + 1) (.slice B (6 + k * 4) d) (6 + k * 4) ((encIT (md : Int) (sz : Int) xs k).map by8) rfl HO4.out A4 2 c4 ((be st 2).map by8) rfl HB4.out (by simp [be_length]) (one_by8P _) (by omega) hsz4 ?_)
        intro v5 w5 hown5 hgr5 _
        obtain ⟨A5, c5, rfl, _, _⟩ := own_full hown5
        have hI5 : IbS H (md : Int) (sz : Int) A xs c w w5 := HI4.out.up HS.out (Nat.lt_succ_self _) (by omega) ((Below.refl _ _).own HO4.out hgr5 hsz4 (Nat.le_refl _))
        have f1 := (hI5.bel.cell (p := ⟨b, off + k * 2 + 1, none⟩) hbl).trans E1.out
        have HI5 := Lib.hid hI5
        have HO5 := Lib.hid hown5
        clear hown5 hgr5 hI5 HO4 HI4 HB4 HI HO
        obtain ⟨y0, y1, y2, _, _⟩ := HI5.out
        rw [← HN.out, HA.out] at y2
        go_wp2_with fail
        refine (P5.out w5).mono ?_
        rintro e w6 ⟨A6, c6, rfl, hb6, hB6⟩
        have HO6 := Lib.hid (own_below HO5.out hB6)
        have HI6 := Lib.hid (HI5.out.below hB6)
        have HB6 := Lib.hid hb6
        have hsz6 : H + 1 ≤ w6.heap.size := World.block_lt_of_cell? _ _ HI6.out.c0
        clear hb6 hB6 y0 y1 y2 f1 P5
        go_wp2_with (at_builtin; refine wpList_app elem_u8P rfl _ _ rfl (H + 1) (.slice A5 (6 + k * 4 + 2) c5) (6 + k * 4 + 2) ((encIT (md : Int) (sz : Int) xs k).map by8 ++ (be st 2).map by8) rfl HO6.out A6 2 c6 ((be ln 2).map by8) rfl HB6.out (by simp [be_length]) (one_by8P _) (by omega) hsz6 ?_)
        intro v7 w7 hown7 hgr7 _
        obtain ⟨A7, c7, rfl, _, _⟩ := own_full hown7
        have hI7 : IbS H (md : Int) (sz : Int) A xs c w w7 := HI6.out.up HS.out (Nat.lt_succ_self _) (by omega) ((Below.refl _ _).own HO6.out hgr7 hsz6 (Nat.le_refl _))
        have heq : 6 + k * 4 + 2 + 2 = 6 + (k + 1) * 4 := by omega
        rw [heq] at hown7
        have hO7 : w7.ownsRow (H + 1) 5 1 (.slice A7 (6 + (k + 1) * 4) c7) (6 + (k + 1) * 4) ((encIT (md : Int) (sz : Int) xs (k + 1)).map by8) := by
          rw [HNext.out]
          simpa [List.append_assoc] using hown7
        have HI7 := Lib.hid hI7
        have HO7 := Lib.hid hO7
        have HEq := Lib.hid heq
        clear hown7 hgr7 hI7 hO7 heq
        go_wp2_with fail
        go_roundw
        case rel => exact ⟨k + 1, A7, c7, by omega, by go_num, by rw [HEq.out], HI7.out, HO7.out⟩
        case measure => simp [intOf]; omega
      · obtain rfl : k = n := by omega
        have t1 : decide ((k : Int) < (k : Int)) = false := by simp
        have hlen := encIT_length (mode := (md : Int)) (size := (sz : Int)) (xs := xs) k (by rw [← HN.out]; exact Nat.le_refl _)
        have hO := HO.out
        rw [HAll.out] at hlen hO
        have HLen := Lib.hid hlen
        have HO' := Lib.hid hO
        clear hlen hO
        go_wp2_with fail
        go_ret
        exact ⟨B, d, by rw [HLen.out]; rfl, Sees.of_own HO'.out, HI.out.bel⟩
end Go.Proofs.Ytkeebkackbkfhaa
