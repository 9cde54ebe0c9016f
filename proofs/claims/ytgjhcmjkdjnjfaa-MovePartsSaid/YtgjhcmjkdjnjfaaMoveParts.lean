/- The walk of the law MoveParts. Condition: numbers within their kinds. -/
import Derived.Test.YtgjhcmjkdjnjfaaMoveRefP
namespace Go.Proofs.Ytgjhcmjkdjnjfaa
open Go.RowKit Go.Cat Go.Cat.Move

set_option maxRecDepth 100000 in
set_option maxHeartbeats 2000000 in
theorem parts_walk (at_ i : Int) (A : Option Addr) (bs : List UInt8) (c : Nat) (w : World) (hb : Bytes w A bs) (hc : bs.length ≤ c) (hcm : c ≤ maxLen) :
    Calls Try.prog 3 #[.int .u64 at_, .slice A bs.length c, .int .i64 i] w fun e w' => e = .returned (.bool true) ∧ Below w.heap.size w w' := by
  have hcm' := hcm
  unfold maxLen at hcm'
  by_cases hlong : 6000 < bs.length
  · have d : decide ((6000 : Int) < (bs.length : Int)) = true := by simp; omega
    go_enter Try.func3, Try.ntmps3
    go_wp2_with fail
    refine (awake_any w).mono ?_
    rintro e w' ⟨rfl, hB⟩
    go_wp2_with fail
    go_ret
    exact ⟨rfl, hB⟩
  have d : decide ((6000 : Int) < (bs.length : Int)) = false := by simp; omega
  have hL : bs.length ≤ 65536 := by omega
  have p1 := new_any at_ A bs c w hb hL
  have p2 := fun w' (h : Below w.heap.size w w') => rpart_any A bs c i w' (hb.below h) hL hc
  have p3 := fun w' => rparts_any A bs c w' hL
  have hcl := chunks_length bs
  unfold ccount at hcl
  obtain ⟨L, hLL⟩ : ∃ L, L = bs.length := ⟨_, rfl⟩
  rw [← hLL] at p1 p2 p3 d hlong ⊢
  obtain ⟨n, hn⟩ : ∃ n, n = (chunks bs).length := ⟨_, rfl⟩
  have hn6 : n ≤ 6 := by omega
  obtain ⟨l, hl⟩ : ∃ l, l = chunkAt bs i := ⟨_, rfl⟩
  obtain ⟨ok, hok⟩ : ∃ ok, ok = hasChunk bs i := ⟨_, rfl⟩
  have hll : l.length ≤ 1024 := by rw [hl]; exact chunkAt_le bs i
  rw [← hl, ← hok] at p2
  rw [← hn] at p3
  have P1 := Lib.hid p1
  have P2 := Lib.hid p2
  have P3 := Lib.hid p3
  have HN := Lib.hid hn
  have Hl := Lib.hid hl
  have HOk := Lib.hid hok
  have HLL := Lib.hid hLL
  have HL := Lib.hid hL
  have HHb := Lib.hid hb
  clear p1 p2 p3 hcl hn hl hok hLL hL hb hlong
  go_enter Try.func3, Try.ntmps3
  go_wp2_with fail
  refine (P1.out).mono ?_
  rintro e w1 ⟨rfl, hO, hB1⟩
  have p4 := part_any w.heap.size w.heap.size at_ bs i w1 hO HL.out
  rw [← Hl.out, ← HOk.out] at p4
  have P4 := Lib.hid p4
  have HO := Lib.hid hO
  clear p4 hO
  go_wp2_with fail
  refine (P4.out).mono ?_
  rintro e w2 ⟨A2, c2, rfl, ho2, hB2⟩
  have hd2 : Bytes w2 A2 l := Sees.of_own ho2
  have hB2w := hB1.trans (hB2.mono hB1.size)
  have HO2 := Lib.hid (HO.out.below hB2)
  have HD2 := Lib.hid hd2
  clear ho2 hd2 hB1 hB2
  go_wp2_with fail
  refine (P2.out _ hB2w).mono ?_
  rintro e w3 ⟨A3, c3, rfl, hd3, rfl⟩
  have HD3 := Lib.hid hd3
  clear hd3
  go_wp2_with fail
  go_loopw [12, 13] (fun v iv wr => ∃ (k m : Nat) (Al : Option Addr) (cl : Nat), k ≤ n ∧ iv = .int .i64 k ∧ v = .slice Al m cl ∧ Hid (m = (((chunks bs).take k).flatten).length) ∧ Hid (wr.ownsRow w2.heap.size 5 1 (.slice Al m cl) m ((((chunks bs).take k).flatten).map by8)) ∧ m ≤ 1024 * k ∧ Below w2.heap.size w2 wr) (fun _ iv _ => n - (intOf iv).toNat)
  case atStart => exact ⟨0, 0, none, 0, Nat.zero_le _, rfl, rfl, Lib.hid (by simp), Lib.hid (World.ownsRow_nil _ _ _ _), Nat.zero_le _, Below.refl _ _⟩
  case round =>
    obtain ⟨k, m, Al, cl, hk, rfl, rfl, HM, HRow, hmk, hbel⟩ := hrel
    have hOr := HO2.out.below hbel
    have p5 := parts_any _ _ _ _ _ hOr
    rw [← HN.out] at p5
    have P5 := Lib.hid p5
    clear p5
    by_cases hlt : k < n
    · have t1 : decide (k < n) = true := by simpa using hlt
      have t2 : decide ((k : Int) < 20) = true := by simp; omega
      have hlen := chunkAt_length (bs := bs) (k := k) (by rw [← HN.out]; exact hlt)
      have hkc : chunkAt bs k = (chunks bs)[k]'(by rw [← HN.out]; exact hlt) := by rw [chunkAt_nat (by rw [← HN.out]; exact hlt), chunks_at]
      have p6 := part_any w.heap.size w.heap.size at_ bs k wr hOr HL.out
      obtain ⟨q, hq⟩ : ∃ q, q = chunkAt bs k := ⟨_, rfl⟩
      rw [← hq] at p6 hlen hkc
      have hql : q.length ≤ 1024 := by omega
      have P6 := Lib.hid p6
      have HQ := Lib.hid hkc
      clear p6 hlen hkc hq hOr
      go_wp2_with fail
      refine (P5.out).mono ?_
      rintro e w4 ⟨rfl, rfl⟩
      go_wp2_with fail
      refine (P6.out).mono ?_
      rintro e w5 ⟨A5, c5, rfl, ho5, hB5⟩
      have hs5 : Bytes w5 A5 q := Sees.of_own ho5
      have hrow5 := own_touch (K := fun _ => False) HRow.out (Tch.of_below hB5) fun _ _ h => h
      have hbel5 := hbel.trans (hB5.mono hbel.size)
      have HRow5 := Lib.hid hrow5
      have HS5 := Lib.hid hs5
      clear ho5 hs5 hrow5 hB5
      go_wp2_with (at_builtin; refine wpList_app elem_u8 rfl (.tmp 51) (.tmp 52) rfl w2.heap.size (.slice Al m cl) m _ rfl HRow5.out A5 q.length c5 (q.map by8) rfl HS5.out (by simp) (one_by8 _) (by omega) hbel5.size ?_)
      intro v6 w6 hown6 hg6 _
      have hbel6 : Below w2.heap.size w2 w6 := hbel5.own HRow5.out hg6 hbel5.size (Nat.le_refl _)
      obtain ⟨A6, c6, rfl, _, _⟩ := own_full hown6
      have HO6 := Lib.hid hown6
      clear hown6 hg6 hbel5
      go_wp2_with fail
      go_roundw
      case rel =>
        have ek : ((chunks bs).take (k + 1)).flatten = ((chunks bs).take k).flatten ++ q := by
          rw [List.take_succ_eq_append_getElem (by rw [← HN.out]; exact hlt), List.flatten_append, HQ.out]
          simp
        refine ⟨k + 1, m + q.length, A6, c6, by omega, by go_num, rfl, Lib.hid (by rw [ek, List.length_append, ← HM.out]), Lib.hid ?_, by omega, hbel6⟩
        rw [ek, List.map_append]
        have h6 := HO6.out
        rw [List.map_flatten, List.map_take]
        exact h6
      case measure => simp [intOf]; omega
    · obtain rfl : k = n := by omega
      have t1 : decide (k < k) = false := by simp
      have he : ((chunks bs).take k).flatten = bs := by rw [HN.out]; exact chunks_all bs
      have hm := HM.out
      have hrow := HRow.out
      rw [he] at hm hrow
      subst hm
      have p7 := at_any _ _ _ _ _ hOr
      have hsl : Bytes wr Al bs := ownN_sees hrow
      have hbr : Bytes wr A bs := (HHb.out.below hB2w).below hbel
      have p8 := same8_any A2 A3 l.length l.length c2 c3 l l wr (HD2.out.below hbel) (HD3.out.below hbel) rfl rfl (by omega) (by omega)
      have p9 := fun q => same8_any Al A bs.length L cl c bs bs (wr.drewN q) hsl hbr rfl HLL.out (by omega) (by have := HLL.out; omega)
      rw [show decide (l = l) = true by simp] at p8
      have P7 := Lib.hid p7
      have P8 := Lib.hid p8
      have P9 : Hid (∀ q, Calls Try.prog 14 #[.slice Al bs.length cl, .slice A L c] (wr.drewN q) fun e w' => e = .returned (.bool true) ∧ ∃ k, w' = (wr.drewN q).drewN k) := Lib.hid fun q => by
        have := p9 q
        rwa [show decide (bs = bs) = true by simp] at this
      clear p7 p8 p9 hOr hrow he hsl hbr
      go_wp2_with fail
      refine (P5.out).mono ?_
      rintro e w4 ⟨rfl, rfl⟩
      go_wp2_with fail
      refine (P7.out).mono ?_
      rintro e w4 ⟨rfl, rfl⟩
      go_wp2_with fail
      refine (P5.out).mono ?_
      rintro e w4 ⟨rfl, rfl⟩
      go_wp2_with fail
      refine (P3.out _).mono ?_
      rintro e w4 ⟨rfl, rfl⟩
      go_wp2_with fail
      refine (P8.out).mono ?_
      rintro e w4 ⟨rfl, q1, rfl⟩
      go_wp2_with fail
      refine (P9.out q1).mono ?_
      rintro e w4 ⟨rfl, q2, rfl⟩
      go_wp2_with fail
      refine (awake_any _).mono ?_
      rintro e w5 ⟨rfl, hB5⟩
      have hfin : Below w.heap.size w w5 := (hB2w.trans (hbel.mono hB2w.size)).trans ((below_drewN (Below.refl w.heap.size wr) (q1 + q2)).trans (hB5.mono (by have := hbel.size; have := hB2w.size; show w.heap.size ≤ wr.heap.size; omega)))
      go_wp2_with fail
      go_ret
      exact ⟨rfl, hfin⟩
end Go.Proofs.Ytgjhcmjkdjnjfaa
