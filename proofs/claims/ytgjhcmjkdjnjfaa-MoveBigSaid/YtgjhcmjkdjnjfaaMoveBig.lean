/- The walk of the law MoveBig. Condition: a number within its kind. -/
import Derived.Test.YtgjhcmjkdjnjfaaMoveAwake
namespace Go.Proofs.Ytgjhcmjkdjnjfaa
open Go.RowKit Go.Cat Go.Cat.Move

set_option maxRecDepth 100000 in
set_option maxHeartbeats 1000000 in
theorem big_walk (m : Nat) (w : World) (hm : m ≤ 65535) : Calls Try.prog 4 #[.int .u16 (m : Int)] w fun e w' => e = .returned (.bool true) ∧ Below w.heap.size w w' := by
  obtain ⟨i0, hi, hz0, hz1, hz2⟩ := info_parts info_u8
  obtain ⟨n, hn⟩ : ∃ n : Nat, n = m % 9000 := ⟨_, rfl⟩
  have hn9 : n < 9000 := by omega
  have hnI : (m : Int) % 9000 = (n : Int) := by omega
  clear hn
  go_enter Try.func4, Try.ntmps4
  go_wp2_with (at_make; refine wpList_make_full _ rfl _ _ 23 rfl w.heap.size 5 i0 (.int .u8 0) 1 Try.underlying23 hi hz0 hz1 _ _ _ _ n (congrArg (Value.int .i64) hnI) (congrArg (Value.int .i64) hnI) rfl rfl ?m1 ?m2 ?m3 ?_)
  case m1 => rw [hz2]; omega
  case m2 => unfold maxLen; omega
  case m3 => exact Nat.le_refl _
  intro w1 hown1 hg1
  rw [made8] at hown1
  have hB1 : Below w.heap.size w w1 := (Below.refl _ _).grown hg1 (Nat.le_refl _) (fun k hk => by cases hk)
  have hlen : (List.replicate n (0 : UInt8)).length = n := List.length_replicate
  have hp := new_any 1 (some ⟨w.heap.size, 0, none⟩) (List.replicate n 0) n w1 (ownN_sees hown1) (by rw [hlen]; omega)
  rw [hlen] at hp
  have HP := Lib.hid hp
  clear hown1 hg1 hi hz0 hz1 hz2 hlen hp hnI
  go_wp2_with fail
  refine (HP.out).mono ?_
  rintro e w2 ⟨rfl, hO, hB2⟩
  obtain ⟨cnt, hcnt⟩ : ∃ cnt, (chunks (List.replicate n (0 : UInt8))).length = cnt + 1 := ⟨(chunks (List.replicate n (0 : UInt8))).length - 1, by rw [chunks_length]; omega⟩
  have hc1 : cnt + 1 = max 1 ((n + 1023) / 1024) := by rw [← hcnt, chunks_length, List.length_replicate]; rfl
  have hc9 : cnt ≤ 9 := by omega
  have hc2 : (cnt : Int) * 1024 ≤ n := by omega
  have p1 := parts_any _ _ _ _ _ hO
  rw [hcnt] at p1
  have p2 := part_any w1.heap.size w1.heap.size 1 (List.replicate n 0) cnt w2 hO (by rw [List.length_replicate]; omega)
  have hh : hasChunk (List.replicate n 0) cnt = true := by unfold hasChunk; rw [hcnt]; simp; omega
  obtain ⟨l2, hl2⟩ : ∃ l2, l2 = chunkAt (List.replicate n 0) cnt := ⟨_, rfl⟩
  obtain ⟨q, hq⟩ : ∃ q, q = l2.length := ⟨_, rfl⟩
  have hl2n : q = n - 1024 * cnt := by
    have := chunkAt_length (bs := List.replicate n (0 : UInt8)) (k := cnt) (by rw [hcnt]; omega)
    rw [hq, hl2]
    refine Eq.trans this ?_
    rw [List.length_replicate]
    omega
  rw [hh, ← hl2] at p2
  have P1 := Lib.hid p1
  have P2 := Lib.hid p2
  have hB2w := hB1.trans (hB2.mono hB1.size)
  have hO' := Lib.hid hO
  have HQ := Lib.hid hq
  have hq1 : ((cnt : Int) * 1024 + (q : Int) == (n : Int)) = true := by rw [beq_iff_eq]; omega
  have hq2 : decide ((q : Int) ≤ 1024) = true := by simp; omega
  have hqb : q ≤ 1024 := by omega
  have HC1 := Lib.hid hc1
  have HL2 := Lib.hid hl2n
  have hqn : n ≠ 0 → 0 < q := by omega
  have HQn := Lib.hid hqn
  clear p1 p2 hO hh hl2 hq hcnt hB1 hB2 hc1 hl2n hqn
  go_wp2_with fail
  refine (P1.out).mono ?_
  rintro e w3 ⟨rfl, rfl⟩
  go_wp2_with fail
  refine (P2.out).mono ?_
  rintro e w3 ⟨A3, c3, rfl, _, hB3⟩
  rw [← HQ.out]
  have p4 := parts_any _ _ _ _ _ (hO'.out.below hB3)
  have P4 : Hid (Calls Try.prog 11 #[.pointer (some ⟨w1.heap.size, 0, none⟩)] w3 fun e w' => e = .returned (.int .i64 ((cnt : Int) + 1)) ∧ w3 = w') := Lib.hid (by
    have h1 : (chunks (List.replicate n (0 : UInt8))).length = cnt + 1 := by rw [chunks_length, List.length_replicate]; exact HC1.out.symm
    rw [h1] at p4
    exact p4)
  have hB3w := hB2w.trans (hB3.mono hB2w.size)
  clear p4 hB3 hB2w
  go_wp2_with fail
  refine (P4.out).mono ?_
  rintro e w4 ⟨rfl, rfl⟩
  by_cases hn0 : n = 0
  · have d0 : ((n : Int) == 0) = true := by simp; omega
    have HN0 := Lib.hid hn0
    clear hn0
    go_wp2_with fail
    refine (awake_any _).mono ?_
    rintro e w5 ⟨rfl, hB5⟩
    have hfin := hB3w.trans (hB5.mono hB3w.size)
    go_wp2_with fail
    go_ret
    exact ⟨rfl, hfin⟩
  · have d0 : ((n : Int) == 0) = false := by simp; omega
    have hq0 := HQn.out hn0
    have d1 : decide ((0 : Int) < (q : Int)) = true := by simp; omega
    have d2 : decide (0 < q) = true := by simp; omega
    clear hn0
    go_wp2_with fail
    refine (awake_any _).mono ?_
    rintro e w5 ⟨rfl, hB5⟩
    have hfin := hB3w.trans (hB5.mono hB3w.size)
    go_wp2_with fail
    go_ret
    exact ⟨rfl, hfin⟩
end Go.Proofs.Ytgjhcmjkdjnjfaa
