/- The contract of the law's awake. No condition. -/
import Derived.Test.YtgjhcmjkdjnjfaaMoveTake
import Derived.Laws.IdiomStrings
import Derived.Lib.SlBytesConst
namespace Go.Cat.Move
open Go.RowKit
theorem chunkAt_length {bs : List UInt8} {k : Nat} (hk : k < (chunks bs).length) : (chunkAt bs k).length = min 1024 (bs.length - 1024 * k) := by
  have e1 : chunkAt bs k = (chunks bs)[k] := by unfold chunkAt; rw [if_pos (by omega), Int.toNat_natCast, List.getD_eq_getElem?_getD, List.getElem?_eq_getElem hk]; rfl
  rw [e1, chunks_at hk, List.length_take, List.length_drop]
theorem made8 (n : Nat) : (madeCells #[.int .u8 0] n).toList = (List.replicate n (0 : UInt8)).map by8 := by
  apply List.ext_getElem?
  intro j
  by_cases hj : j < n
  · simp [madeCells, hj, by8, Nat.mod_one]
  · simp [madeCells, hj]
theorem take1 : takeIn (again 0) 7 0 2 [97] = (with1 (again 7) 2 [97], [], false) := by
  have h1 : ¬ refuses (again 0) 7 0 2 [97] := by simp [refuses, again]
  have h2 : first (again 0) 7 2 = again 7 := if_pos (by simp [turned, again])
  unfold takeIn
  rw [if_neg h1, h2, if_neg (by simp [again]), if_pos (by simp [again])]
theorem take2 : takeIn (with1 (again 7) 2 [97]) 7 1 2 [98] = (again 7, [97, 98], true) := by
  have h1 : ¬ refuses (with1 (again 7) 2 [97]) 7 1 2 [98] := by simp [refuses, again, with1]
  have h2 : first (with1 (again 7) 2 [97]) 7 2 = with1 (again 7) 2 [97] := if_neg (by simp [turned, again, with1])
  unfold takeIn
  rw [if_neg h1, h2, if_neg (by simp [again, with1]), if_neg (by simp [again, with1])]
  rfl
end Go.Cat.Move
namespace Go.Proofs.Ytgjhcmjkdjnjfaa
open Go.RowKit Go.Cat Go.Cat.Move

theorem sees_const (w : World) (xs : List Value) (e : TypeId) (fr : Nat × Nat) : Sees (w.alloc (.cells xs.toArray e fr)) (some ⟨w.heap.size, 0, none⟩) xs := by
  refine .inr ⟨_, 0, rfl, fun j u hu => ?_⟩
  rw [Nat.zero_add, cell_of_row _ _ j _ _ _ (heap_alloc_new w _)]
  simpa using hu

theorem conv_ab {base : Nat} {A : Option Addr} {c : Nat} {w : World} (h : w.ownsRow base 5 1 (.slice A 2 c) 2 ([97, 98].map by8)) : (convert 23 9 (.slice A 2 c)).run Try.prog w = .ok (.string ⟨#[97, 98]⟩) w := by
  obtain ⟨ad, rfl, hc⟩ := Sees.addr (ownN_sees h) (by simp)
  refine run_convert_bytes_back w _ _ 5 ad c [97, 98] Try.underlying23 Try.underlying5 Try.underlying9 fun j hj => hc j _ ?_
  rw [List.getElem?_map, List.getElem?_eq_getElem hj]
  rfl

set_option maxRecDepth 100000 in
theorem awake_any (w : World) : Calls Try.prog 7 #[] w fun e w' => e = .returned (.bool true) ∧ Below w.heap.size w w' := by
  obtain ⟨i0, hi, hz0, hz1, hz2⟩ := info_parts info_u8
  obtain ⟨n, hn⟩ : ∃ n : Nat, n = 2050 := ⟨_, rfl⟩
  have HN := Lib.hid hn
  have hnI : (2050 : Int) = (n : Int) := by omega
  have HNI := Lib.hid hnI
  have hcv := fun (w : World) (C : Array Value) (n c : Nat) => Lib.run_convert_bytes_const (P := Try.prog) w 23 5 C n c Try.underlying23 Try.underlying5
  clear hn hnI
  go_enter Try.func7, Try.ntmps7
  go_wp2_with (at_make; refine wpList_make_full _ rfl _ _ 23 rfl w.heap.size 5 i0 (.int .u8 0) 1 Try.underlying23 hi hz0 hz1 _ _ _ _ n (by rw [← HNI.out]; rfl) (by rw [← HNI.out]; rfl) rfl rfl ?m1 ?m2 ?m3 ?_)
  case m1 => rw [hz2, HN.out]; omega
  case m2 => rw [HN.out]; unfold maxLen; omega
  case m3 => exact Nat.le_refl _
  intro w1 hown1 hg1
  rw [made8] at hown1
  have hB1 : Below w.heap.size w w1 := (Below.refl _ _).grown hg1 (Nat.le_refl _) (fun k hk => by cases hk)
  have hlen : (List.replicate n (0 : UInt8)).length = n := List.length_replicate
  have hp := new_any 7 (some ⟨w.heap.size, 0, none⟩) (List.replicate n 0) n w1 (ownN_sees hown1) (by rw [hlen, HN.out]; omega)
  rw [hlen] at hp
  have HP := Lib.hid hp
  clear hown1 hg1 hi hz0 hz1 hz2 hlen hp
  go_wp2_with fail
  refine (HP.out).mono ?_
  rintro e w2 ⟨rfl, hO, hB2⟩
  have hlc : (chunks (List.replicate n (0 : UInt8))).length = 3 := by rw [chunks_length, List.length_replicate, HN.out]; decide
  have p2 := part_any w1.heap.size w1.heap.size 7 (List.replicate n 0) 2 w2 hO (by rw [List.length_replicate, HN.out]; omega)
  have hh : hasChunk (List.replicate n 0) 2 = true := by unfold hasChunk; rw [hlc]; decide
  obtain ⟨l2, hl2⟩ : ∃ l2, l2 = chunkAt (List.replicate n 0) 2 := ⟨_, rfl⟩
  have hl2n : l2.length = 2 := by
    have := chunkAt_length (bs := List.replicate n (0 : UInt8)) (k := 2) (by rw [hlc]; omega)
    rw [hl2]
    refine Eq.trans this ?_
    rw [List.length_replicate, HN.out]
    decide
  rw [hh, ← hl2] at p2
  have P2 := Lib.hid p2
  have HO := Lib.hid hO
  have HL2 := Lib.hid hl2n
  have HLc := Lib.hid hlc
  have hB2w := hB1.trans (hB2.mono hB1.size)
  clear p2 hO hh hl2 hl2n hlc hB1 hB2
  go_wp2_with fail
  refine (P2.out).mono ?_
  rintro e w3 ⟨A3, c3, rfl, _, hB3⟩
  rw [HL2.out]
  have HB3 := Lib.hid hB3
  have hB3w := hB2w.trans (hB3.mono hB2w.size)
  clear hB3
  go_wp2_with fail
  refine (begin_any w3).mono ?_
  rintro e w4 ⟨rfl, hx4, hB4⟩
  have hlt4 := hx4.lt
  obtain ⟨W5, hW5⟩ : ∃ W5, W5 = w4.alloc (.cells #[.int .u8 97] 5 (1, 2)) := ⟨_, rfl⟩
  have hB5 : Below w4.heap.size w4 W5 := by rw [hW5]; exact (Below.refl _ _).alloc (Nat.le_refl _) _
  have hb5 : Bytes W5 (some ⟨w4.heap.size, 0, none⟩) [97] := by rw [hW5]; exact sees_const w4 ([97].map by8) _ _
  have p5 := take_any w3.heap.size w3.heap.size _ (again 0) 7 0 2 (some ⟨w4.heap.size, 0, none⟩) [97] 1 W5 (hx4.below hB5) hb5 (by simp) (by simp [again]) (by simp [again]) (by have := hB5.size; omega)
    (by rintro k (rfl | h) o e
        · injection e with e; injection e with e; omega
        · cases h)
  rw [take1, hW5] at p5
  have P5 := Lib.hid p5
  rw [hW5] at hB5
  have HB4 := Lib.hid hB4
  have hB35 := hB4.trans (hB5.mono hB4.size)
  have hB5w := hB3w.trans (hB35.mono hB3w.size)
  have hs5 := (hB4.trans (hB5.mono hB4.size)).size
  clear hW5 p5 hx4 hb5 hB4 hB5
  go_wp2_with fail
  refine (P5.out).mono ?_
  rintro e w6 ⟨R6, A6, c6, rfl, hx6, _, _, ht6⟩
  have hB6 : Below w3.heap.size (w4.alloc (.cells #[.int .u8 97] 5 (1, 2))) w6 := ht6.below hs5 (by
    rintro k (rfl | h)
    · exact Nat.le_refl _
    · cases h)
  have hB36 := hB35.trans hB6
  have hB6w := hB5w.trans (hB6.mono hB3w.size)
  have hs6 := Nat.le_trans hs5 hB6.size
  obtain ⟨W7, hW7⟩ : ∃ W7, W7 = w6.alloc (.cells #[.int .u8 98] 5 (1, 2)) := ⟨_, rfl⟩
  have hB7 : Below w6.heap.size w6 W7 := by rw [hW7]; exact (Below.refl _ _).alloc (Nat.le_refl _) _
  have hb7 : Bytes W7 (some ⟨w6.heap.size, 0, none⟩) [98] := by rw [hW7]; exact sees_const w6 ([98].map by8) _ _
  have p7 := take_any w3.heap.size w3.heap.size R6 (with1 (again 7) 2 [97]) 7 1 2 (some ⟨w6.heap.size, 0, none⟩) [98] 1 W7 (hx6.below hB7) hb7 (by simp) (by simp [again, with1]) (by simp [again, with1]) (by have := hB7.size; omega)
    (by rintro k (rfl | h) o e
        · injection e with e; injection e with e; have := hx6.lt; omega
        · injection e with e; injection e with e; have := (hx6.row.lt k h).2; omega)
  rw [take2, hW7] at p7
  have P7 := Lib.hid p7
  rw [hW7] at hB7
  have HX6 := Lib.hid hx6
  have hB37 := hB36.trans (hB7.mono hs6)
  have hB7w := hB6w.trans (hB7.mono hB6w.size)
  have hs7 := Nat.le_trans hs6 hB7.size
  clear hW7 p7 hx6 hb7 hB6 hB7 ht6
  go_wp2_with fail
  refine (P7.out).mono ?_
  rintro e w8 ⟨R8, A8, c8, rfl, hx8, ho8, _, ht8⟩
  have hB8 : Below w3.heap.size (w6.alloc (.cells #[.int .u8 98] 5 (1, 2))) w8 := ht8.below hs7 HX6.out.mine
  have hB8w := hB7w.trans (hB8.mono hB3w.size)
  have hO8 := (HO.out.below HB3.out).below (hB37.trans hB8)
  have pp := parts_any _ _ _ _ _ hO8
  have pa := at_any _ _ _ _ _ hO8
  rw [HLc.out] at pp
  have PP := Lib.hid pp
  have PA := Lib.hid pa
  have hst : (convert 23 9 (.slice A8 2 c8)).run Try.prog w8 = .ok (.string ⟨#[97, 98]⟩) w8 := conv_ab ho8
  clear pp pa hO8 hB35 hB36 hB37 hB8 ho8 hx8 ht8 hB5w hB6w hB7w hB2w hB3w
  go_wp2_with fail
  refine (PP.out).mono ?_
  rintro e w9 ⟨rfl, rfl⟩
  go_wp2_with fail
  refine (PA.out).mono ?_
  rintro e w9 ⟨rfl, rfl⟩
  go_wp2_with fail
  go_ret
  exact ⟨rfl, hB8w⟩
end Go.Proofs.Ytgjhcmjkdjnjfaa
