/- The contracts of the reference's Parts and Part; the parts, one behind the other, are the bytes. Condition: at most 65536 bytes. -/
import Derived.Test.YtgjhcmjkdjnjfaaMoveAwake
import Derived.Test.YtgjhcmjkdjnjfaaSame
namespace Go.Cat.Move
open Go.RowKit
theorem chunks_take {bs : List UInt8} {k : Nat} (hk : k ≤ (chunks bs).length) : ((chunks bs).take k).flatten = bs.take (1024 * k) := by
  induction k with
  | zero => simp
  | succ k ih =>
    rw [List.take_succ_eq_append_getElem (by omega), List.flatten_append, ih (by omega), chunks_at (by omega)]
    simp only [List.flatten_cons, List.flatten_nil, List.append_nil]
    rw [show 1024 * (k + 1) = 1024 * k + 1024 from by omega, List.take_add]
theorem chunks_all (bs : List UInt8) : ((chunks bs).take (chunks bs).length).flatten = bs := by
  rw [chunks_take (Nat.le_refl _), List.take_of_length_le]
  rw [chunks_length]
  unfold ccount
  omega
theorem chunkAt_nat {bs : List UInt8} {k : Nat} (hk : k < (chunks bs).length) : chunkAt bs k = (bs.drop (1024 * k)).take 1024 := by
  have e1 : chunkAt bs k = (chunks bs)[k] := by unfold chunkAt; rw [if_pos (by omega), Int.toNat_natCast, List.getD_eq_getElem?_getD, List.getElem?_eq_getElem hk]; rfl
  rw [e1, chunks_at hk]
theorem sees_off {w : World} {b off : Nat} {xs : List Value} (h : Sees w (some ⟨b, off, none⟩) xs) (k m : Nat) : Sees w (some ⟨b, off + k, none⟩) ((xs.drop k).take m) := by
  rcases h with rfl | ⟨b', off', hA, hc⟩
  · exact .inl (by simp)
  · injection hA with hA
    injection hA with h1 h2
    subst h1 h2
    refine .inr ⟨b, off + k, rfl, fun j u hu => ?_⟩
    rw [List.getElem?_take] at hu
    split at hu
    · rw [List.getElem?_drop] at hu
      rw [Nat.add_assoc]
      exact hc _ u hu
    · cases hu
end Go.Cat.Move
namespace Go.Proofs.Ytgjhcmjkdjnjfaa
open Go.RowKit Go.Cat Go.Cat.Move

theorem rparts_any (A : Option Addr) (bs : List UInt8) (c : Nat) (w : World) (hL : bs.length ≤ 65536) :
    Calls Try.prog 13 #[.slice A bs.length c] w fun e w' => e = .returned (.int .i64 ((chunks bs).length : Int)) ∧ w = w' := by
  have hl := chunks_length bs
  unfold ccount at hl
  obtain ⟨L, hLL⟩ : ∃ L, L = bs.length := ⟨_, rfl⟩
  obtain ⟨n, hn⟩ : ∃ n, n = (chunks bs).length := ⟨_, rfl⟩
  rw [← hLL] at hL hl ⊢
  rw [← hn] at hl ⊢
  have HL := Lib.hid hl
  clear hl hLL hn
  go_enter Try.func13, Try.ntmps13
  go_wp2
  go_loop [3] (fun t => ∃ k : Nat, 1 ≤ k ∧ k ≤ 65 ∧ (1 < k → (k - 1) * 1024 < L) ∧ t = .int .i64 k) (fun t => 70 - (intOf t).toNat)
  case atStart => exact ⟨1, by omega, by omega, by omega, rfl⟩
  case round =>
    obtain ⟨k, h1, h2, h3, rfl⟩ := hrel
    by_cases hlt : k * 1024 < L
    · have t1 : decide ((k : Int) * 1024 < (L : Int)) = true := by simp; omega
      have hI : (k : Int) * 1024 < (L : Int) := by omega
      go_wp2
      go_round
      case rel => exact ⟨k + 1, by omega, by omega, by omega, by go_num⟩
      case measure => simp [intOf]; omega
    · have t1 : decide ((k : Int) * 1024 < (L : Int)) = false := by simp; omega
      have hk : k = n := by have := HL.out; omega
      have HK := Lib.hid hk
      clear hk
      go_wp2
      go_ret
      exact ⟨ret_int (by rw [HK.out]), rfl⟩

/-- A part is told as it lies. -/
def ToldRPart (l : List UInt8) (ok : Bool) (w : World) (e : Ending) (w' : World) : Prop := ∃ A' c', e = .returned (.tuple #[.slice A' l.length c', .bool ok]) ∧ Bytes w A' l ∧ w = w'
theorem rpart_off {w : World} {A : Option Addr} {bs l : List UInt8} {k : Nat} (hb : Bytes w A bs) (h : l = (bs.drop (1024 * k)).take 1024) : Bytes w (Option.map (fun x => x.add (k * 1024)) A) l := by
  rcases hb with h0 | ⟨b, off, rfl, hc⟩
  · have : bs = [] := by simpa using h0
    subst this
    rw [h]
    exact .inl (by simp)
  · have hs := sees_off (w := w) (b := b) (off := off) (xs := bs.map by8) (.inr ⟨b, off, rfl, hc⟩) (1024 * k) 1024
    rw [h]
    unfold Bytes
    rw [List.map_take, List.map_drop]
    have e : Option.map (fun x : Addr => x.add (k * 1024)) (some ⟨b, off, none⟩) = some ⟨b, off + 1024 * k, none⟩ := by
      simp only [Option.map, Addr.add]
      rw [Nat.mul_comm k 1024]
      split
      · rename_i h0; rw [h0]; rfl
      · rfl
    rw [e]
    exact hs

set_option maxRecDepth 100000 in
theorem rpart_any (A : Option Addr) (bs : List UInt8) (c : Nat) (i : Int) (w : World) (hb : Bytes w A bs) (hL : bs.length ≤ 65536) (hc : bs.length ≤ c) :
    Calls Try.prog 10 #[.slice A bs.length c, .int .i64 i] w (ToldRPart (chunkAt bs i) (hasChunk bs i) w) := by
  have p1 := rparts_any A bs c w hL
  have hlen : (chunks bs).length ≤ 65 := by rw [chunks_length]; unfold ccount; omega
  by_cases h0 : i < 0
  · have d : decide (i < 0) = true := by simpa using h0
    have e1 : chunkAt bs i = [] := by unfold chunkAt; rw [if_neg (by omega)]
    have e2 : hasChunk bs i = false := by unfold hasChunk; simp; omega
    rw [e1, e2]
    clear h0 p1 e1 e2
    go_enter Try.func10, Try.ntmps10
    go_wp2_with fail
    go_ret2
    exact ⟨none, 0, rfl, Bytes.nil_, rfl⟩
  · have d : decide (i < 0) = false := by simpa using h0
    by_cases h1 : ((chunks bs).length : Int) ≤ i
    · have e1 : chunkAt bs i = [] := by unfold chunkAt; rw [if_neg (by omega)]
      have e2 : hasChunk bs i = false := by unfold hasChunk; simp; omega
      rw [e1, e2]
      have d2 : decide (((chunks bs).length : Int) ≤ i) = true := by simpa using h1
      have P1 := Lib.hid p1
      clear h0 h1 p1 e1 e2
      go_enter Try.func10, Try.ntmps10
      go_wp2_with fail
      refine (P1.out).mono ?_
      rintro e w' ⟨rfl, rfl⟩
      go_wp2_with fail
      go_ret2
      exact ⟨none, 0, rfl, Bytes.nil_, rfl⟩
    · have d2 : decide (((chunks bs).length : Int) ≤ i) = false := by simpa using h1
      obtain ⟨k, rfl⟩ := Int.eq_ofNat_of_zero_le (by omega : 0 ≤ i)
      have hk : k < (chunks bs).length := by omega
      have e1 := chunkAt_nat hk
      have e2 : hasChunk bs k = true := by unfold hasChunk; simp; omega
      have e3 := chunkAt_length hk
      rw [e2]
      obtain ⟨l, hl⟩ : ∃ l, l = chunkAt bs k := ⟨_, rfl⟩
      rw [← hl] at e1 e3 ⊢
      have hcl := chunks_length bs
      unfold ccount at hcl
      obtain ⟨n, hn⟩ : ∃ n, n = (chunks bs).length := ⟨_, rfl⟩
      rw [← hn] at p1 hk hcl hlen d2
      obtain ⟨L, hLL⟩ : ∃ L, L = bs.length := ⟨_, rfl⟩
      rw [← hLL] at p1 hcl e3 hc hL ⊢
      have P1 := Lib.hid p1
      have HE := Lib.hid e1
      have hkI : (k : Int) * 1024 ≤ (L : Int) := by omega
      have hk0 : (0 : Int) ≤ (k : Int) * 1024 := by omega
      by_cases hle : L < (k + 1) * 1024
      · have t1 : decide ((L : Int) < ((k : Int) + 1) * 1024) = true := by simp; omega
        have hlen2 : l.length = L - k * 1024 := by omega
        have HLen := Lib.hid hlen2
        have HNn := Lib.hid hcl
        clear hlen2 e3 e1 hl hcl hn h0 h1 p1 e2 hLL
        go_enter Try.func10, Try.ntmps10
        go_wp2_with fail
        refine (P1.out).mono ?_
        rintro e w' ⟨rfl, rfl⟩
        go_wp2_with fail
        · go_ret2
          have h0 : l.length = 0 := by rw [HLen.out]; omega
          exact ⟨_, _, ret_slice2 HLen.out.symm, by rw [List.eq_nil_of_length_eq_zero h0]; exact Bytes.nil_, rfl⟩
        · go_ret2
          exact ⟨_, _, ret_slice2 HLen.out.symm, rpart_off hb HE.out, rfl⟩
      · have t1 : decide ((L : Int) < ((k : Int) + 1) * 1024) = false := by simp; omega
        have hlen2 : l.length = (k + 1) * 1024 - k * 1024 := by omega
        have hk1 : ((k : Int) + 1) * 1024 ≤ (L : Int) := by omega
        have hk2 : (k : Int) * 1024 ≤ ((k : Int) + 1) * 1024 := by omega
        have HLen := Lib.hid hlen2
        have HNn := Lib.hid hcl
        clear hlen2 e3 e1 hl hcl hn h0 h1 p1 e2 hLL
        go_enter Try.func10, Try.ntmps10
        go_wp2_with fail
        refine (P1.out).mono ?_
        rintro e w' ⟨rfl, rfl⟩
        go_wp2_with fail
        go_ret2
        exact ⟨_, _, ret_slice2 HLen.out.symm, rpart_off hb HE.out, rfl⟩
end Go.Proofs.Ytgjhcmjkdjnjfaa
