/- The contracts of the closures of clean and Pick, and of sort.Search with each of them. Condition: at most 65536 versions. -/
import Derived.Test.YtobndboogafjpaaVersMem
namespace Go.Proofs.Ytobndboogafjpaa
open Go.RowKit Go.Cat Go.Cat.Vers

/-- What a search tells: the first place from which on the test holds. -/
def Found (p : Nat → Bool) (n : Nat) (w : World) (e : Ending) (w' : World) : Prop :=
  ∃ k, k ≤ n ∧ e = .returned (.int .i64 (k : Int)) ∧ (∀ i, i < k → p i = false) ∧ (∀ i, k ≤ i → i < n → p i = true) ∧ ∃ m, w' = w.drewN m
theorem Found.mk {p : Nat → Bool} {n : Nat} {w w' : World} {e : Ending} (k : Nat) (h1 : k ≤ n) (h2 : e = .returned (.int .i64 (k : Int))) (h3 : ∀ i, i < k → p i = false) (h4 : ∀ i, k ≤ i → i < n → p i = true) (h5 : ∃ m, w' = w.drewN m) : Found p n w e w' := ⟨k, h1, h2, h3, h4, h5⟩

theorem clean1_any (a d : Nat) (p : Option Addr) (done : Int) (l : List Ver) (k : Nat) (w : World) (ha : w.cell? ⟨a, 0, none⟩ = some (.pointer p)) (hd : w.cell? ⟨d, 0, none⟩ = some (.int .u64 done)) (hb : Blk w p l) (hk : k < l.length) (hs : l.length ≤ 65536) :
    Calls Try.prog 37 #[.int .i64 (k : Int), .pointer (some ⟨a, 0, none⟩), .pointer (some ⟨d, 0, none⟩)] w fun e w' => e = .returned (.bool (decide (done < l[k].seq))) ∧ ∃ m, w' = w.drewN m := by
  rcases hb with ⟨rfl, rfl⟩ | ⟨g, A, c, rfl, hc, hl, hv⟩
  · simp at hk
  · obtain ⟨b, off, A', c', rfl, hbs, e0, e1, e2, _⟩ := hv.at_ hk
    obtain ⟨v, hvk⟩ : ∃ v, v = l[k] := ⟨_, rfl⟩
    rw [← hvk] at e1 ⊢
    have hkI : (k : Int) < (l.length : Int) := by omega
    have hk0 : (0 : Int) ≤ (k : Int) := by omega
    clear hvk hv e0 e2
    go_enter Try.func37, Try.ntmps37
    go_wp2
    go_quiet (fail)
    go_wp2
    go_ret
    exact ⟨rfl, _, rfl⟩
theorem pick1_any (a d : Nat) (p : Option Addr) (ver : Int) (l : List Ver) (k : Nat) (w : World) (ha : w.cell? ⟨a, 0, none⟩ = some (.pointer p)) (hd : w.cell? ⟨d, 0, none⟩ = some (.int .u64 ver)) (hb : Blk w p l) (hk : k < l.length) (hs : l.length ≤ 65536) :
    Calls Try.prog 34 #[.int .i64 (k : Int), .pointer (some ⟨a, 0, none⟩), .pointer (some ⟨d, 0, none⟩)] w fun e w' => e = .returned (.bool (decide (ver ≤ l[k].ver))) ∧ ∃ m, w' = w.drewN m := by
  rcases hb with ⟨rfl, rfl⟩ | ⟨g, A, c, rfl, hc, hl, hv⟩
  · simp at hk
  · obtain ⟨b, off, A', c', rfl, hbs, e0, e1, e2, _⟩ := hv.at_ hk
    obtain ⟨v, hvk⟩ : ∃ v, v = l[k] := ⟨_, rfl⟩
    rw [← hvk] at e0 ⊢
    have hkI : (k : Int) < (l.length : Int) := by omega
    have hk0 : (0 : Int) ≤ (k : Int) := by omega
    clear hvk hv e1 e2
    go_enter Try.func34, Try.ntmps34
    go_wp2
    go_quiet (fail)
    go_wp2
    go_ret
    exact ⟨rfl, _, rfl⟩
theorem search_clean (a d : Nat) (p : Option Addr) (done : Int) (l : List Ver) (w : World) (ha : w.cell? ⟨a, 0, none⟩ = some (.pointer p)) (hd : w.cell? ⟨d, 0, none⟩ = some (.int .u64 done)) (hb : Blk w p l) (hs : l.length ≤ 65536)
    (mono : ∀ i j, i ≤ j → j < l.length → decide (done < (l.getD i zero).seq) = true → decide (done < (l.getD j zero).seq) = true) :
    Calls Try.prog 33 #[.int .i64 (l.length : Int), .func (.func 37) #[] #[.pointer (some ⟨a, 0, none⟩), .pointer (some ⟨d, 0, none⟩)]] w (Found (fun i => decide (done < (l.getD i zero).seq)) l.length w) := by
  have HMo := Lib.hid mono
  clear mono
  obtain ⟨n, hn⟩ : ∃ n, n = l.length := ⟨_, rfl⟩
  rw [← hn] at hs ⊢
  have HN := Lib.hid hn
  clear hn
  go_enter Try.func33, Try.ntmps33
  go_wp2
  go_loopw [5, 6] (fun i j wr => ∃ x y : Nat, x ≤ y ∧ y ≤ n ∧ i = .int .i64 x ∧ j = .int .i64 y ∧ (∀ i, i < x → decide (done < (l.getD i zero).seq) = false) ∧ (∀ i, y ≤ i → i < n → decide (done < (l.getD i zero).seq) = true) ∧ ∃ m, wr = w.drewN m) (fun i j _ => (intOf j).toNat - (intOf i).toNat)
  case atStart => exact ⟨0, n, Nat.zero_le _, Nat.le_refl _, rfl, rfl, fun i hi => by omega, fun i h1 h2 => by omega, 0, rfl⟩
  case round =>
    obtain ⟨x, y, hxy, hyn, rfl, rfl, hlo, hhi, m, rfl⟩ := hrel
    have HLo := Lib.hid hlo
    have HHi := Lib.hid hhi
    clear hlo hhi
    by_cases hlt : x < y
    · have hmid : (x + y) / 2 < n := by omega
      have hget : l.getD ((x + y) / 2) zero = l[(x + y) / 2]'(by rw [← HN.out]; exact hmid) := by rw [List.getD_eq_getElem?_getD, List.getElem?_eq_getElem (by rw [← HN.out]; exact hmid)]; rfl
      have hcall := clean1_any a d p done l ((x + y) / 2) (w.drewN m) ha hd (hb.drewN m) (by rw [← HN.out]; exact hmid) (by rw [← HN.out]; exact hs)
      rw [← hget, show (((x + y) / 2 : Nat) : Int) = ((x : Int) + (y : Int)) / 2 from by omega] at hcall
      obtain ⟨t, ht⟩ : ∃ t, t = decide (done < (l.getD ((x + y) / 2) zero).seq) := ⟨_, rfl⟩
      rw [← ht] at hcall
      have HT := Lib.hid ht
      clear hget ht
      cases t
      · have HCa := Lib.hid hcall
        clear hcall
        go_wp2_with (go_at_call 37; refine (HCa.out).mono ?_; rintro e w' ⟨rfl, m2, rfl⟩)
        go_roundw
        case rel =>
          refine ⟨(x + y) / 2 + 1, y, by omega, hyn, by first | go_num | (congr 1; omega), rfl, fun i hi => ?_, HHi.out, _, rfl⟩
          rcases Bool.eq_false_or_eq_true (decide (done < (l.getD i zero).seq)) with h | h
          · have := HMo.out i ((x + y) / 2) (by omega) (by rw [← HN.out]; omega) h
            rw [← HT.out] at this
            cases this
          · exact h
        case measure => simp [intOf]; omega
      · have HCa := Lib.hid hcall
        clear hcall
        go_wp2_with (go_at_call 37; refine (HCa.out).mono ?_; rintro e w' ⟨rfl, m2, rfl⟩)
        go_roundw
        case rel =>
          refine ⟨x, (x + y) / 2, by omega, by omega, rfl, by first | go_num | (congr 1; omega), HLo.out, fun i h1 h2 => ?_, _, rfl⟩
          exact HMo.out ((x + y) / 2) i h1 (by rw [← HN.out]; exact h2) HT.out.symm
        case measure => simp [intOf]; omega
    · have hk : x = y := by omega
      have HK := Lib.hid hk
      clear hk
      go_wp2
      go_ret
      exact Found.mk x (by omega) rfl HLo.out (fun i h1 h2 => HHi.out i (by rw [← HK.out]; exact h1) h2) ⟨_, rfl⟩

theorem search_pick (a d : Nat) (p : Option Addr) (ver : Int) (l : List Ver) (w : World) (ha : w.cell? ⟨a, 0, none⟩ = some (.pointer p)) (hd : w.cell? ⟨d, 0, none⟩ = some (.int .u64 ver)) (hb : Blk w p l) (hs : l.length ≤ 65536)
    (mono : ∀ i j, i ≤ j → j < l.length → decide (ver ≤ (l.getD i zero).ver) = true → decide (ver ≤ (l.getD j zero).ver) = true) :
    Calls Try.prog 33 #[.int .i64 (l.length : Int), .func (.func 34) #[] #[.pointer (some ⟨a, 0, none⟩), .pointer (some ⟨d, 0, none⟩)]] w (Found (fun i => decide (ver ≤ (l.getD i zero).ver)) l.length w) := by
  have HMo := Lib.hid mono
  clear mono
  obtain ⟨n, hn⟩ : ∃ n, n = l.length := ⟨_, rfl⟩
  rw [← hn] at hs ⊢
  have HN := Lib.hid hn
  clear hn
  go_enter Try.func33, Try.ntmps33
  go_wp2
  go_loopw [5, 6] (fun i j wr => ∃ x y : Nat, x ≤ y ∧ y ≤ n ∧ i = .int .i64 x ∧ j = .int .i64 y ∧ (∀ i, i < x → decide (ver ≤ (l.getD i zero).ver) = false) ∧ (∀ i, y ≤ i → i < n → decide (ver ≤ (l.getD i zero).ver) = true) ∧ ∃ m, wr = w.drewN m) (fun i j _ => (intOf j).toNat - (intOf i).toNat)
  case atStart => exact ⟨0, n, Nat.zero_le _, Nat.le_refl _, rfl, rfl, fun i hi => by omega, fun i h1 h2 => by omega, 0, rfl⟩
  case round =>
    obtain ⟨x, y, hxy, hyn, rfl, rfl, hlo, hhi, m, rfl⟩ := hrel
    have HLo := Lib.hid hlo
    have HHi := Lib.hid hhi
    clear hlo hhi
    by_cases hlt : x < y
    · have hmid : (x + y) / 2 < n := by omega
      have hget : l.getD ((x + y) / 2) zero = l[(x + y) / 2]'(by rw [← HN.out]; exact hmid) := by rw [List.getD_eq_getElem?_getD, List.getElem?_eq_getElem (by rw [← HN.out]; exact hmid)]; rfl
      have hcall := pick1_any a d p ver l ((x + y) / 2) (w.drewN m) ha hd (hb.drewN m) (by rw [← HN.out]; exact hmid) (by rw [← HN.out]; exact hs)
      rw [← hget, show (((x + y) / 2 : Nat) : Int) = ((x : Int) + (y : Int)) / 2 from by omega] at hcall
      obtain ⟨t, ht⟩ : ∃ t, t = decide (ver ≤ (l.getD ((x + y) / 2) zero).ver) := ⟨_, rfl⟩
      rw [← ht] at hcall
      have HT := Lib.hid ht
      clear hget ht
      cases t
      · have HCa := Lib.hid hcall
        clear hcall
        go_wp2_with (go_at_call 34; refine (HCa.out).mono ?_; rintro e w' ⟨rfl, m2, rfl⟩)
        go_roundw
        case rel =>
          refine ⟨(x + y) / 2 + 1, y, by omega, hyn, by first | go_num | (congr 1; omega), rfl, fun i hi => ?_, HHi.out, _, rfl⟩
          rcases Bool.eq_false_or_eq_true (decide (ver ≤ (l.getD i zero).ver)) with h | h
          · have := HMo.out i ((x + y) / 2) (by omega) (by rw [← HN.out]; omega) h
            rw [← HT.out] at this
            cases this
          · exact h
        case measure => simp [intOf]; omega
      · have HCa := Lib.hid hcall
        clear hcall
        go_wp2_with (go_at_call 34; refine (HCa.out).mono ?_; rintro e w' ⟨rfl, m2, rfl⟩)
        go_roundw
        case rel =>
          refine ⟨x, (x + y) / 2, by omega, by omega, rfl, by first | go_num | (congr 1; omega), HLo.out, fun i h1 h2 => ?_, _, rfl⟩
          exact HMo.out ((x + y) / 2) i h1 (by rw [← HN.out]; exact h2) HT.out.symm
        case measure => simp [intOf]; omega
    · have hk : x = y := by omega
      have HK := Lib.hid hk
      clear hk
      go_wp2
      go_ret
      exact Found.mk x (by omega) rfl HLo.out (fun i h1 h2 => HHi.out i (by rw [← HK.out]; exact h1) h2) ⟨_, rfl⟩

end Go.Proofs.Ytobndboogafjpaa
