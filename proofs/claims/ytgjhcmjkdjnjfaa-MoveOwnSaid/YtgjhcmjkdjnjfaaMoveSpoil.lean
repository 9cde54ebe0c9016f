/- The contract of the law's spoil: it writes one row of the call's own. -/
import Derived.Test.YtgjhcmjkdjnjfaaMoveAwake

namespace Go.Proofs.Ytgjhcmjkdjnjfaa
open Go.RowKit Go.Cat Go.Cat.Move

theorem spoil_any (base : Nat) (A : Option Addr) (n c : Nat) (bs : List UInt8) (w : World) (ho : w.ownsRow base 5 1 (.slice A n c) n (bs.map by8)) :
    Calls Try.prog 21 #[.slice A n c] w fun e w' => (∃ v, e = .returned v) ∧ Tch (fun k => (Value.slice A n c).ownBlock = some k) w w' := by
  have hnm : n ≤ 9223372036854775807 := by
    obtain ⟨A', c', hv, h1, h2⟩ := own_full ho
    unfold maxLen at h2
    omega
  rcases ho.2 with ⟨hv, h0⟩ | ⟨g, cap, cur, hv, _, hh, hnc, _⟩
  · injection hv with hA _ hc
    subst hA hc h0
    clear ho
    go_enter Try.func21, Try.ntmps21
    go_wp2
    go_loopw [2] (fun i wr => i = .int .i64 0 ∧ wr = w) (fun _ _ => 0)
    case atStart => exact ⟨rfl, rfl⟩
    case round =>
      obtain ⟨rfl, rfl⟩ := hrel
      go_wp2
      exact bodyPost_end (v := .tuple #[]) (by simp [results, Try.results21, go_sem]) rfl ⟨⟨_, rfl⟩, Tch.refl _ _⟩
  · injection hv with hA _ hc
    subst hA hc
    have ho2 : w.ownsRow base 5 1 (.slice (some ⟨g, 0, none⟩) n c) n ((bs.map fun b => (b.toNat : Int)).map (Value.int .u8)) := by
      rw [List.map_map]; exact ho
    obtain ⟨zs, hzs⟩ : ∃ zs, zs = bs.map fun b => (b.toNat : Int) := ⟨_, rfl⟩
    rw [← hzs] at ho2
    have HO := Lib.hid ho2
    clear ho ho2 hh hzs
    go_enter Try.func21, Try.ntmps21
    go_wp2
    go_loopw [2] (fun i wr => ∃ (k : Nat) (xs : List Int), k ≤ n ∧ i = .int .i64 k ∧ Hid (wr.ownsRow base 5 1 (.slice (some ⟨g, 0, none⟩) n c) n (xs.map (Value.int .u8))) ∧ Hid (Tch (fun k => (Value.slice (some ⟨g, 0, none⟩) n c).ownBlock = some k) w wr)) (fun i _ => n - (intOf i).toNat)
    case atStart => exact ⟨0, zs, Nat.zero_le _, rfl, HO, Lib.hid (Tch.refl _ _)⟩
    case round =>
      obtain ⟨k, xs, hk, rfl, HX, HT⟩ := hrel
      by_cases hlt : k < n
      · have hxl : xs.length = n := by have := HX.out.1; simpa using this
        have hkI : (k : Int) < (n : Int) := by omega
        have hk0 : (0 : Int) ≤ (k : Int) := by omega
        obtain ⟨z, hz⟩ : ∃ z, z = xs[k]'(by omega) := ⟨_, rfl⟩
        have hcell : wr.cell? ⟨g, k, none⟩ = some (.int .u8 z) := by
          rw [(HX.out).cellAt (g := g) k (by omega), List.getElem?_map, List.getElem?_eq_getElem (by omega), hz]; rfl
        have hfr := (HX.out).frozenAt k
        have hst := (HX.out).stored k (.int .u8 (IntKind.u8.wrap (z + 1)))
        have HSt := Lib.hid hst
        clear hz hst hxl
        go_wp2
        go_roundw
        case rel => exact ⟨k + 1, xs.set k (IntKind.u8.wrap (z + 1)), by omega, by go_num, Lib.hid (by rw [List.map_set]; exact HSt.out.1), Lib.hid (HT.out.trans ⟨HSt.out.2.os, HSt.out.2.tape, HSt.out.2.output, HSt.out.2.size, fun j hj hn => HSt.out.2.block j hj fun e => hn e.symm⟩)⟩
        case measure => simp [intOf]; omega
      · obtain rfl : k = n := by omega
        go_wp2
        exact bodyPost_end (v := .tuple #[]) (by simp [results, Try.results21, go_sem]) rfl ⟨⟨_, rfl⟩, HT.out⟩
end Go.Proofs.Ytgjhcmjkdjnjfaa
