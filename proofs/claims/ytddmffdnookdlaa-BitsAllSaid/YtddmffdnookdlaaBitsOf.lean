/- The contract of the reference's Of: the bitmap of those numbers. Condition: at most 65536 numbers, each below n, n up to 4096. -/
import Derived.Test.YtddmffdnookdlaaBitsSet
namespace Go.Proofs.Ytddmffdnookdlaa
open Go.RowKit Go.Cat Go.Cat.Bits

theorem add_of (x : UInt8) (r : Nat) (hr : r < 8) (hb : x.toNat.testBit r = false) : (x.toNat : Int) + ((2 ^ r : Nat) : Int) = ((UInt8.ofNat (x.toNat ||| 2 ^ r)).toNat : Int) := by
  rw [UInt8.toNat_ofNat', Nat.mod_eq_of_lt (or_bits x r hr), ← add_or _ x.toNat_lt r hr hb]
  simp

theorem rep_zero (n : Int) : Rep (List.replicate (sz n) 0) n (fun _ => false) := by
  refine ⟨by simp, fun j => ?_⟩
  unfold bit
  rw [List.getD_eq_getElem?_getD, List.getElem?_replicate]
  split <;> simp

theorem of_any (A : Option Addr) (m c : Nat) (zs : List Int) (n : Int) (w : World) (hb : Ints w A zs) (hn : m = zs.length) (hm : zs.length ≤ 65536) (h0 : 0 ≤ n) (h1 : n ≤ 4096) (hin : ∀ z ∈ zs, 0 ≤ z ∧ z < n) :
    Calls Try.prog 26 #[.slice A m c, .int .i64 n] w fun e w' =>
      ∃ out : List UInt8, Rep out n (fun j => decide ((j : Int) ∈ zs)) ∧ e = .returned (.slice (some ⟨w.heap.size, 0, none⟩) (sz n) (sz n)) ∧ Bytes w' (some ⟨w.heap.size, 0, none⟩) out ∧ Below w.heap.size w w' := by
  subst hn
  obtain ⟨i0, hi, hz0, hz1, hz2⟩ := info_parts info_u8
  have hs : sz n ≤ 512 := by unfold sz; omega
  go_enter Try.func26, Try.ntmps26
  go_wp2_with (first
    | (go_at_call 22; refine (rsize_any _ _ h1).mono ?_; rintro e w' ⟨rfl, rfl⟩)
    | (at_make; refine wpList_make_full _ rfl _ _ 22 rfl w.heap.size 5 i0 (.int .u8 0) 1 Try.underlying22 hi hz0 hz1 _ _ _ _ (sz n) rfl rfl rfl rfl ?b1 ?b2 ?b3 ?_))
  case b1 => rw [hz2]; omega
  case b2 => unfold maxLen; omega
  case b3 => exact Nat.le_refl _
  intro w1 hown1 hg1
  have hrow : w1.ownsRow w.heap.size 5 1 (.slice (some ⟨w.heap.size, 0, none⟩) (sz n) (sz n)) (sz n) ((List.replicate (sz n) (0 : UInt8)).map by8) := by
    have := hown1
    rw [toList_madeCells_one] at this
    simpa [by8] using this
  have hB1 : Below w.heap.size w w1 := (Below.refl _ _).grown hg1 (Nat.le_refl _) (fun k hk => by cases hk)
  clear hown1 hg1
  go_wp2
  go_loopw [6] (fun i wr => ∃ (k : Nat) (out : List UInt8), k ≤ zs.length ∧ i = .int .i64 k ∧ Rep out n (fun j => decide ((j : Int) ∈ zs.take k)) ∧ wr.ownsRow w.heap.size 5 1 (.slice (some ⟨w.heap.size, 0, none⟩) (sz n) (sz n)) (sz n) (out.map by8) ∧ Below w.heap.size w wr) (fun i _ => zs.length - (intOf i).toNat)
  case atStart => exact ⟨0, _, Nat.zero_le _, rfl, (rep_zero n).congr (fun j _ => by simp), hrow, hB1⟩
  case round =>
    obtain ⟨k, out, hk, rfl, hrep, hown, hbel⟩ := hrel
    clear hrow hB1
    have HR := Lib.hid hrep
    have hol : out.length = sz n := hrep.1
    have HL := Lib.hid hol
    clear hrep
    by_cases hlt : k < zs.length
    · obtain ⟨b, off, rfl, hbs, hc⟩ := (hb.below hbel).at_ (by omega)
      have e1 := hc k hlt
      clear hc
      obtain ⟨z, hzk⟩ : ∃ z, z = zs.getD k 0 := ⟨_, rfl⟩
      rw [← hzk] at e1
      have hzm : z ∈ zs := by rw [hzk, List.getD_eq_getElem?_getD, List.getElem?_eq_getElem hlt]; exact List.getElem_mem hlt
      have HZ : Hid (zs.take (k + 1) = zs.take k ++ [z]) := by show _ = _; rw [List.take_succ_eq_append_getElem hlt, hzk]; simp [List.getD_eq_getElem?_getD, hlt]
      obtain ⟨hz0', hzn⟩ := hin z hzm
      clear hzk hzm
      obtain ⟨q, rfl⟩ := Int.eq_ofNat_of_zero_le hz0'
      have hqn : q < n.toNat := by omega
      have hqs : q / 8 < sz n := by unfold sz; omega
      have hob : Bytes wr (some ⟨w.heap.size, 0, none⟩) out := Sees.of_own hown
      have hbo : hasB out (q : Int) = bit out q := by simp [hasB]
      have hcell := hown.cellAt (q / 8) (by omega)
      obtain ⟨x, hx⟩ : ∃ x, x = out.getD (q / 8) 0 := ⟨_, rfl⟩
      have hcx : wr.cell? ⟨w.heap.size, q / 8, none⟩ = some (.int .u8 (x.toNat : Int)) := by
        rw [hcell, hx]; simp [by8, List.getD_eq_getElem?_getD, hol, hqs]
      have hfz := hown.frozenAt (q / 8)
      have hsz1 := (hown.lt w.heap.size rfl).2
      have hxb : x.toNat.testBit (q % 8) = bit out q := by rw [hx]; rfl
      have HX := Lib.hid hx
      have HXB := Lib.hid hxb
      have HBO := Lib.hid hbo
      clear hol hcell hx hbo hxb
      rcases Bool.eq_false_or_eq_true (bit out q) with hq | hq
      · have hcall : Calls Try.prog 24 #[.slice (some ⟨w.heap.size, 0, none⟩) (sz n) (sz n), .int .i64 (q : Int)] wr fun e w' => e = .returned (.bool true) ∧ wr = w' :=
          rhas_true hob HL.out.symm (by rw [HL.out]; omega) (by omega) (by rw [HBO.out, hq])
        have HCa := Lib.hid hcall
        have HQ := Lib.hid hq
        clear hcall hq
        go_wp2_with (go_at_call 24; refine (HCa.out).mono ?_; rintro e w' ⟨rfl, rfl⟩)
        go_roundw
        case rel =>
          refine ⟨k + 1, out, by omega, by go_num, HR.out.congr fun j hj => ?_, hown, hbel⟩
          rw [HZ.out]
          by_cases hjq : j = q
          · subst hjq
            have := HR.out.bit_lt hj
            rw [HQ.out] at this
            rw [← this]; simp
          · have : ¬ (j : Int) = (q : Int) := by omega
            simp [this]
        case measure => simp [intOf]; omega
      · have hcall : Calls Try.prog 24 #[.slice (some ⟨w.heap.size, 0, none⟩) (sz n) (sz n), .int .i64 (q : Int)] wr fun e w' => e = .returned (.bool false) ∧ wr = w' :=
          rhas_false hob HL.out.symm (by rw [HL.out]; omega) (by omega) (by rw [HBO.out, hq])
        have HCa := Lib.hid hcall
        have HQ := Lib.hid hq
        clear hcall hq
        go_wp2_with (go_at_call 24; refine (HCa.out).mono ?_; rintro e w' ⟨rfl, rfl⟩)
        have hqI : (q : Int) / 8 < (sz n : Int) := by omega
        have hkI : (k : Int) < (zs.length : Int) := by omega
        go_region
        have hst := hown.stored (q / 8) (.int .u8 (((x.toNat : Int) + 2 ^ (q % 8)) % 256))
        have hval : ((x.toNat : Int) + 2 ^ (q % 8)) % 256 = ((UInt8.ofNat (x.toNat ||| 2 ^ (q % 8))).toNat : Int) := by
          rw [← add_of x (q % 8) (by omega) (by rw [HXB.out]; exact HQ.out)]
          have h1 := or_bits x (q % 8) (by omega)
          rw [← add_or _ x.toNat_lt _ (by omega) (by rw [HXB.out]; exact HQ.out)] at h1
          have e : (2 ^ (q % 8) : Int) = ((2 ^ (q % 8) : Nat) : Int) := by simp
          rw [e, ← Int.natCast_add]
          exact Int.emod_eq_of_lt (Int.natCast_nonneg _) (Int.ofNat_lt.2 h1)
        rw [hval] at hst ⊢
        have hset : (out.map by8).set (q / 8) (.int .u8 ((UInt8.ofNat (x.toNat ||| 2 ^ (q % 8))).toNat : Int)) = (out.set (q / 8) (UInt8.ofNat (x.toNat ||| 2 ^ (q % 8)))).map by8 := (List.map_set (f := by8)).symm
        rw [hset] at hst
        have hrep' : Rep (out.set (q / 8) (UInt8.ofNat (x.toNat ||| 2 ^ (q % 8)))) n (fun j => decide ((j : Int) ∈ zs.take (k + 1))) := by
          refine (HR.out.set hqn true fun r hr => ?_).congr fun j hj => ?_
          · rw [set_or x (q % 8) r (by omega), ← HX.out]
          · rw [HZ.out]
            by_cases hjq : j = q
            · subst hjq; simp
            · have : ¬ (j : Int) = (q : Int) := by omega
              simp [this, hjq]
        have hB2 : Below w.heap.size w (wr.setCell ⟨w.heap.size, q / 8, none⟩ (.int .u8 ((UInt8.ofNat (x.toNat ||| 2 ^ (q % 8))).toNat : Int))).drew :=
          (hbel.grown hst.2 (by omega) (fun g hg => by injection hg with hg; omega)).drew
        have hown2 := hst.1.drew
        clear hst hval hset
        generalize (wr.setCell ⟨w.heap.size, q / 8, none⟩ (.int .u8 ((UInt8.ofNat (x.toNat ||| 2 ^ (q % 8))).toNat : Int))).drew = w2 at hown2 hB2 ⊢
        clear hown hcx hfz
        go_wp2
        go_roundw
        case rel => exact ⟨k + 1, _, by omega, by go_num, hrep', hown2, hB2⟩
        case measure => simp [intOf]; omega
    · have hkz : k = zs.length := by omega
      have hT : zs.take k = zs := List.take_of_length_le (by omega)
      have HT := Lib.hid hT
      clear hT hkz
      go_wp2
      go_ret
      refine ⟨out, ?_, rfl, Sees.of_own hown, hbel⟩
      have := HR.out
      rwa [HT.out] at this
end Go.Proofs.Ytddmffdnookdlaa
