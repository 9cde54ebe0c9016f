/- The contract of dirs.Split. Condition: a path below 2^32 bytes; the library's variable MaxLen holds an int. -/
import Derived.Test.YtabecceojbeomaaGreatDoorDirUse
namespace Go.Cat.Dir
open Go.RowKit Go.Cat
/-- A path's names, and the error. -/
def spl (p : Txt) : List Txt := (splitV p).getD []
def spe (p : Txt) : Int := if (splitV p).isSome then 0 else 18
theorem spl_none {p : Txt} (h : splitV p = none) : spl p = [] ∧ spe p = 18 := by unfold spl spe; rw [h]; exact ⟨rfl, rfl⟩
theorem spl_some {p : Txt} {ls : List Txt} (h : splitV p = some ls) : spl p = ls ∧ spe p = 0 := by unfold spl spe; rw [h]; exact ⟨rfl, rfl⟩
theorem badB_iff (ls : List Txt) : badB ls = false ↔ ∀ l ∈ ls, nameP l := by
  unfold badB
  rw [decide_eq_false_iff_not]
  exact ⟨fun h => Classical.byContradiction h, fun h h2 => h2 h⟩
end Go.Cat.Dir
namespace Go.Proofs.YtabecceojbeomaaGreatDoor
open Go.RowKit Go.Cat Go.Cat.Dir

/-- What Split tells. -/
def ToldSp (p : Txt) (w : World) (e : Ending) (w' : World) : Prop :=
  ∃ A c, e = .returned (.tuple #[.slice A (spl p).length c, .int .i64 (spe p)]) ∧ Texts w' A (spl p) ∧ (spl p).length ≤ c ∧ c ≤ maxLen ∧ Below w.heap.size w w'
theorem ToldSp.no {p : Txt} {w w' : World} (h : splitV p = none) (hB : Below w.heap.size w w') : ToldSp p w (.returned (.tuple #[.slice none 0 0, .int .i64 18])) w' := by
  obtain ⟨h1, h2⟩ := spl_none h
  unfold ToldSp
  rw [h1, h2]
  exact ⟨none, 0, rfl, .inl rfl, Nat.le_refl _, by unfold maxLen; omega, hB⟩
theorem ToldSp.root {w w' : World} (hB : Below w.heap.size w w') : ToldSp [47] w (.returned (.tuple #[.slice none 0 0, .int .i64 0])) w' := by
  obtain ⟨h1, h2⟩ := spl_some split_root
  unfold ToldSp
  rw [h1, h2]
  exact ⟨none, 0, rfl, .inl rfl, Nat.le_refl _, by unfold maxLen; omega, hB⟩

set_option maxRecDepth 100000 in
set_option maxHeartbeats 1000000 in
theorem dsplit_any (p : Txt) (m : Int) (w : World) (hp : p.length < 4294967281) (hm : w.cell? ⟨0, 0, none⟩ = some (.int .i64 m)) :
    Calls Tryz.prog 82 #[.string (bs p)] w (ToldSp p w) := by
  by_cases hs : ∃ t, p = 47 :: t
  · obtain ⟨t, rfl⟩ := hs
    have P1 := Lib.hid (cutp_slash t w)
    by_cases ht : t = []
    · subst ht
      clear hp hm
      go_enter Tryz.func82, Tryz.ntmps82
      go_wp2_with fail
      refine (P1.out).mono ?_
      rintro e w1 ⟨rfl, rfl⟩
      have t0 : (bs []).toList = [] := bs_toList []
      go_wp2_with fail
      go_ret2
      exact ToldSp.root (Below.refl _ _)
    · have d1 : ((bs t).toList == []) = false := by rw [bs_toList]; simpa using ht
      have d1' : ¬ (bs t).toList = [] := by rw [bs_toList]; exact ht
      have d1'' : (bs t).toList.isEmpty = false := by rw [bs_toList]; cases t with | nil => exact absurd rfl ht | cons a b => rfl
      have P2 := splitp_any t m w (by rw [List.length_cons] at hp; omega) hm
      have P3 := fun A c W (h : Texts W A (pieces t)) => hasbad_any A (pieces t) c W h (by have := pieces_length t; rw [List.length_cons] at hp; omega)
      have hok : (pieces t).length ≤ 8 → badB (pieces t) = false → splitV (47 :: t) = some (pieces t) := fun h1 h2 => split_ok ht ⟨h1, (badB_iff _).1 h2⟩
      have hno : (8 < (pieces t).length ∨ badB (pieces t) = true) → splitV (47 :: t) = none := fun h => split_bad ht (fun ⟨h1, h2⟩ => by
        rcases h with h | h
        · omega
        · rw [(badB_iff _).2 h2] at h; cases h)
      obtain ⟨n, hn⟩ : ∃ n, n = (pieces t).length := ⟨_, rfl⟩
      obtain ⟨ls, hls⟩ : ∃ ls, ls = pieces t := ⟨_, rfl⟩
      obtain ⟨B, hB⟩ : ∃ B, B = badB (pieces t) := ⟨_, rfl⟩
      rw [← hn, ← hls] at P2
      rw [← hn, ← hls] at P3
      rw [← hls] at hB hok hno hn
      rw [← hB] at P3 hok hno
      rw [← hn] at hok hno
      have HP2 := Lib.hid P2
      have HP3 := Lib.hid P3
      have HOk := Lib.hid hok
      have HNo := Lib.hid hno
      have HN := Lib.hid hn
      clear hp hm ht P2 P3 hok hno hn hls hB
      go_enter Tryz.func82, Tryz.ntmps82
      go_wp2_with fail
      refine (P1.out).mono ?_
      rintro e w1 ⟨rfl, rfl⟩
      go_wp2_with fail
      refine (HP2.out).mono ?_
      rintro e w2 ⟨A2, c2, rfl, ht2, hc2, hm2, hB2⟩
      have HT2 := Lib.hid ht2
      have HB2 := Lib.hid hB2
      have HC2 := Lib.hid hc2
      have HM2 := Lib.hid hm2
      clear ht2 hB2 hc2 hm2
      by_cases h8 : 8 < n
      · have t1 : decide ((8 : Int) < (n : Int)) = true := by simp; omega
        have hf := HNo.out (.inl h8)
        have HF := Lib.hid hf
        clear h8 hf
        go_wp2_with fail
        go_ret2
        exact ToldSp.no HF.out HB2.out
      · have t1 : decide ((8 : Int) < (n : Int)) = false := by simp; omega
        have P3' := Lib.hid (HP3.out A2 c2 w2 HT2.out)
        cases B with
        | true =>
          have hf := HNo.out (.inr rfl)
          have HF := Lib.hid hf
          clear h8 hf
          go_wp2_with fail
          refine (P3'.out).mono ?_
          rintro e w3 ⟨rfl, hB3⟩
          have HB3 := Lib.hid (HB2.out.trans (hB3.mono HB2.out.size))
          clear hB3
          go_wp2_with fail
          go_ret2
          exact ToldSp.no HF.out HB3.out
        | false =>
          have hf := spl_some (HOk.out (by omega) rfl)
          have HF := Lib.hid hf
          clear h8 hf
          go_wp2_with fail
          refine (P3'.out).mono ?_
          rintro e w3 ⟨rfl, hB3⟩
          have HT3 := Lib.hid (HT2.out.below hB3)
          have HB3 := Lib.hid (HB2.out.trans (hB3.mono HB2.out.size))
          clear hB3
          go_wp2_with fail
          go_ret2
          unfold ToldSp
          rw [HF.out.1, HF.out.2, ← HN.out]
          exact ⟨A2, c2, rfl, HT3.out, HC2.out, HM2.out, HB3.out⟩
  · have P1 := Lib.hid (cutp_not p (fun r e => hs ⟨r, e⟩) w)
    have hv : splitV p = none := by
      cases p with
      | nil => rfl
      | cons c r => exact split_no (fun e => hs ⟨r, by rw [e]⟩)
    have HV := Lib.hid hv
    clear hs hv hp hm
    go_enter Tryz.func82, Tryz.ntmps82
    go_wp2_with fail
    refine (P1.out).mono ?_
    rintro e w1 ⟨s, rfl, rfl⟩
    go_wp2_with fail
    go_ret2
    exact ToldSp.no HV.out (Below.refl _ _)
end Go.Proofs.YtabecceojbeomaaGreatDoor
