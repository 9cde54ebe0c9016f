/- The contracts of dirs.Above and of the reference's; of the reference's SameTexts. Condition: a path below 2^32 bytes; the library's variable MaxLen holds an int. -/
import Derived.Test.YtabecceojbeomaaGreatDoorDirJoin
import Derived.Deep.RegionWith
namespace Go.Cat.Dir
open Go.RowKit Go.Cat
def abv (p : Txt) : Txt × Txt := (aboveV p).getD ([], [])
def abe (p : Txt) : Int := if (aboveV p).isSome then 0 else 18
theorem above_none {p : Txt} (h : splitV p = none) : abv p = ([], []) ∧ abe p = 18 := by
  have : aboveV p = none := by unfold aboveV; rw [h]
  unfold abv abe; rw [this]; exact ⟨rfl, rfl⟩
theorem above_root {p : Txt} (h : splitV p = some []) : abv p = ([], []) ∧ abe p = 18 := by
  have : aboveV p = none := by unfold aboveV; rw [h]; rfl
  unfold abv abe; rw [this]; exact ⟨rfl, rfl⟩
theorem above_some {p : Txt} {ls : List Txt} (h : splitV p = some ls) (h0 : ls ≠ []) : abv p = (joinV (ls.take (ls.length - 1)), ls[ls.length - 1]'(by have := List.length_pos_iff.2 h0; omega)) ∧ abe p = 0 := by
  have : aboveV p = some (joinV ls.dropLast, ls.getLast h0) := by unfold aboveV; rw [h]; simp [h0]
  unfold abv abe
  rw [this, List.dropLast_eq_take, List.getLast_eq_getElem]
  exact ⟨rfl, rfl⟩
theorem names_len {ls : List Txt} (hn : ∀ l ∈ ls, nameP l) : (ls.flatMap (fun l => 47 :: l)).length ≤ ls.length * 12 := by
  induction ls with
  | nil => exact Nat.le_refl _
  | cons a t ih =>
    have h1 := (hn a (List.mem_cons_self)).2.2.2.1
    have h2 := ih (fun l hl => hn l (List.mem_cons_of_mem _ hl))
    rw [List.flatMap_cons, List.length_append, List.length_cons, List.length_cons]
    omega
theorem Texts.take_ {w : World} {A : Option Addr} {ls : List Txt} (h : Texts w A ls) (k : Nat) : Texts w A (ls.take k) := by
  have := Sees.take h k
  unfold Texts
  rwa [List.map_take]
end Go.Cat.Dir
namespace Go.Proofs.YtabecceojbeomaaGreatDoor
open Go.RowKit Go.Cat Go.Cat.Dir

/-- What Above tells. -/
def ToldAb (p : Txt) (w : World) (e : Ending) (w' : World) : Prop := e = .returned (.tuple #[.string (bs (abv p).1), .string (bs (abv p).2), .int .i64 (abe p)]) ∧ Below w.heap.size w w'
theorem ToldAb.no {p : Txt} {w w' : World} (h : abv p = ([], []) ∧ abe p = 18) (hB : Below w.heap.size w w') : ToldAb p w (.returned (.tuple #[.string ⟨#[]⟩, .string ⟨#[]⟩, .int .i64 18])) w' := by
  unfold ToldAb
  rw [h.1, h.2]
  exact ⟨rfl, hB⟩

set_option maxRecDepth 100000 in
set_option maxHeartbeats 2000000 in
theorem dabove_any (p : Txt) (m : Int) (w : World) (hp : p.length < 4294967281) (hm : w.cell? ⟨0, 0, none⟩ = some (.int .i64 m)) :
    Calls Tryz.prog 71 #[.string (bs p)] w (ToldAb p w) := by
  have P1 := Lib.hid (dsplit_any p m w hp hm)
  clear hp hm
  cases hs : splitV p with
  | none =>
    obtain ⟨h1, h2⟩ := spl_none hs
    have HF := Lib.hid (above_none hs)
    unfold ToldSp at P1
    rw [h1, h2] at P1
    clear hs h1 h2
    go_enter Tryz.func71, Tryz.ntmps71
    go_wp2_with fail
    refine (P1.out).mono ?_
    rintro e w1 ⟨A1, c1, rfl, _, _, _, hB1⟩
    have HB1 := Lib.hid hB1
    clear hB1
    go_wp2_with fail
    refine bodyPost_ret (v := .tuple #[.string ⟨#[]⟩, .string ⟨#[]⟩, .int .i64 18]) (by simp [results, Tryz.results71, go_sem]) rfl ?_
    exact ToldAb.no HF.out HB1.out
  | some ls =>
    obtain ⟨h1, h2⟩ := spl_some hs
    unfold ToldSp at P1
    rw [h1, h2] at P1
    obtain ⟨_, h8, hnm, _⟩ := split_some hs
    by_cases h0 : ls = []
    · subst h0
      have HF := Lib.hid (above_root hs)
      clear hs h1 h2 h8 hnm
      go_enter Tryz.func71, Tryz.ntmps71
      go_wp2_with fail
      refine (P1.out).mono ?_
      rintro e w1 ⟨A1, c1, rfl, _, _, _, hB1⟩
      have HB1 := Lib.hid hB1
      clear hB1
      go_wp2_with fail
      refine bodyPost_ret (v := .tuple #[.string ⟨#[]⟩, .string ⟨#[]⟩, .int .i64 18]) (by simp [results, Tryz.results71, go_sem]) rfl ?_
      exact ToldAb.no HF.out HB1.out
    · have hpos := List.length_pos_iff.2 h0
      have HF := Lib.hid (above_some hs h0)
      have hj : ((ls.take (ls.length - 1)).flatMap (fun l => 47 :: l)).length ≤ 1000000 := by
        have := names_len (ls := ls.take (ls.length - 1)) (fun l hl => hnm l (List.mem_of_mem_take hl))
        rw [List.length_take] at this
        omega
      have hlt : (ls.take (ls.length - 1)).length = ls.length - 1 := by rw [List.length_take]; omega
      have PJ0 := fun A c W (h : Texts W A ls) => djoin_any A (ls.take (ls.length - 1)) c W (Texts.take_ h _) hj (by omega)
      rw [hlt] at PJ0
      obtain ⟨n, hn⟩ : ∃ n, n = ls.length := ⟨_, rfl⟩
      obtain ⟨k, hk⟩ : ∃ k, k = ls.length - 1 := ⟨_, rfl⟩
      have hkl : k < ls.length := by omega
      have hat := fun A W (h : Texts W A ls) => Texts.at_ h hkl
      obtain ⟨l, hl⟩ : ∃ l, l = ls[k] := ⟨_, rfl⟩
      rw [← hl] at hat
      have HF2 : Hid (abv p = (joinV (ls.take k), l) ∧ abe p = 0) := by
        show _ ∧ _
        have := HF.out
        simp only [← hk] at this
        rw [hl]
        exact this
      rw [← hk] at PJ0
      rw [← hn] at P1
      have hnk : n = k + 1 := by omega
      have hkI : IntKind.i64.wrap ((n : Int) - 1) = (k : Int) := by rw [hnk]; exact (IntWalk.i64_in _ (by omega)).trans (by omega)
      subst hnk
      have PJ := Lib.hid PJ0
      have HAt := Lib.hid hat
      have t0 : (((k + 1 : Nat) : Int) == 0) = false := by rw [beq_eq_false_iff_ne]; omega
      have hk8 : k ≤ 7 := by omega
      clear hs h1 h2 h8 hnm h0 hpos HF hj hlt PJ0 hk hkl hat hl hkI hn
      go_enter Tryz.func71, Tryz.ntmps71
      go_wp2_with fail
      refine (P1.out).mono ?_
      rintro e w1 ⟨A1, c1, rfl, ht1, hc1, hm1, hB1⟩
      obtain ⟨b, off, rfl, hbl, hc⟩ := HAt.out A1 w1 ht1
      have hkc : k ≤ c1 := by omega
      have hkcI : (k : Int) ≤ (c1 : Int) := by omega
      have hk0 : (0 : Int) ≤ (k : Int) := by omega
      have hkk : (k : Int) < (k : Int) + 1 := by omega
      have HT1 := Lib.hid ht1
      have HB1 := Lib.hid hB1
      have hM1 := hm1
      unfold maxLen at hM1
      clear ht1 hB1 hm1
      go_wp2_with fail
      go_region_law (first
        | (go_simp; go_at_call 83; refine (PJ.out _ _ _ (HT1.out.below (Below.refl _ _).drew)).mono ?_; rintro e w5 ⟨rfl, hB5⟩; have hb15 : Below w1.heap.size w1 w5 := below_undrew hB5; have HB5 := Lib.hid (HB1.out.trans (hb15.mono HB1.out.size)); have f5 := (hb15.cell (p := ⟨b, off + k, none⟩) hbl).trans hc; clear hB5 hb15)
        | fail)
      all_goals
        go_wp2_with fail
        refine bodyPost_ret (v := .tuple #[.string (bs (joinV (ls.take k))), .string (bs l), .int .i64 0]) (by simp [results, Tryz.results71, go_sem]) rfl ?_
        unfold ToldAb
        rw [HF2.out.1, HF2.out.2]
        exact ⟨rfl, HB5.out⟩
end Go.Proofs.YtabecceojbeomaaGreatDoor
