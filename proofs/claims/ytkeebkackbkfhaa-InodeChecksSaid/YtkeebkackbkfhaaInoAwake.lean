/- The contract of the law's awake. No condition. -/
import Derived.Test.YtkeebkackbkfhaaInoOf
import Derived.Test.YtkeebkackbkfhaaInoPut
import Derived.Laws.IdiomStrings
namespace Go.Cat.Ino
open Go.RowKit Go.Cat
theorem exts78 : exts [7, 8] = [(7, 2)] := by
  have e : exts [7, 8] = stepE (stepE [] 7) 8 := rfl
  have h1 : stepE [] 7 = [(7, 1)] := step_not (fun h => h.1 rfl)
  have h2 : stepE [(7, 1)] 8 = [(7, 2)] := step_yes ⟨by simp, by simp [lastE, wrap64], by simp [lastE]⟩
  rw [e, h1, h2]
theorem blks72 : blks [(7, 2)] = [7, 8] := by simp [blks, blk, bTo, bAt, wrap64, List.range_succ]
theorem check72 : checkI 1 100 [(7, 2)] = 0 := MayBe.check ⟨by omega, by omega, by omega, by omega, fun h => by omega, by simp, ⟨fun i hi e he => by
  obtain rfl : i = 0 := by simp at hi; omega
  simp at he
  subst he
  exact ⟨⟨⟨by simp, by simp⟩, by simp, by simp, by simp⟩, fun h => absurd h (by omega)⟩, by rw [blks72]; simp⟩, by rw [blks72]; simp [need]⟩
theorem of78 : ofV 1 100 [7, 8] = ((1, 100, [(7, 2)]), 0) := by
  have h := ofV_ok (mode := 1) (size := 100) (zs := [7, 8]) (.inl rfl) (by rw [exts78]; exact check72)
  rwa [exts78] at h
theorem put72 : putI 1 100 [(7, 2)] = ([1, 1, 0, 0, 0, 100, 0, 7, 0, 2], 0) := by
  rw [putI_yes check72]
  rfl
end Go.Cat.Ino
namespace Go.Proofs.Ytkeebkackbkfhaa
open Go.RowKit Go.Shelf Go.Cat Go.Cat.Ino

theorem conv10 {A : Option Addr} {c : Nat} {w : World} (h : Bytes w A [1, 1, 0, 0, 0, 100, 0, 7, 0, 2]) : (convert 50 9 (.slice A 10 c)).run Try.prog w = .ok (.string ⟨#[1, 1, 0, 0, 0, 100, 0, 7, 0, 2]⟩) w := by
  obtain ⟨ad, rfl, hc⟩ := Sees.addr h (by simp)
  refine run_convert_bytes_back w _ _ 5 ad c [1, 1, 0, 0, 0, 100, 0, 7, 0, 2] Try.underlying50 Try.underlying5 Try.underlying9 fun j hj => hc j _ ?_
  rw [List.getElem?_map, List.getElem?_eq_getElem hj]
  rfl

set_option maxRecDepth 100000 in
theorem awake_any (w : World) : Calls Try.prog 8 #[] w fun e w' => e = .returned (.bool true) ∧ Below w.heap.size w w' := by
  have hb1 : Below w.heap.size w (w.alloc (.cells #[.int .i64 7, .int .i64 8] 3)) := (Below.refl _ _).alloc (Nat.le_refl _) _
  have p1 := iof_any 1 100 (some ⟨w.heap.size, 0, none⟩) [7, 8] 2 (w.alloc (.cells #[.int .i64 7, .int .i64 8] 3)) (sees_new w [.int .i64 7, .int .i64 8] 3) (by simp) (by simp)
  rw [of78] at p1
  have p2 := fun A c W (h : Sees W A (erows [(7, 2)])) => iput_any 1 100 A [(7, 2)] c W h (by intro e he; simp at he; subst he; exact ⟨by simp, by simp, by simp, by simp⟩) (by simp)
  rw [put72] at p2
  have P1 := Lib.hid p1
  have P2 := Lib.hid p2
  clear p1 p2
  go_enter Try.func8, Try.ntmps8
  go_wp2_with fail
  refine (P1.out).mono ?_
  rintro e w1 ⟨A1, c1, rfl, hs1, hB1⟩
  have hB1w := hb1.trans (hB1.mono hb1.size)
  have HS1 := Lib.hid hs1
  have HB1 := Lib.hid hB1w
  clear hs1 hB1 hb1 hB1w
  go_wp2_with fail
  have hb2 : Below w1.heap.size w1 (w1.alloc (.cells #[.int .i64 1, .int .i64 100, .slice A1 1 c1] 26)) := (Below.refl _ _).alloc (Nat.le_refl _) _
  refine (P2.out A1 c1 _ (HS1.out.below hb2)).mono ?_
  rintro e w2 ⟨A2, c2, rfl, hs2, hB2⟩
  have hBw := (HB1.out.trans (hb2.mono HB1.out.size)).trans (hB2.mono (Nat.le_trans HB1.out.size hb2.size))
  have hst : (convert 50 9 (.slice A2 10 c2)).run Try.prog w2 = .ok (.string ⟨#[1, 1, 0, 0, 0, 100, 0, 7, 0, 2]⟩) w2 := conv10 hs2
  have HBw := Lib.hid hBw
  clear hb2 hs2 hB2 hBw
  go_wp2_with fail
  go_ret
  exact ⟨rfl, HBw.out⟩
end Go.Proofs.Ytkeebkackbkfhaa
