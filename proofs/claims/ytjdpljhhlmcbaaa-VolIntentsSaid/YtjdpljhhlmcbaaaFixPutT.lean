/- Bytes that are put: the contract of Text where nothing goes wrong. Condition: room. -/
import Derived.Test.YtjdpljhhlmcbaaaFixPut
import Derived.Test.YtjdpljhhlmcbaaaConcat
namespace Go.Proofs.Ytjdpljhhlmcbaaa
open Go.RowKit Go.Cat

set_option maxRecDepth 100000 in
theorem otext_ok (g : Nat) (bs xs : List UInt8) (most : Int) (A : Option Addr) (c : Nat) (w : World) (h : OutF g bs most w) (hx : Bytes w A xs) (hm : (bs.length : Int) + 2 + xs.length ≤ most) (hmost : most ≤ 1000000) (hl : xs.length ≤ 65535) :
    Calls Try.prog 45 #[.pointer (some ⟨g, 0, none⟩), .slice A xs.length c] w fun e w' => (∃ v, e = .returned v) ∧ OutF g (bs ++ (be xs.length 2 ++ xs)) most w' ∧ OutU g w w' := by
  obtain ⟨n, hn⟩ : ∃ n, n = xs.length := ⟨_, rfl⟩
  rw [← hn] at hm hl ⊢
  have P1 := Lib.hid (laid_any n 2 w (by omega) (by omega))
  have d1 : decide ((65535 : Int) < (n : Int)) = false := by simp; omega
  have d1' : decide (65535 < n) = false := by simp; omega
  have hwz : IntKind.u64.wrap (n : Int) = (n : Int) := IntWalk.u64_in _ (by omega)
  have HO := Lib.hid h
  have HX := Lib.hid hx
  have HN := Lib.hid hn
  have hgl := h.lt
  clear h hx hn
  go_enter Try.func45, Try.ntmps45
  go_wp2_with fail
  refine (P1.out).mono ?_
  rintro e w1 ⟨A2, c2, rfl, ho, hB⟩
  obtain ⟨W2, hW2⟩ : ∃ W2, W2 = w1.alloc (.cells #[.slice A2 2 c2, .slice A n c] 35) := ⟨_, rfl⟩
  have hb2 : Below w1.heap.size w1 W2 := by rw [hW2]; exact (Below.refl _ _).alloc (Nat.le_refl _) _
  have hBw : Below w.heap.size w W2 := hB.trans (hb2.mono hB.size)
  have hs2 : Sees W2 (some ⟨w1.heap.size, 0, none⟩) (([(A2, be n 2, c2), (A, xs, c)] : List Part8).map partCell) := by
    have e : ([(A2, be n 2, c2), (A, xs, c)] : List Part8).map partCell = [.slice A2 2 c2, .slice A n c] := by simp [partCell, be_length, HN.out]
    rw [e, hW2]
    exact sees_new w1 [.slice A2 2 c2, .slice A n c] 35
  have p2 := concat_any (some ⟨w1.heap.size, 0, none⟩) [(A2, be n 2, c2), (A, xs, c)] 2 W2 hs2 (by
    intro p hp
    simp at hp
    rcases hp with rfl | rfl
    · exact (Sees.of_own ho : Bytes w1 A2 (be n 2)).below hb2
    · exact HX.out.below hBw) (by simp [be_length]; rw [← HN.out]; omega) (by simp)
  have hcat : ([(A2, be n 2, c2), (A, xs, c)] : List Part8).flatMap (·.2.1) = be n 2 ++ xs := by simp
  rw [hcat] at p2
  have hcl : (be n 2 ++ xs).length = n + 2 := by rw [List.length_append, be_length, HN.out]; omega
  rw [hcl] at p2
  have P2 := Lib.hid p2
  have HW2 := Lib.hid hW2
  have HBw := Lib.hid hBw
  have HCl := Lib.hid hcl
  clear p2 hW2 hBw hb2 hcat hcl ho hB
  go_wp2_with fail
  rw [← HW2.out]
  refine (P2.out).mono ?_
  rintro e w3 ⟨A3, c3, rfl, ho3, hB3⟩
  have hB3w := HBw.out.trans (hB3.mono HBw.out.size)
  have p4 := oput_ok g bs (be n 2 ++ xs) most A3 c3 w3 (HO.out.below hB3w) (by have h := Sees.of_own ho3; exact h) (by rw [HCl.out]; omega) hmost
  rw [HCl.out] at p4
  have P4 := Lib.hid p4
  have HU : Hid (OutU g w w3) := Upd.of_below hB3w
  clear p4 ho3 hB3 hB3w
  go_wp2_with fail
  refine (P4.out).mono ?_
  rintro e w4 ⟨⟨v, rfl⟩, ho4, hu4⟩
  have HO4 := Lib.hid ho4
  have HU4 := Lib.hid (HU.out.trans hu4)
  clear ho4 hu4
  go_wp2_with fail
  refine bodyPost_end (v := .tuple #[]) (by simp [results, Try.results45, go_sem]) rfl ⟨⟨_, rfl⟩, HO4.out, HU4.out⟩
end Go.Proofs.Ytjdpljhhlmcbaaa
