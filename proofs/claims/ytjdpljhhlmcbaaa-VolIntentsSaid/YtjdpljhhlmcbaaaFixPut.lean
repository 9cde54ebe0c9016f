/- Bytes that are put: the contracts of Put, Raw, Done where nothing goes wrong. Condition: numbers that fit, room. -/
import Derived.Test.YtjdpljhhlmcbaaaFixOut
namespace Go.Proofs.Ytjdpljhhlmcbaaa
open Go.RowKit Go.Cat

set_option maxRecDepth 100000 in
theorem onum_ok (g : Nat) (bs : List UInt8) (n width : Nat) (most : Int) (w : World) (h : OutF g bs most w) (hn : n < 256 ^ width) (h1 : 1 ≤ width) (h8 : width ≤ 8) (hm : (bs.length : Int) + width ≤ most) (hmost : most ≤ 1000000) :
    Calls Try.prog 44 #[.pointer (some ⟨g, 0, none⟩), .int .u64 n, .int .i64 width] w fun e w' => (∃ v, e = .returned v) ∧ OutF g (bs ++ be n width) most w' ∧ OutU g w w' := by
  have P1 := Lib.hid (known_ok width w h1 h8)
  have P2 := Lib.hid (fits_ok n width w hn h1 h8)
  have P3 := Lib.hid (laid_any n width w h1 h8)
  have HO := Lib.hid h
  have hgl := h.lt
  clear h hn
  go_enter Try.func44, Try.ntmps44
  go_wp2_with fail
  refine (P1.out).mono ?_
  rintro e w1 ⟨rfl, rfl⟩
  go_wp2_with fail
  refine (P2.out).mono ?_
  rintro e w2 ⟨rfl, rfl⟩
  go_wp2_with fail
  refine (P3.out).mono ?_
  rintro e w3 ⟨A, c, rfl, ho, hB⟩
  have p4 := oput_ok g bs (be n width) most A c w3 (HO.out.below hB) (Sees.of_own ho) (by rw [be_length]; exact hm) hmost
  rw [be_length] at p4
  have P4 := Lib.hid p4
  have HU : Hid (OutU g w w3) := Upd.of_below hB
  clear p4 ho hB
  go_wp2_with fail
  refine (P4.out).mono ?_
  rintro e w4 ⟨⟨v, rfl⟩, ho4, hu4⟩
  have HO4 := Lib.hid ho4
  have HU4 := Lib.hid (HU.out.trans hu4)
  clear ho4 hu4
  go_wp2_with fail
  refine bodyPost_end (v := .tuple #[]) (by simp [results, Try.results44, go_sem]) rfl ⟨⟨_, rfl⟩, HO4.out, HU4.out⟩

theorem odone_ok (g : Nat) (bs : List UInt8) (most : Int) (w : World) (h : OutF g bs most w) (hm : bs.length ≤ 1000000) :
    Calls Try.prog 46 #[.pointer (some ⟨g, 0, none⟩)] w fun e w' => ∃ A c, e = .returned (.tuple #[.slice A bs.length c, .int .i64 0]) ∧ w'.ownsRow w.heap.size 5 1 (.slice A bs.length c) bs.length (bs.map by8) ∧ Below w.heap.size w w' := by
  obtain ⟨A1, c1, hh, ho⟩ := h.ex
  have c0 : w.cell? ⟨g, 0, none⟩ = some (.slice A1 bs.length c1) := cell_of_row w g 0 _ _ _ hh
  have c2 : w.cell? ⟨g, 2, none⟩ = some (.int .i64 0) := cell_of_row w g 2 _ _ _ hh
  have P1 := Lib.hid (clones_any A1 bs.length c1 bs w (Sees.of_own ho) rfl (by omega))
  clear h hh ho
  go_enter Try.func46, Try.ntmps46
  go_wp2_with fail
  refine (P1.out).mono ?_
  rintro e w1 ⟨A2, c2', rfl, ho2, hB2⟩
  have HO2 := Lib.hid ho2
  have HB2 := Lib.hid hB2
  clear ho2 hB2
  go_wp2_with fail
  go_ret2
  exact ⟨A2, c2', rfl, HO2.out, HB2.out⟩
end Go.Proofs.Ytjdpljhhlmcbaaa
