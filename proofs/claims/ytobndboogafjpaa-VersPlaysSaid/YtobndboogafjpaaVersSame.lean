/- The contracts of the two Same of versions, of the law's like and ours. Condition: at most 65536 bytes. -/
import Derived.Test.YtobndboogafjpaaVersRead
import Derived.Test.YtobndboogafjpaaEqual
import Derived.Test.YtobndboogafjpaaSame
namespace Go.Cat.Vers
def sameV (x y : Ver) : Bool := decide (x.ver = y.ver) && decide (x.seq = y.seq) && decide (x.data = y.data)
theorem sameV_self (x : Ver) : sameV x x = true := by simp [sameV]
theorem sameV_eq {x y : Ver} (h : sameV x y = true) : x = y := by
  obtain ⟨_, _, _⟩ := x
  obtain ⟨_, _, _⟩ := y
  simp [sameV] at h
  obtain ⟨⟨rfl, rfl⟩, rfl⟩ := h
  rfl
end Go.Cat.Vers
namespace Go.Proofs.Ytobndboogafjpaa
open Go.RowKit Go.Cat Go.Cat.Vers

/-- A version's value. -/
abbrev vv (v : Ver) (A : Option Addr) (c : Nat) : Value := .agg #[.int .u64 v.ver, .int .u64 v.seq, .slice A v.data.length c]

theorem vsame_any (A B : Option Addr) (c d : Nat) (x y : Ver) (w : World) (ha : Bytes w A x.data) (hb : Bytes w B y.data) :
    Calls Try.prog 11 #[vv x A c, vv y B d] w fun e w' => e = .returned (.bool (sameV x y)) ∧ Below w.heap.size w w' := by
  obtain ⟨r, hr⟩ : ∃ r, r = sameV x y := ⟨_, rfl⟩
  rw [← hr]
  unfold sameV at hr
  have two : ∀ {w2 : World}, Below ((w.alloc (.cells #[.int .u64 x.ver, .int .u64 x.seq, .slice A x.data.length c] 29)).alloc (.cells #[.int .u64 y.ver, .int .u64 y.seq, .slice B y.data.length d] 29)).heap.size ((w.alloc (.cells #[.int .u64 x.ver, .int .u64 x.seq, .slice A x.data.length c] 29)).alloc (.cells #[.int .u64 y.ver, .int .u64 y.seq, .slice B y.data.length d] 29)) w2 → Below w.heap.size w w2 := fun h => (two_boxes h).2.2.2.2.2
  have HT := Lib.hid (two (Below.refl _ _))
  clear two
  by_cases h1 : x.ver = y.ver
  · have d1 : (x.ver == y.ver) = true := by simpa using h1
    by_cases h2 : x.seq = y.seq
    · have d2 : (x.seq == y.seq) = true := by simpa using h2
      have hr2 : r = decide (x.data = y.data) := by rw [hr]; simp [h1, h2]
      have HR := Lib.hid hr2
      clear hr hr2 h1 h2
      go_enter Try.func11, Try.ntmps11
      go_wp2_with (go_at_call 31; refine (equal_any A B c d x.data y.data _ ((ha.alloc _).alloc _) ((hb.alloc _).alloc _)).mono ?_; rintro e w' ⟨rfl, rfl⟩)
      go_ret
      exact ⟨ret_bool HR.out.symm, HT.out⟩
    · have d2 : (x.seq == y.seq) = false := by simpa using h2
      have hr2 : r = false := by rw [hr]; simp [h2]
      have HR := Lib.hid hr2
      clear hr hr2 h1 h2
      go_enter Try.func11, Try.ntmps11
      go_wp2
      go_ret
      exact ⟨ret_bool HR.out.symm, HT.out⟩
  · have d1 : (x.ver == y.ver) = false := by simpa using h1
    have hr2 : r = false := by rw [hr]; simp [h1]
    have HR := Lib.hid hr2
    clear hr hr2 h1
    go_enter Try.func11, Try.ntmps11
    go_wp2
    go_ret
    exact ⟨ret_bool HR.out.symm, HT.out⟩

theorem rsame_any (A B : Option Addr) (c d : Nat) (x y : Ver) (w : World) (ha : Bytes w A x.data) (hb : Bytes w B y.data) (hx : x.data.length ≤ 9223372036854775807) (hy : y.data.length ≤ 9223372036854775807) :
    Calls Try.prog 27 #[vv x A c, vv y B d] w fun e w' => e = .returned (.bool (sameV x y)) ∧ Below w.heap.size w w' := by
  obtain ⟨r, hr⟩ : ∃ r, r = sameV x y := ⟨_, rfl⟩
  rw [← hr]
  unfold sameV at hr
  have two : ∀ {w2 : World}, Below ((w.alloc (.cells #[.int .u64 x.ver, .int .u64 x.seq, .slice A x.data.length c] 40)).alloc (.cells #[.int .u64 y.ver, .int .u64 y.seq, .slice B y.data.length d] 40)).heap.size ((w.alloc (.cells #[.int .u64 x.ver, .int .u64 x.seq, .slice A x.data.length c] 40)).alloc (.cells #[.int .u64 y.ver, .int .u64 y.seq, .slice B y.data.length d] 40)) w2 → Below w.heap.size w w2 := fun h => (two_boxes h).2.2.2.2.2
  have HT := Lib.hid (two (Below.refl _ _))
  clear two
  by_cases h1 : x.ver = y.ver
  · have d1 : (x.ver == y.ver) = true := by simpa using h1
    by_cases h2 : x.seq = y.seq
    · have d2 : (x.seq == y.seq) = true := by simpa using h2
      have hr2 : r = decide (x.data = y.data) := by rw [hr]; simp [h1, h2]
      have HR := Lib.hid hr2
      clear hr hr2 h1 h2
      go_enter Try.func27, Try.ntmps27
      go_wp2_with (go_at_call 35; refine (same8_any A B x.data.length y.data.length c d x.data y.data _ ((ha.alloc _).alloc _) ((hb.alloc _).alloc _) rfl rfl hx hy).mono ?_; rintro e w' ⟨rfl, m, rfl⟩)
      go_ret
      exact ⟨ret_bool HR.out.symm, below_drewN HT.out _⟩
    · have d2 : (x.seq == y.seq) = false := by simpa using h2
      have hr2 : r = false := by rw [hr]; simp [h2]
      have HR := Lib.hid hr2
      clear hr hr2 h1 h2
      go_enter Try.func27, Try.ntmps27
      go_wp2
      go_ret
      exact ⟨ret_bool HR.out.symm, HT.out⟩
  · have d1 : (x.ver == y.ver) = false := by simpa using h1
    have hr2 : r = false := by rw [hr]; simp [h1]
    have HR := Lib.hid hr2
    clear hr hr2 h1
    go_enter Try.func27, Try.ntmps27
    go_wp2
    go_ret
    exact ⟨ret_bool HR.out.symm, HT.out⟩

theorem like_any (A B : Option Addr) (c d : Nat) (x y : Ver) (w : World) (ha : Bytes w A x.data) (hb : Bytes w B y.data) (hx : x.data.length ≤ 9223372036854775807) (hy : y.data.length ≤ 9223372036854775807) :
    Calls Try.prog 21 #[vv x A c, vv y B d] w fun e w' => e = .returned (.bool (sameV x y)) ∧ Below w.heap.size w w' := by
  go_enter Try.func21, Try.ntmps21
  go_wp2_with fail
  refine (rsame_any A B c d x y _ ((ha.alloc _).alloc _) ((hb.alloc _).alloc _) hx hy).mono ?_
  rintro e w' ⟨rfl, hB⟩
  go_wp2_with fail
  go_ret
  exact ⟨rfl, (two_boxes hB).2.2.2.2.2⟩

theorem ours_any (A : Option Addr) (c : Nat) (x : Ver) (w : World) :
    Calls Try.prog 16 #[vv x A c] w fun e w' => e = .returned (vv x A c) ∧ Below w.heap.size w w' := by
  go_enter Try.func16, Try.ntmps16
  go_wp2
  exact bodyPost_ret (v := vv x A c) (by simp [results, Try.results16, go_sem]) rfl ⟨rfl, ((Below.refl _ _).alloc (Nat.le_refl _) _).alloc (by simp) _⟩
end Go.Proofs.Ytobndboogafjpaa
