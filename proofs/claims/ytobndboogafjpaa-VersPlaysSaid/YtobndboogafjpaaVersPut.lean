/- The contracts of New and Put. -/
import Derived.Test.YtobndboogafjpaaVersHold
namespace Go.Cat.Vers
/-- What Put answers. -/
def putErr (l : List Ver) (v : Ver) : Int :=
  if 2048 < v.data.length then 6 else if v.ver = 0 ∨ v.seq = 0 then 1 else if 0 < l.length ∧ (v.ver - 1 ≠ (l.getLastD zero).ver ∨ v.seq ≤ (l.getLastD zero).seq) then 12 else 0
end Go.Cat.Vers
namespace Go.Proofs.Ytobndboogafjpaa
open Go.RowKit Go.Cat Go.Cat.Vers

abbrev HoldV (base g : Nat) (R : Value) (w : World) (l : List Ver) : Prop := Hold 63 29 5 base g R w l

/-- A new block of none. -/
def ToldNew (w : World) (e : Ending) (w' : World) : Prop := e = .returned (.pointer (some ⟨w.heap.size, 0, none⟩)) ∧ HoldV w.heap.size w.heap.size (.slice none 0 0) w' [] ∧ Below w.heap.size w w'

theorem new_any (w : World) : Calls Try.prog 8 #[] w (ToldNew w) := by
  go_enter Try.func8, Try.ntmps8
  go_wp2
  go_ret
  exact ⟨rfl, ⟨Nat.le_refl _, heap_alloc_new _ _, [], rfl, World.ownsRow_nil _ _ _ _, by simp⟩, (Below.refl _ _).alloc (Nat.le_refl _) _⟩

theorem put_nil (v : Ver) (A : Option Addr) (c : Nat) (w : World) :
    Calls Try.prog 9 #[.pointer none, .agg #[.int .u64 v.ver, .int .u64 v.seq, .slice A v.data.length c]] w fun e w' => e = .returned (.int .i64 2) ∧ Below w.heap.size w w' := by
  go_enter Try.func9, Try.ntmps9
  go_wp2
  go_ret
  exact ⟨rfl, (Below.refl _ _).alloc (Nat.le_refl _) _⟩

theorem put_long (p : Option Addr) (hp : p ≠ none) (v : Ver) (A : Option Addr) (c : Nat) (w : World) (h : 2048 < v.data.length) (h2 : v.data.length ≤ 65536) :
    Calls Try.prog 9 #[.pointer p, .agg #[.int .u64 v.ver, .int .u64 v.seq, .slice A v.data.length c]] w fun e w' => e = .returned (.int .i64 6) ∧ Below w.heap.size w w' := by
  cases p with
  | none => exact absurd rfl hp
  | some p =>
    have d : decide ((2048 : Int) < (v.data.length : Int)) = true := by simp; omega
    go_enter Try.func9, Try.ntmps9
    go_wp2
    go_ret
    exact ⟨rfl, (Below.refl _ _).alloc (Nat.le_refl _) _⟩

theorem put_arg (p : Option Addr) (hp : p ≠ none) (v : Ver) (A : Option Addr) (c : Nat) (w : World) (h : v.data.length ≤ 2048) (h2 : v.ver = 0 ∨ v.seq = 0) :
    Calls Try.prog 9 #[.pointer p, .agg #[.int .u64 v.ver, .int .u64 v.seq, .slice A v.data.length c]] w fun e w' => e = .returned (.int .i64 1) ∧ Below w.heap.size w w' := by
  cases p with
  | none => exact absurd rfl hp
  | some p =>
    have d : decide ((2048 : Int) < (v.data.length : Int)) = false := by simp; omega
    by_cases h0 : v.ver = 0
    · have d0 : (v.ver == 0) = true := by simpa using h0
      clear h0 h2
      go_enter Try.func9, Try.ntmps9
      go_wp2
      go_ret
      exact ⟨rfl, (Below.refl _ _).alloc (Nat.le_refl _) _⟩
    · have d0 : (v.ver == 0) = false := by simpa using h0
      have d1 : (v.seq == 0) = true := by simp; omega
      clear h0 h2
      go_enter Try.func9, Try.ntmps9
      go_wp2
      go_ret
      exact ⟨rfl, (Below.refl _ _).alloc (Nat.le_refl _) _⟩

set_option maxRecDepth 100000 in
set_option maxHeartbeats 2000000 in
theorem put_state (base g : Nat) (R : Value) (l : List Ver) (v : Ver) (A : Option Addr) (c : Nat) (w : World) (hb : HoldV base g R w l) (hl : l.length ≤ 65536) (h : v.data.length ≤ 2048) (h2 : 0 < v.ver) (h3 : 0 < v.seq) (h4 : v.ver < 18446744073709551616)
    (h5 : 0 < l.length ∧ (v.ver - 1 ≠ (l.getLastD zero).ver ∨ v.seq ≤ (l.getLastD zero).seq)) :
    Calls Try.prog 9 #[.pointer (some ⟨g, 0, none⟩), .agg #[.int .u64 v.ver, .int .u64 v.seq, .slice A v.data.length c]] w fun e w' => e = .returned (.int .i64 12) ∧ Below w.heap.size w w' := by
  rcases hb.blk with ⟨h, _⟩ | ⟨g', A', c', hg, hc, hlc, hv⟩
  · cases h
  injection hg with hg
  injection hg with hg
  subst hg
  obtain ⟨n, hn⟩ : ∃ n, l.length = n + 1 := ⟨l.length - 1, by omega⟩
  obtain ⟨b, off, A1, c1, rfl, hbs, e0, e1, e2, hd⟩ := hv.at_ (k := n) (by omega)
  have hgl := World.block_lt_of_cell? w _ hc
  rw [hn] at hc hlc
  obtain ⟨u, hu⟩ : ∃ u, u = l[n]'(by omega) := ⟨_, rfl⟩
  have hlast : l.getLastD zero = u := by
    rw [hu, List.getLastD_eq_getLast?, List.getLast?_eq_getElem?]
    simp [hn]
  rw [← hu] at e0 e1
  rw [hlast] at h5
  have hcA := fun o => (World.cell?_alloc_lt w o ⟨g, 0, none⟩ hgl).trans hc
  have E0 := fun o => (World.cell?_alloc_lt w o _ hbs).trans e0
  have E1 := fun o => (World.cell?_alloc_lt w o _ hbs).trans e1
  have d : decide ((2048 : Int) < (v.data.length : Int)) = false := by simp; omega
  have d0 : (v.ver == 0) = false := by simp; omega
  have d1 : (v.seq == 0) = false := by simp; omega
  have hn2 : n ≤ 65536 := by omega
  have d4 : decide (0 < n + 1) = true := by simp
  have hwr : IntKind.i64.wrap (n : Int) = n := IntWalk.i64_in _ (by omega)
  have hwu : IntKind.u64.wrap (v.ver - 1) = v.ver - 1 := IntWalk.u64_in _ (by omega)
  have hnI : (n : Int) < (n : Int) + 1 := by omega
  have hnI0 : (0 : Int) ≤ (n : Int) := by omega
  have hN := Lib.hid hn
  clear hn hl e0 e1 e2 hc hd hv hu hlast
  by_cases h6 : v.ver - 1 = u.ver
  · have h7 : v.seq ≤ u.seq := by
      rcases h5.2 with h | h
      · exact absurd h6 h
      · exact h
    have d2 : (v.ver - 1 == u.ver) = true := by simpa using h6
    have d3 : decide (v.seq ≤ u.seq) = true := by simpa using h7
    have q2 : (v.ver - 1 = u.ver) = True := eq_true h6
    have q3 : (v.seq ≤ u.seq) = True := eq_true h7
    clear h5 h6 h7
    go_enter Try.func9, Try.ntmps9
    go_wp2
    go_quiet (fail)
    go_wp2
    go_ret
    exact ⟨rfl, below_drewN ((Below.refl _ _).alloc (Nat.le_refl _) _) _⟩
  · have d2 : (v.ver - 1 == u.ver) = false := by simpa using h6
    have q2 : (v.ver - 1 = u.ver) = False := eq_false h6
    clear h5 h6
    go_enter Try.func9, Try.ntmps9
    go_wp2
    go_quiet (fail)
    go_wp2
    go_ret
    exact ⟨rfl, below_drewN ((Below.refl _ _).alloc (Nat.le_refl _) _) _⟩
end Go.Proofs.Ytobndboogafjpaa
