/- The reference's Check, joined; what Of tells, plain; results of an inode and an error. -/
import Derived.Test.YtjdpljhhlmcbaaaInoCheckR
import Derived.Test.YtjdpljhhlmcbaaaInoExts
import Derived.Test.YtjdpljhhlmcbaaaInoFineW
import Derived.Test.YtjdpljhhlmcbaaaElem
import Derived.Test.YtjdpljhhlmcbaaaTch
import Derived.Laws.ResultCell
namespace Go.Cat.Ino
open Go.RowKit Go.Cat
theorem exts_in {zs : List Int} (hz : ∀ z ∈ zs, -9223372036854775808 ≤ z ∧ z ≤ 9223372036854775807) : ∀ e ∈ exts zs, ExK e := fun e he => by
  have h := exts_ok hz
  have h1 := h.right e he
  have h2 := h.wide e he
  exact ⟨h2.1, h2.2, by have := h1.1; omega, by have := h1.2; omega⟩
/-- An inode, plain: mode, size, extents. -/
abbrev InV := Int × Int × List Ext
/-- What Of tells. -/
noncomputable def ofV (mode size : Int) (zs : List Int) : InV × Int :=
  if mode ≠ 1 ∧ mode ≠ 2 then ((0, 0, []), 1) else if checkI mode size (exts zs) ≠ 0 then ((0, 0, []), checkI mode size (exts zs)) else ((mode, size, exts zs), 0)
theorem ofV_mode {mode size : Int} {zs : List Int} (h : mode ≠ 1 ∧ mode ≠ 2) : ofV mode size zs = ((0, 0, []), 1) := by unfold ofV; rw [if_pos h]
theorem ofV_err {mode size : Int} {zs : List Int} (h : mode = 1 ∨ mode = 2) (h2 : checkI mode size (exts zs) ≠ 0) : ofV mode size zs = ((0, 0, []), checkI mode size (exts zs)) := by
  unfold ofV; rw [if_neg (by rcases h with h | h <;> simp [h]), if_pos h2]
theorem ofV_ok {mode size : Int} {zs : List Int} (h : mode = 1 ∨ mode = 2) (h2 : checkI mode size (exts zs) = 0) : ofV mode size zs = ((mode, size, exts zs), 0) := by
  unfold ofV; rw [if_neg (by rcases h with h | h <;> simp [h]), if_neg (by simpa using h2)]
theorem heap2i (w : World) (o1 o2 : Obj) : ((w.alloc o1).alloc o2).heap[w.heap.size + 1]? = some o2 := by
  have := heap_alloc_new (w.alloc o1) o2
  rwa [show (w.alloc o1).heap.size = w.heap.size + 1 by simp] at this
theorem heap21i (w : World) (o1 o2 : Obj) : ((w.alloc o1).alloc o2).heap[w.heap.size]? = some o1 := by
  exact (((Below.refl (w.alloc o1).heap.size (w.alloc o1)).alloc (Nat.le_refl _) o2).block _ (by simp)).trans (heap_alloc_new _ _)
theorem below2i (w : World) (o1 o2 : Obj) : Below w.heap.size w ((w.alloc o1).alloc o2) := ((Below.refl w.heap.size w).alloc (Nat.le_refl _) o1).alloc (by simp) o2
theorem own_lowB {w : World} {base n size : Nat} {e : TypeId} {v : Value} {xs : List Value} (h : w.ownsRow base e size v n xs) {k : Nat} (hk : v.ownBlock = some k) : base ≤ k := by
  rcases h.2 with ⟨rfl, _⟩ | ⟨g', cap, cur, rfl, hb', _⟩
  · cases hk
  · simp [Value.ownBlock] at hk; omega
theorem own_set3 {w : World} {base n size g : Nat} {e : TypeId} {v : Value} {xs : List Value} (h : w.ownsRow base e size v n xs) (hg : g < base) (x y z : Value) : (((w.setCell ⟨g, 0, none⟩ x).setCell ⟨g, 1, none⟩ y).setCell ⟨g, 2, none⟩ z).ownsRow base e size v n xs :=
  own_touch h (((Tch.set w g 0 x).trans (Tch.set _ g 1 y)).trans (Tch.set _ g 2 z)) (fun k hk e => by have := own_lowB h hk; omega)
theorem below_set3 {B g : Nat} {w0 w : World} (h : Below B w0 w) (hg : B ≤ g) (x y z : Value) : Below B w0 (((w.setCell ⟨g, 0, none⟩ x).setCell ⟨g, 1, none⟩ y).setCell ⟨g, 2, none⟩ z) := ((h.setCell hg _).setCell hg _).setCell hg _
theorem own_below {w w' : World} {base n size : Nat} {e : TypeId} {v : Value} {xs : List Value} (h : w.ownsRow base e size v n xs) (hb : Below w.heap.size w w') : w'.ownsRow base e size v n xs := own_touch h (K := fun _ => False) (Tch.of_below hb) (fun _ _ => id)
end Go.Cat.Ino
namespace Go.Proofs.Ytjdpljhhlmcbaaa
open Go.RowKit Go.Shelf Go.Cat Go.Cat.Ino

/-- What is told of an inode and an error. -/
def ToldI (x : InV) (err : Int) (w : World) (e : Ending) (w' : World) : Prop :=
  ∃ A c, e = .returned (.tuple #[iv x.1 x.2.1 A x.2.2.length c, .int .i64 err]) ∧ Sees w' A (erows x.2.2) ∧ Below w.heap.size w w'
theorem ToldI.none_ (err : Int) {w w' : World} (h : Below w.heap.size w w') : ToldI (0, 0, []) err w (.returned (.tuple #[iv 0 0 none 0 0, .int .i64 err])) w' := ⟨none, 0, rfl, .inl rfl, h⟩

theorem ret_ii {fn : Func} {p u : Tmp} (h : fn.results = #[.cell p 59, .tmp u]) {tmps : Array Value} {w : World} {g : Nat} {a b c : Value} {fr : Nat × Nat} (hp : tmps.getD p undef = .pointer (some ⟨g, 0, none⟩)) (hg : w.heap[g]? = some (.cells #[a, b, c] 59 fr)) :
    (results fn tmps).run Try.prog w = .ok (.tuple #[.agg #[a, b, c], tmps.getD u undef]) w := by
  have hp' : tmps[p]?.getD undef = .pointer (some ⟨g, 0, none⟩) := by simpa using hp
  simp [results, h, hp', asAddr, run_loadVar_row w g _ _ _ _ _ hg Try.underlying59 rfl (by kernel_rfl)]
theorem ret_rii {fn : Func} {p u : Tmp} (h : fn.results = #[.cell p 64, .tmp u]) {tmps : Array Value} {w : World} {g : Nat} {a b c : Value} {fr : Nat × Nat} (hp : tmps.getD p undef = .pointer (some ⟨g, 0, none⟩)) (hg : w.heap[g]? = some (.cells #[a, b, c] 64 fr)) :
    (results fn tmps).run Try.prog w = .ok (.tuple #[.agg #[a, b, c], tmps.getD u undef]) w := by
  have hp' : tmps[p]?.getD undef = .pointer (some ⟨g, 0, none⟩) := by simpa using hp
  simp [results, h, hp', asAddr, run_loadVar_row w g _ _ _ _ _ hg Try.underlying64 rfl (by kernel_rfl)]

set_option maxRecDepth 100000 in
set_option maxHeartbeats 4000000 in
theorem richeck_any (mode size : Int) (A : Option Addr) (xs : List Ext) (c : Nat) (w : World) (hs : Sees w A (erows xs)) (hin : ∀ e ∈ xs, ExK e) (hn : xs.length ≤ 1000000) :
    Calls Try.prog 76 #[iv mode size A xs.length c] w fun e w' => e = .returned (.int .i64 (checkI mode size xs)) ∧ Below w.heap.size w w' := by
  obtain ⟨n, hnn⟩ : ∃ n, n = xs.length := ⟨_, rfl⟩
  have hb1 : Below w.heap.size w (w.alloc (.cells #[.int .i64 mode, .int .i64 size, .slice A n c] 64)) := (Below.refl _ _).alloc (Nat.le_refl _) _
  by_cases h1 : mode < 0
  · rw [check_arg (.inl h1), ← hnn]
    have d1 : decide (mode < 0) = true := by simpa using h1
    clear h1 hs hin hn hnn
    go_enter Try.func76, Try.ntmps76
    go_wp2
    go_ret
    exact ⟨rfl, (Below.refl _ _).alloc (Nat.le_refl _) _⟩
  have d1 : decide (mode < 0) = false := by simpa using h1
  by_cases h2 : 2 < mode
  · rw [check_arg (.inr h2), ← hnn]
    have d2 : decide (2 < mode) = true := by simpa using h2
    clear h1 h2 hs hin hn hnn
    go_enter Try.func76, Try.ntmps76
    go_wp2
    go_ret
    exact ⟨rfl, (Below.refl _ _).alloc (Nat.le_refl _) _⟩
  have d2 : decide (2 < mode) = false := by simpa using h2
  have hm : ¬ (mode < 0 ∨ 2 < mode) := by omega
  by_cases h3 : 512 < size
  · rw [check_big hm h3, ← hnn]
    have d3 : decide (512 < size) = true := by simpa using h3
    clear h1 h2 h3 hm hs hin hn hnn
    go_enter Try.func76, Try.ntmps76
    go_wp2
    go_ret
    exact ⟨rfl, (Below.refl _ _).alloc (Nat.le_refl _) _⟩
  have d3 : decide (512 < size) = false := by simpa using h3
  by_cases h4 : size < 0
  · rw [check_form hm h3 (.inl h4), ← hnn]
    have d4 : decide (size < 0) = true := by simpa using h4
    clear h1 h2 h3 h4 hm hs hin hn hnn
    go_enter Try.func76, Try.ntmps76
    go_wp2
    go_ret
    exact ⟨rfl, (Below.refl _ _).alloc (Nat.le_refl _) _⟩
  have d4 : decide (size < 0) = false := by simpa using h4
  by_cases h5 : mode = 0
  · subst h5
    by_cases h6 : 0 < size
    · rw [check_form hm h3 (.inr ⟨rfl, .inl h6⟩), ← hnn]
      have d6 : (size != 0) = true := by simp; omega
      clear h1 h2 h3 h4 hm h6 hs hin hn hnn
      go_enter Try.func76, Try.ntmps76
      go_wp2
      go_ret
      exact ⟨rfl, (Below.refl _ _).alloc (Nat.le_refl _) _⟩
    · obtain rfl : size = 0 := by omega
      by_cases h7 : 0 < n
      · rw [check_form hm h3 (.inr ⟨rfl, .inr (by omega)⟩), ← hnn]
        have d7 : decide (0 < n) = true := by simpa using h7
        have d7' : decide ((0 : Int) < (n : Int)) = true := by simpa using h7
        clear h1 h2 h3 h4 hm h6 h7 hs hin hn hnn
        go_enter Try.func76, Try.ntmps76
        go_wp2
        go_ret
        exact ⟨rfl, (Below.refl _ _).alloc (Nat.le_refl _) _⟩
      · have hx : xs = [] := List.eq_nil_of_length_eq_zero (by omega)
        subst hx
        have hv : checkI 0 0 [] = 0 := MayBe.check ⟨by omega, by omega, by omega, by omega, fun _ => ⟨rfl, rfl⟩, by simp, ⟨fun i hi => absurd hi (Nat.not_lt_zero i), by simp [blks]⟩, rfl⟩
        rw [hv]
        exact richeck_zero A c w
  · exact richeck_rest mode size A xs c w hs hin hn (by omega) (by omega) (by omega) (by omega)
theorem _root_.Go.Cat.Ino.below_of (w : World) (q : Nat) (o : Obj) : Below w.heap.size w ((w.drewN q).drew.alloc o) := (below_drewN (Below.refl _ _) q).drew.alloc (Nat.le_refl _) o

/-- Boxes: an empty result and an inode that is being built, with extents of one's own. -/
structure OfS (w : World) (T E : TypeId) (mode size : Int) (A : Option Addr) (m c : Nat) (acc : List Ext) (wr : World) : Prop where
  rr : wr.heap[w.heap.size]? = some (.cells #[.int .i64 0, .int .i64 0, .slice none 0 0] T (0, 0))
  xx : wr.heap[w.heap.size + 1]? = some (.cells #[.int .i64 mode, .int .i64 size, .slice A m c] T (0, 0))
  own : wr.ownsRow (w.heap.size + 2) E 2 (.slice A m c) m (erows acc)
  bel : Below w.heap.size w wr
section
variable {w wr w1 w2 : World} {T E : TypeId} {mode size : Int} {A A4 : Option Addr} {m c c4 : Nat} {acc : List Ext} {p : Ext}
theorem OfS.lt (h : OfS w T E mode size A m c acc wr) : w.heap.size + 2 ≤ wr.heap.size := by
  have := (Array.getElem?_eq_some_iff.1 h.xx).1
  omega
theorem OfS.new (w : World) (T E : TypeId) (mode size : Int) : OfS w T E mode size none 0 0 [] ((w.alloc (.cells #[.int .i64 0, .int .i64 0, .slice none 0 0] T)).alloc (.cells #[.int .i64 mode, .int .i64 size, .slice none 0 0] T)) :=
  ⟨heap21i _ _ _, heap2i _ _ _, World.ownsRow_nil _ _ _ _, below2i _ _ _⟩
theorem OfS.below (h : OfS w T E mode size A m c acc wr) (hb : Below wr.heap.size wr w1) : OfS w T E mode size A m c acc w1 :=
  ⟨(hb.block _ (by have := h.lt; omega)).trans h.rr, (hb.block _ (by have := h.lt; omega)).trans h.xx, own_touch h.own (K := fun _ => False) (Tch.of_below hb) (fun _ _ => id), h.bel.trans (hb.mono h.bel.size)⟩
theorem OfS.bumped {g : Nat} (h : OfS w T E mode size (some ⟨g, 0, none⟩) m c acc wr) (ha : acc ≠ []) (hm : acc.length = m) :
    OfS w T E mode size (some ⟨g, 0, none⟩) m c (bump acc) (wr.setCell ⟨g, (m - 1) * 2 + 1, none⟩ (.int .i64 ((lastE acc).2 + 1))) := by
  have hst := h.own.stored ((m - 1) * 2 + 1) (.int .i64 ((lastE acc).2 + 1))
  have hB : Below (w.heap.size + 2) wr (wr.setCell ⟨g, (m - 1) * 2 + 1, none⟩ (.int .i64 ((lastE acc).2 + 1))) := (Below.refl _ _).own h.own hst.2 h.lt (Nat.le_refl _)
  refine ⟨(hB.block _ (by omega)).trans h.rr, (hB.block _ (by omega)).trans h.xx, ?_, h.bel.trans (hB.mono (by omega))⟩
  rw [bump_rows ha, hm]
  exact hst.1
theorem OfS.apped (h : OfS w T E mode size A m c acc w1) (ho : w2.ownsRow (w.heap.size + 2) E 2 (.slice A4 (m + 1) c4) (m + 1) (erows acc ++ ecells p)) (hg : w1.grownBy w2 (Value.slice A m c).ownBlock) :
    OfS w T E mode size A4 (m + 1) c4 (acc ++ [p]) (w2.setCell ⟨w.heap.size + 1, 2, none⟩ (.slice A4 (m + 1) c4)) ∧ w2.cell? ⟨w.heap.size + 1, 2, none⟩ = some (.slice A m c) ∧ w2.frozen? ⟨w.heap.size + 1, 2, none⟩ = false ∧ w.heap.size + 1 < w2.heap.size := by
  have hB : Below (w.heap.size + 2) w1 w2 := (Below.refl _ _).own h.own hg h.lt (Nat.le_refl _)
  have hx := (hB.block _ (by omega)).trans h.xx
  have hl : w.heap.size + 1 < w2.heap.size := (Array.getElem?_eq_some_iff.1 hx).1
  refine ⟨⟨?_, ?_, ?_, (h.bel.trans (hB.mono (by omega))).setCell (Nat.le_succ _) _⟩, cell_of_row _ _ 2 _ _ _ hx, frozen_of_row _ _ 2 _ _ hx, hl⟩
  · rw [set_other _ (by omega)]; exact (hB.block _ (by omega)).trans h.rr
  · have := set_block (i := 2) (.slice A4 (m + 1) c4) hx
    simpa using this
  · rw [erows_snoc]
    exact own_touch ho (Tch.set _ _ _ _) (fun k hk e => by have := own_lowB ho hk; omega)
end
end Go.Proofs.Ytjdpljhhlmcbaaa
