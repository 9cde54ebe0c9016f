/- The walk of the law MoveTakes. Condition: each part's length is within a slice's. -/
import Derived.Test.YtgjhcmjkdjnjfaaMoveTake2
import Derived.Test.YtgjhcmjkdjnjfaaMoveRefT
import Derived.Test.YtgjhcmjkdjnjfaaFlat
import Derived.Test.YtgjhcmjkdjnjfaaSame
namespace Go.Cat.Move
open Go.RowKit Go.Cat
/-- A part that is handed in: its cells. -/
structure PtV where
  at_ : Int
  i : Int
  parts : Int
  A : Option Addr
  c : Nat
  b : List UInt8
def ptCells (p : PtV) : List Value := [.int .u64 p.at_, .int .i64 p.i, .int .i64 p.parts, .slice p.A p.b.length p.c]
structure PtIn (w : World) (p : PtV) : Prop where
  data : Bytes w p.A p.b
  len : p.b.length ≤ maxLen
theorem own_type {w : World} {base n size : Nat} {e : TypeId} {v : Value} {xs : List Value} {k : Nat} (h : w.ownsRow base e size v n xs) (hk : v.ownBlock = some k) : ∃ cs fr, w.heap[k]? = some (.cells cs e fr) := by
  rcases h.2 with ⟨rfl, _⟩ | ⟨g', cap, cur, rfl, _, hh, _⟩
  · cases hk
  · simp only [Value.ownBlock, Option.some.injEq] at hk
    subst hk
    exact ⟨_, _, hh⟩
theorem not_mine {t u8 : TypeId} {base g : Nat} {R : Value} {x : InV} {w : World} {j : Nat} {cs : Array Value} {t' : TypeId} {fr : Nat × Nat} (hx : InB t u8 base g R x w) (hj : w.heap[j]? = some (.cells cs t' fr)) (h1 : t' ≠ t) (h2 : t' ≠ u8) : ¬ MineI g R j := by
  rintro (rfl | hk)
  · have := hx.cell
    rw [hj] at this
    injection this with this
    injection this with _ this
    exact h1 this
  · obtain ⟨cs', fr', hh⟩ := own_type hx.row hk
    rw [hj] at hh
    injection hh with hh
    injection hh with _ hh
    exact h2 hh
theorem first_next {x : InV} {a p : Int} {k : Nat} (h : x.next ≤ k ∧ x.b.length ≤ 1024 * k) : (first x a p).next ≤ k ∧ (first x a p).b.length ≤ 1024 * k := by
  unfold first
  split
  · exact ⟨Nat.zero_le _, Nat.zero_le _⟩
  · exact h
theorem take_bounds {x : InV} {a i p : Int} {b : List UInt8} {k : Nat} (h : x.next ≤ k ∧ x.b.length ≤ 1024 * k) :
    (takeIn x a i p b).1.next ≤ k + 1 ∧ (takeIn x a i p b).1.b.length ≤ 1024 * (k + 1) ∧ (takeIn x a i p b).2.1.length ≤ 1024 * (k + 1) := by
  have hf := first_next (a := a) (p := p) h
  unfold takeIn
  split
  · exact ⟨by show x.next ≤ _; omega, by show x.b.length ≤ _; omega, Nat.zero_le _⟩
  · rename_i hr
    unfold refuses at hr
    split
    · exact ⟨by show (first x a p).next ≤ _; omega, by show (first x a p).b.length ≤ _; omega, Nat.zero_le _⟩
    · split
      · refine ⟨by show (first x a p).next + 1 ≤ _; omega, ?_, Nat.zero_le _⟩
        show ((first x a p).b ++ b).length ≤ _
        rw [List.length_append]
        omega
      · refine ⟨Nat.zero_le _, Nat.zero_le _, ?_⟩
        show ((first x a p).b ++ b).length ≤ _
        rw [List.length_append]
        omega
end Go.Cat.Move
namespace Go.Proofs.Ytgjhcmjkdjnjfaa
open Go.RowKit Go.Cat Go.Cat.Move

/-- What the loop keeps. -/
structure TkR (w : World) (G RB : Nat) (R : Value) (x : InV) (rat rparts : Int) (A : Option Addr) (c : Nat) (ps : List Pc) (k : Nat) (wr : World) : Prop where
  inv : InW G G R x wr
  rs : RS x rat rparts A c ps w wr
  box : wr.heap[RB]? = some (.cells #[.int .u64 rat, .int .i64 rparts, .slice A ps.length c] 42 (0, 0))
  nb : x.next ≤ k ∧ x.b.length ≤ 1024 * k
  bel : Below G w wr
theorem TkR.below {w wr w' : World} {G RB : Nat} {R : Value} {x : InV} {rat rparts : Int} {A : Option Addr} {c : Nat} {ps : List Pc} {k : Nat} (h : TkR w G RB R x rat rparts A c ps k wr) (hb : Below wr.heap.size wr w') : TkR w G RB R x rat rparts A c ps k w' :=
  ⟨h.inv.below hb, h.rs.below hb, (hb.block RB (Array.getElem?_eq_some_iff.1 h.box).1).trans h.box, h.nb, h.bel.trans (hb.mono (by have := h.inv.lt; omega))⟩

/-- What a round's last test reads, in a later world. -/
structure TkS (w : World) (G RB : Nat) (R : Value) (x : InV) (rat rparts : Int) (A : Option Addr) (c : Nat) (ps : List Pc) (k : Nat) (out : List UInt8) (A3 A4 : Option Addr) (wr : World) : Prop where
  tk : TkR w G RB R x rat rparts A c ps k wr
  b3 : Bytes wr A3 out
  b4 : Bytes wr A4 out
theorem TkS.below {w wr w' : World} {G RB : Nat} {R : Value} {x : InV} {rat rparts : Int} {A : Option Addr} {c : Nat} {ps : List Pc} {k : Nat} {out : List UInt8} {A3 A4 : Option Addr} (h : TkS w G RB R x rat rparts A c ps k out A3 A4 wr) (hb : Below wr.heap.size wr w') : TkS w G RB R x rat rparts A c ps k out A3 A4 w' :=
  ⟨h.tk.below hb, h.b3.below hb, h.b4.below hb⟩

/-- What the test reads. -/
def TkP (w : World) (G RB : Nat) (R : Value) (x : InV) (rat rparts : Int) (A : Option Addr) (c : Nat) (ps : List Pc) (k : Nat) (out : List UInt8) (A3 A4 : Option Addr) (wr : World) : Prop :=
  wr.cell? ⟨RB, 0, none⟩ = some (.int .u64 rat) ∧ wr.cell? ⟨RB, 2, none⟩ = some (.slice A ps.length c) ∧ TkS w G RB R x rat rparts A c ps k out A3 A4 wr
section
variable {w wr w' : World} {G RB : Nat} {R : Value} {x : InV} {rat rparts : Int} {A : Option Addr} {c : Nat} {ps : List Pc} {k : Nat} {out : List UInt8} {A3 A4 : Option Addr}
theorem TkP.next (h : TkP w G RB R x rat rparts A c ps k out A3 A4 wr) (hb : Below wr.heap.size wr w') : TkP w G RB R x rat rparts A c ps k out A3 A4 w' := by
  obtain ⟨h0, h1, h2⟩ := h
  have g : RB < wr.heap.size := World.block_lt_of_cell? _ _ h0
  exact ⟨(hb.cell (p := ⟨RB, _, none⟩) g).trans h0, (hb.cell (p := ⟨RB, _, none⟩) g).trans h1, h2.below hb⟩
theorem TkP.s (h : TkP w G RB R x rat rparts A c ps k out A3 A4 wr) : TkS w G RB R x rat rparts A c ps k out A3 A4 wr := h.2.2
end

set_option maxRecDepth 100000 in
set_option maxHeartbeats 4000000 in
theorem takes_walk (Ao : Option Addr) (co : Nat) (l : List PtV) (w : World) (hsee : Sees w Ao (l.flatMap ptCells)) (hl : ∀ p ∈ l, PtIn w p) (hm : l.length ≤ maxLen) :
    Calls Try.prog 5 #[.slice Ao l.length co] w fun e w' => e = .returned (.bool true) ∧ Below w.heap.size w w' := by
  unfold maxLen at hm
  obtain ⟨n, hn⟩ : ∃ n, n = l.length := ⟨_, rfl⟩
  rw [← hn] at hm ⊢
  have HN := Lib.hid hn
  have HSee := Lib.hid hsee
  have HIn := Lib.hid hl
  have P0 := begin_any w
  obtain ⟨G, hG⟩ : ∃ G, G = w.heap.size := ⟨_, rfl⟩
  rw [← hG] at P0 ⊢
  have HG := Lib.hid hG
  clear hn hsee hl hG
  go_enter Try.func5, Try.ntmps5
  go_wp2_with fail
  refine (P0).mono ?_
  rintro e w1 ⟨rfl, hx1, hB1⟩
  have HX1 := Lib.hid hx1
  have HB1 := Lib.hid hB1
  have hG1 := hx1.lt
  clear P0 hx1 hB1
  go_upto_region 3 with (fail)
  obtain ⟨W2, hW2⟩ : ∃ W2, W2 = w1.alloc (.cells #[.int .u64 0, .int .i64 0, .slice none 0 0] 42) := ⟨_, rfl⟩
  obtain ⟨RB, hRB⟩ : ∃ RB, RB = w1.heap.size := ⟨_, rfl⟩
  have hT : TkR w G RB (.slice none 0 0) (again 0) 0 0 none 0 [] 0 W2 := by
    have hb : Below w1.heap.size w1 W2 := by rw [hW2]; exact (Below.refl _ _).alloc (Nat.le_refl _) _
    exact ⟨HX1.out.below hb, RS.again 0 w W2, by rw [hW2, hRB]; exact heap_alloc_new _ _, ⟨Nat.le_refl _, Nat.le_refl _⟩, HB1.out.trans (hb.mono (by omega))⟩
  have hGR : G < RB := by omega
  have HT := Lib.hid hT
  rw [← hW2, ← hRB]
  clear hT hW2 hRB hG1
  go_wp2_with fail
  go_loopw [5] (fun iv wr => ∃ (k : Nat) (R : Value) (x : InV) (rat rparts : Int) (A : Option Addr) (c : Nat) (ps : List Pc), k ≤ n ∧ k ≤ 60 ∧ iv = .int .i64 k ∧ Hid (TkR w G RB R x rat rparts A c ps k wr)) (fun iv _ => n - (intOf iv).toNat)
  case atStart => exact ⟨0, _, _, _, _, none, 0, [], Nat.zero_le _, Nat.zero_le _, rfl, HT⟩
  case round =>
    obtain ⟨k, R, x, rat, rparts, A, c, ps, hk, hk60, rfl, HT⟩ := hrel
    by_cases hlt : k < n
    · by_cases hlt2 : k < 60
      · have hko : k < l.length := by rw [← HN.out]; exact hlt
        obtain ⟨b, off, hAo, hbs, hc⟩ := HSee.out.elem (f := ptCells) (k := 4) (fun _ => rfl) (by omega) (by omega)
        obtain ⟨p, hp⟩ : ∃ p, p = l[k] := ⟨_, rfl⟩
        have hin : PtIn w p := HIn.out p (by rw [hp]; exact List.getElem_mem _)
        have bel := HT.out.bel
        rw [HG.out] at bel
        have e0 := (bel.cell (p := ⟨b, _, none⟩) hbs).trans (hc k hko 0 (by omega))
        have e1 := (bel.cell (p := ⟨b, _, none⟩) hbs).trans (hc k hko 1 (by omega))
        have e2 := (bel.cell (p := ⟨b, _, none⟩) hbs).trans (hc k hko 2 (by omega))
        have e3 := (bel.cell (p := ⟨b, _, none⟩) hbs).trans (hc k hko 3 (by omega))
        rw [← hp] at e0 e1 e2 e3
        replace e0 : wr.cell? ⟨b, off + k * 4, none⟩ = some (.int .u64 p.at_) := e0
        replace e1 : wr.cell? ⟨b, off + k * 4 + 1, none⟩ = some (.int .i64 p.i) := by rw [Nat.add_assoc]; exact e1
        replace e2 : wr.cell? ⟨b, off + k * 4 + 2, none⟩ = some (.int .i64 p.parts) := by rw [Nat.add_assoc]; exact e2
        replace e3 : wr.cell? ⟨b, off + k * 4 + 3, none⟩ = some (.slice p.A p.b.length p.c) := by rw [Nat.add_assoc]; exact e3
        have HPIn := Lib.hid hin
        have hkI : (k : Int) < (n : Int) := by omega
        have hk6 : decide ((k : Int) < 60) = true := by simp; omega
        have hk0 : (0 : Int) ≤ (k : Int) := by omega
        have hd0 : p.b.length ≤ maxLen := hin.len
        unfold maxLen at hd0
        rw [hAo]
        have hB2 : Below wr.heap.size wr (wr.alloc (.cells #[.int .u64 p.at_, .int .i64 p.i, .int .i64 p.parts, .slice p.A p.b.length p.c] 44)) := (Below.refl _ _).alloc (Nat.le_refl _) _
        have hbx := heap_alloc_new wr (.cells #[.int .u64 p.at_, .int .i64 p.i, .int .i64 p.parts, .slice p.A p.b.length p.c] 44)
        clear hp hc hin bel hAo hbs
        by_cases hlong : 1100 < p.b.length
        · have d1 : decide ((1100 : Int) < (p.b.length : Int)) = true := by simp; omega
          clear hbx
          go_wp2_with fail
          refine (awake_any _).mono ?_
          rintro e w3 ⟨rfl, hB3⟩
          have hfin := ((HT.out.below hB2).below hB3).bel
          rw [HG.out] at hfin
          go_wp2_with fail
          go_ret
          exact ⟨rfl, by rw [HG.out]; exact hfin⟩
        · have d1 : decide ((1100 : Int) < (p.b.length : Int)) = false := by simp; omega
          go_upto_region 9 with (fail)
          obtain ⟨W3, hW3⟩ : ∃ W3, W3 = wr.alloc (.cells #[.int .u64 p.at_, .int .i64 p.i, .int .i64 p.parts, .slice p.A p.b.length p.c] 44) := ⟨_, rfl⟩
          rw [← hW3] at hB2 hbx ⊢
          have hT3 := HT.out.below hB2
          have HT3 := Lib.hid hT3
          have HBx := Lib.hid hbx
          obtain ⟨H, hH⟩ : ∃ H, H = wr.heap.size := ⟨_, rfl⟩
          rw [← hH] at HBx ⊢
          have x0 : W3.cell? ⟨H, 0, none⟩ = some (.int .u64 p.at_) := cell_of_row W3 H 0 _ _ _ HBx.out
          have x1 : W3.cell? ⟨H, 1, none⟩ = some (.int .i64 p.i) := cell_of_row W3 H 1 _ _ _ HBx.out
          have x2 : W3.cell? ⟨H, 2, none⟩ = some (.int .i64 p.parts) := cell_of_row W3 H 2 _ _ _ HBx.out
          have x3 : W3.cell? ⟨H, 3, none⟩ = some (.slice p.A p.b.length p.c) := cell_of_row W3 H 3 _ _ _ HBx.out
          have hnb := take_bounds (a := p.at_) (i := p.i) (p := p.parts) (b := p.b) hT3.nb
          have hpl : p.b.length ≤ 1100 := by omega
          have hxn : x.next ≤ 60 := Nat.le_trans hT3.nb.1 hk60
          have hxb : x.b.length ≤ 61440 := Nat.le_trans hT3.nb.2 (by omega)
          have hpsl : ps.length ≤ 60 := by rw [← hT3.rs.next]; exact hxn
          have hGs : G ≤ W3.heap.size := Nat.le_of_lt hT3.inv.lt
          have p9 := take_any2 G G R x p.at_ p.i p.parts p.A p.b p.c W3 hT3.inv (fun W' ht => HPIn.out.data.below (by rw [← HG.out]; exact hT3.bel.trans (ht.below hGs hT3.inv.mine))) (by omega) (by omega) (by omega) hGs
          have p10 := fun w4 h1 h2 => rtake_any x rat rparts A ps c p.at_ p.i p.parts p.A p.b p.c w w4 h1 h2 (by omega) HPIn.out.data (by omega)
          obtain ⟨y, hy⟩ : ∃ y, y = (takeIn x p.at_ p.i p.parts p.b).1 := ⟨_, rfl⟩
          obtain ⟨out, hout⟩ : ∃ out, out = (takeIn x p.at_ p.i p.parts p.b).2.1 := ⟨_, rfl⟩
          obtain ⟨ok, hok⟩ : ∃ ok, ok = (takeIn x p.at_ p.i p.parts p.b).2.2 := ⟨_, rfl⟩
          rw [← hy, ← hout] at hnb
          rw [← hy, ← hout, ← hok] at p9
          rw [← hy, ← hout, ← hok] at p10
          have P9 := Lib.hid p9
          have P10 := Lib.hid p10
          have HNb := Lib.hid hnb
          have hol : out.length ≤ 9223372036854775807 := by omega
          clear hW3 hT3 hbx hH hB2 e0 e1 e2 e3 hd0 hlong p9 p10 hy hout hok hnb
          go_wp2_with fail
          refine (P9.out).mono ?_
          rintro e w4 ⟨R', A3, c3, rfl, hx4, ho4, _, ht4⟩
          have hbx4 : w4.heap[H]? = some (.cells #[.int .u64 p.at_, .int .i64 p.i, .int .i64 p.parts, .slice p.A p.b.length p.c] 44 (0, 0)) :=
            (ht4.block H (Array.getElem?_eq_some_iff.1 HBx.out).1 (not_mine HT3.out.inv HBx.out (by decide) (by decide))).trans HBx.out
          have hbr4 : w4.heap[RB]? = some (.cells #[.int .u64 rat, .int .i64 rparts, .slice A ps.length c] 42 (0, 0)) :=
            (ht4.block RB (Array.getElem?_eq_some_iff.1 HT3.out.box).1 (not_mine HT3.out.inv HT3.out.box (by decide) (by decide))).trans HT3.out.box
          have hrs4 := HT3.out.rs.touch ht4 fun j hj => by
            obtain ⟨cs, fr, hh⟩ := own_type HT3.out.rs.row hj
            exact not_mine HT3.out.inv hh (by decide) (by decide)
          have hB4 : Below G w w4 := HT3.out.bel.trans (ht4.below hGs HT3.out.inv.mine)
          have y0 : w4.cell? ⟨H, 0, none⟩ = some (.int .u64 p.at_) := cell_of_row w4 H 0 _ _ _ hbx4
          have y1 : w4.cell? ⟨H, 1, none⟩ = some (.int .i64 p.i) := cell_of_row w4 H 1 _ _ _ hbx4
          have y2 : w4.cell? ⟨H, 2, none⟩ = some (.int .i64 p.parts) := cell_of_row w4 H 2 _ _ _ hbx4
          have y3 : w4.cell? ⟨H, 3, none⟩ = some (.slice p.A p.b.length p.c) := cell_of_row w4 H 3 _ _ _ hbx4
          have z0 : w4.cell? ⟨RB, 0, none⟩ = some (.int .u64 rat) := cell_of_row w4 RB 0 _ _ _ hbr4
          have z1 : w4.cell? ⟨RB, 1, none⟩ = some (.int .i64 rparts) := cell_of_row w4 RB 1 _ _ _ hbr4
          have z2 : w4.cell? ⟨RB, 2, none⟩ = some (.slice A ps.length c) := cell_of_row w4 RB 2 _ _ _ hbr4
          have p11 := P10.out w4 hrs4 (by rw [← HG.out]; exact hB4)
          have P11 := Lib.hid p11
          have HX4 := Lib.hid hx4
          have HO4 := Lib.hid ho4
          have HBr4 := Lib.hid hbr4
          have HB4 := Lib.hid hB4
          clear p11 hx4 ho4 hbx4 hbr4 hrs4 hB4 ht4 x0 x1 x2 x3
          go_wp2_with fail
          refine (P11.out).mono ?_
          rintro e w5 ⟨rat', rparts', A', c', ps', A4, c4, rfl, hrs5, ho5, hB5⟩
          obtain rfl : y.at_ = rat' := hrs5.at_
          have hbr5 : w5.heap[RB]? = some (.cells #[.int .u64 rat, .int .i64 rparts, .slice A ps.length c] 42 (0, 0)) := (hB5.block RB (Array.getElem?_eq_some_iff.1 HBr4.out).1).trans HBr4.out
          have q0 : w5.cell? ⟨RB, 0, none⟩ = some (.int .u64 rat) := cell_of_row w5 RB 0 _ _ _ hbr5
          have q1 : w5.cell? ⟨RB, 1, none⟩ = some (.int .i64 rparts) := cell_of_row w5 RB 1 _ _ _ hbr5
          have q2 : w5.cell? ⟨RB, 2, none⟩ = some (.slice A ps.length c) := cell_of_row w5 RB 2 _ _ _ hbr5
          have f0 : w5.frozen? ⟨RB, 0, none⟩ = false := frozen_of_row w5 RB 0 _ _ hbr5
          have f1 : w5.frozen? ⟨RB, 1, none⟩ = false := frozen_of_row w5 RB 1 _ _ hbr5
          have f2 : w5.frozen? ⟨RB, 2, none⟩ = false := frozen_of_row w5 RB 2 _ _ hbr5
          have hr5 : RB < w5.heap.size := (Array.getElem?_eq_some_iff.1 hbr5).1
          have HX5 := Lib.hid (HX4.out.below hB5)
          have HO3 := Lib.hid (own_touch (K := fun _ => False) HO4.out (Tch.of_below hB5) fun _ _ h => h)
          have HB5 := Lib.hid (HB4.out.trans (hB5.mono (by have := HX4.out.lt; omega)))
          have HRS5 := Lib.hid hrs5
          have HO5 := Lib.hid ho5
          have HBr5 := Lib.hid hbr5
          clear hrs5 ho5 hbr5 hB5 y0 y1 y2 y3 z0 z1 z2
          go_upto_region 12 with (fail)
          obtain ⟨Wa, hWa⟩ : ∃ Wa, Wa = ((w5.setCell ⟨RB, 0, none⟩ (.int .u64 y.at_)).setCell ⟨RB, 1, none⟩ (.int .i64 rparts')).setCell ⟨RB, 2, none⟩ (.slice A' ps'.length c') := ⟨_, rfl⟩
          rw [← hWa]
          obtain ⟨W6, hW6⟩ : ∃ W6, W6 = Wa.alloc (.cells #[.int .u64 y.at_, .int .i64 rparts', .slice A' ps'.length c'] 42) := ⟨_, rfl⟩
          rw [← hW6]
          have hS : TkS w G RB R' y y.at_ rparts' A' c' ps' (k + 1) out A3 A4 W6 := by
            have hB : Below Wa.heap.size Wa W6 := by rw [hW6]; exact (Below.refl _ _).alloc (Nat.le_refl _) _
            have hbr := HBr5.out
            have ht : Tch (fun j => j = RB) w5 Wa := by
              rw [hWa]
              exact ((Tch.set _ _ _ _).trans (Tch.set _ _ _ _)).trans (Tch.set _ _ _ _)
            have hx := HX5.out
            have hn : ¬ MineI G R' RB := not_mine hx hbr (by decide) (by decide)
            have hno : ∀ {base m size : Nat} {e : TypeId} {v : Value} {xs : List Value}, w5.ownsRow base e size v m xs → e ≠ 42 → ∀ j, v.ownBlock = some j → ¬ j = RB := by
              intro base m size e v xs ho he j hj hjr
              subst hjr
              obtain ⟨cs, fr, hh⟩ := own_type ho hj
              rw [hbr] at hh
              injection hh with hh
              injection hh with _ hh
              exact he hh.symm
            have hrs := HRS5.out
            have ho3 := HO3.out
            have ho4 := HO5.out
            refine TkS.below ⟨⟨hx.touch ht (by omega) fun j hj e => hn (.inr (by rw [← e]; exact hj)), hrs.touch ht (hno hrs.row (by decide)), ?_, ⟨HNb.out.1, HNb.out.2.1⟩, ?_⟩, Sees.of_own (own_touch ho3 ht (hno ho3 (by decide))), Sees.of_own (own_touch ho4 ht (hno ho4 (by decide)))⟩ hB
            · rw [hWa]; exact set3_block _ _ _ hbr
            · exact HB5.out.trans (ht.below (by omega) fun j hj => by omega)
          have hP : TkP w G RB R' y y.at_ rparts' A' c' ps' (k + 1) out A3 A4 W6 := ⟨cell_of_row W6 RB 0 _ _ _ hS.tk.box, cell_of_row W6 RB 2 _ _ _ hS.tk.box, hS⟩
          have p12 := wants_any G G R' y W6 hS.tk.inv
          have hyn := hS.tk.rs.next
          rw [hyn] at p12
          have P12 := Lib.hid p12
          have HP6 := Lib.hid hP
          have P13 : Hid (∀ w', TkP w G RB R' y y.at_ rparts' A' c' ps' (k + 1) out A3 A4 w' → Calls Try.prog 14 #[.slice A3 out.length c3, .slice A4 out.length c4] w' fun e w'' => e = .returned (.bool true) ∧ ∃ q, w'' = w'.drewN q) := Lib.hid fun w' h => by
            have := same8_any A3 A4 out.length out.length c3 c4 out out w' h.s.b3 h.s.b4 rfl rfl hol hol
            rwa [show decide (out = out) = true by simp] at this
          obtain ⟨M, hM⟩ : ∃ M, M = y.b.length := ⟨_, rfl⟩
          have P14 : Hid (∀ w', TkP w G RB R' y y.at_ rparts' A' c' ps' (k + 1) out A3 A4 w' → Calls Try.prog 19 #[.pointer (some ⟨G, 0, none⟩)] w' fun e w'' => e = .returned (.int .i64 (M : Int)) ∧ w' = w'') := Lib.hid fun w' h => by rw [hM]; exact held_any G G R' y w' h.s.tk.inv
          have P15 : Hid (∀ w', TkP w G RB R' y y.at_ rparts' A' c' ps' (k + 1) out A3 A4 w' → Calls Try.prog 20 #[.slice A' ps'.length c'] w' fun e w'' => (∃ AA cA, e = .returned (.slice AA M cA)) ∧ Below w'.heap.size w' w'') := Lib.hid fun w' h => by
            have hb := h.s.tk.bel
            rw [HG.out] at hb
            have hle : ps'.length ≤ 100 := by have := HNb.out.1; omega
            refine (all_any A' ps' c' w' h.s.tk.rs.sees (h.s.tk.rs.pcs.below hb) hle).mono ?_
            rintro e w'' ⟨AA, cA, rfl, _, hB⟩
            exact ⟨⟨AA, cA, by rw [hM, h.s.tk.rs.b]⟩, hB⟩
          obtain ⟨N, hN⟩ : ∃ N, N = ps'.length := ⟨_, rfl⟩
          have HPF : Hid (∀ w', TkP w G RB R' y y.at_ rparts' A' c' ps' (k + 1) out A3 A4 w' → TkR w G RB R' y y.at_ rparts' A' c' ps' (k + 1) w') := Lib.hid fun w' h => h.s.tk
          clear hWa hW6 hS hP p12 hyn hM q0 q1 q2 f0 f1 f2 hr5
          go_wp2_with fail
          refine (P12.out).mono ?_
          rintro e w7 ⟨rfl, qw, rfl⟩
          have HP7 := Lib.hid (HP6.out.next (below_drewN (Below.refl _ _) qw))
          go_wp2_with fail
          go_region_held3 (fun w' => w'.cell? ⟨RB, 0, none⟩ = some (.int .u64 y.at_) ∧ w'.cell? ⟨RB, 2, none⟩ = some (.slice A' ps'.length c') ∧ TkS w G RB R' y y.at_ rparts' A' c' ps' (k + 1) out A3 A4 w')
            (first | assumption | exact HP7.out.next ((Below.refl _ _).drew) | exact TkP.next (by assumption) (below_drewN (Below.refl _ _) _) | exact TkP.next (by assumption) hA1 | fail)
            (first
              | (go_at_call 14; refine (P13.out _ (by assumption)).mono ?_; rintro e wS ⟨rfl, kS, rfl⟩)
              | (go_at_call 19; refine (P14.out _ (by assumption)).mono ?_; rintro e wH ⟨rfl, rfl⟩)
              | (go_at_call 20; refine (P15.out _ (by assumption)).mono ?_; rintro e wA ⟨⟨AA, cA, rfl⟩, hA1⟩)
              | fail)
          all_goals
            rename_i FS0
            have FS : TkP w G RB R' y y.at_ rparts' A' c' ps' (k + 1) out A3 A4 _ := FS0
            have HFS := Lib.hid (HPF.out _ FS)
            clear FS0 FS
            go_wp2_with fail
            go_roundw
            case rel => exact ⟨k + 1, R', y, y.at_, rparts', A', c', ps', by omega, by omega, by go_num, HFS⟩
            case measure => simp [intOf]; omega
      · have hk6 : decide ((k : Int) < 60) = false := by simp; omega
        have hkI : (k : Int) < (n : Int) := by omega
        go_wp2_with fail
        refine (awake_any _).mono ?_
        rintro e w3 ⟨rfl, hB3⟩
        have hfin := (HT.out.below hB3).bel
        go_wp2_with fail
        go_ret
        exact ⟨rfl, hfin⟩
    · obtain rfl : k = n := by omega
      go_wp2_with fail
      refine (awake_any _).mono ?_
      rintro e w3 ⟨rfl, hB3⟩
      have hfin := (HT.out.below hB3).bel
      go_wp2_with fail
      go_ret
      exact ⟨rfl, hfin⟩
end Go.Proofs.Ytgjhcmjkdjnjfaa
