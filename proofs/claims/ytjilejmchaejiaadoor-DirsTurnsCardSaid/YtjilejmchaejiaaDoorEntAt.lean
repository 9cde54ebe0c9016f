/- The contracts of dirs.at (with slices.IndexFunc at its test), of dirs.Find and of the reference's Find. Condition: at most 1000000 entries. -/
import Derived.Test.YtjilejmchaejiaaDoorEntSee
import Derived.Test.YtjilejmchaejiaaDoorEntTurnV
namespace Go.Cat.Dir
open Go.RowKit Go.Cat
/-- What at tells. -/
def atE (l : List Ent) (x : Txt) : Int := if ixE l x < l.length then (ixE l x : Int) else -1
theorem at_yes {l : List Ent} {x : Txt} (h : ixE l x < l.length) : atE l x = (ixE l x : Int) := if_pos h
theorem at_no {l : List Ent} {x : Txt} (h : ¬ ixE l x < l.length) : atE l x = -1 := if_neg h
/-- What Find tells. -/
def findE (l : List Ent) (x : Txt) : Int := if h : ixE l x < l.length then l[ixE l x].2 else 0
def hasE (l : List Ent) (x : Txt) : Bool := decide (ixE l x < l.length)
theorem find_yes {l : List Ent} {x : Txt} {k : Nat} (hk : k < l.length) (h : ixE l x = k) : findE l x = l[k].2 ∧ hasE l x = true := by
  subst h
  exact ⟨dif_pos hk, decide_eq_true hk⟩
theorem find_no {l : List Ent} {x : Txt} (h : ¬ ixE l x < l.length) : findE l x = 0 ∧ hasE l x = false := ⟨dif_neg h, decide_eq_false h⟩
end Go.Cat.Dir
namespace Go.Proofs.YtjilejmchaejiaaDoor
open Go.RowKit Go.Cat Go.Cat.Dir

set_option maxRecDepth 100000 in
theorem isat_any (x z : Txt) (y : Int) (g : Nat) (w : World) (hg : w.cell? ⟨g, 0, none⟩ = some (.string (bs z))) :
    Calls Tryd.prog 85 #[.agg #[.string (bs x), .int .i64 y], .pointer (some ⟨g, 0, none⟩)] w fun e w' => e = .returned (.bool (x == z)) ∧ Below w.heap.size w w' := by
  have hgl := World.block_lt_of_cell? w _ hg
  have e1 : ((bs x).toList == (bs z).toList) = (x == z) := by rw [bs_toList, bs_toList]
  have hg1 := (World.cell?_alloc_lt w (.cells #[.string (bs x), .int .i64 y] 56) _ hgl).trans hg
  obtain ⟨b, hb⟩ : ∃ b, b = (x == z) := ⟨_, rfl⟩
  rw [← hb] at e1 ⊢
  clear hb
  go_enter Tryd.func85, Tryd.ntmps85
  go_wp2_with fail
  go_ret
  exact ⟨rfl, (Below.refl _ _).alloc (Nat.le_refl _) _⟩

/-- What IndexFunc tells. -/
def ToldAt (l : List Ent) (z : Txt) (w : World) (e : Ending) (w' : World) : Prop := e = .returned (.int .i64 (atE l z)) ∧ Below w.heap.size w w'

set_option maxRecDepth 100000 in
theorem indexent_any (A : Option Addr) (l : List Ent) (c : Nat) (z : Txt) (g : Nat) (w : World) (hs : Sees w A (erows l)) (hg : w.cell? ⟨g, 0, none⟩ = some (.string (bs z))) (hn : l.length ≤ 9223372036854775807) :
    Calls Tryd.prog 84 #[.slice A l.length c, .func (.func 85) #[] #[.pointer (some ⟨g, 0, none⟩)]] w (ToldAt l z w) := by
  have hgl := World.block_lt_of_cell? w _ hg
  unfold ToldAt
  obtain ⟨V, hV⟩ : ∃ V, V = atE l z := ⟨_, rfl⟩
  rw [← hV]
  have HV := Lib.hid hV
  obtain ⟨n, hnn⟩ : ∃ n, n = l.length := ⟨_, rfl⟩
  rw [← hnn] at hn ⊢
  have HN := Lib.hid hnn
  have HS := Lib.hid hs
  have HG := Lib.hid hg
  have HGl := Lib.hid hgl
  clear hnn hs hV hg hgl
  go_enter Tryd.func84, Tryd.ntmps84
  go_wp2_with fail
  go_loopw [5, 8] (fun _ iv wr => ∃ k : Nat, k ≤ n ∧ iv = .int .i64 k ∧ Hid (∀ j (hj : j < l.length), j < k → l[j].1 ≠ z) ∧ Hid (Below w.heap.size w wr)) (fun _ iv _ => n - (intOf iv).toNat)
  case atStart => exact ⟨0, Nat.zero_le _, rfl, fun j _ h => absurd h (Nat.not_lt_zero j), Below.refl _ _⟩
  case round =>
    obtain ⟨k, hk, rfl, HA, HB⟩ := hrel
    by_cases hlt : k < n
    · have t1 : decide ((k : Int) < (n : Int)) = true := by simp; omega
      have hkl : k < l.length := by rw [← HN.out]; exact hlt
      obtain ⟨b, off, hA, hbl, e0, e1⟩ := erows_at (HS.out.below HB.out) hkl
      obtain ⟨x, hx⟩ : ∃ x, x = l[k].1 := ⟨_, rfl⟩
      obtain ⟨y, hy⟩ : ∃ y, y = l[k].2 := ⟨_, rfl⟩
      rw [← hx] at e0
      rw [← hy] at e1
      have hkI : (k : Int) < (n : Int) := by omega
      have hk0 : (0 : Int) ≤ (k : Int) := by omega
      have P1 := Lib.hid (isat_any x z y g wr ((HB.out.cell (p := ⟨g, 0, none⟩) HGl.out).trans HG.out))
      cases hb : (x == z) with
      | false =>
        have hall : ∀ j (hj : j < l.length), j < k + 1 → l[j].1 ≠ z := fun j hj hjk => by
          by_cases e : j = k
          · subst e; rw [← hx]; simpa using hb
          · exact HA.out j hj (by omega)
        have HA2 := Lib.hid hall
        rw [hb] at P1
        subst hA
        clear hx hy hb hall hbl hkl
        go_wp2_with (go_at_call 85; refine (P1.out).mono ?_; rintro e w1 ⟨rfl, hB1⟩)
        have HB1 := Lib.hid (HB.out.trans (hB1.mono HB.out.size))
        clear hB1
        go_roundw
        case rel => exact ⟨k + 1, by omega, by go_num, HA2.out, HB1.out⟩
        case measure => simp [intOf]; omega
      | true =>
        have hix : ixE l z = k := ix_at hkl HA.out (by rw [← hx]; simpa using hb)
        have hv : V = (k : Int) := by rw [HV.out, at_yes (by rw [hix]; exact hkl), hix]
        subst hv
        rw [hb] at P1
        subst hA
        clear hx hy hb hbl hkl hix
        go_wp2_with (go_at_call 85; refine (P1.out).mono ?_; rintro e w1 ⟨rfl, hB1⟩)
        go_ret
        exact ⟨rfl, HB.out.trans (hB1.mono HB.out.size)⟩
    · obtain rfl : k = n := by omega
      have t1 : decide ((k : Int) < (k : Int)) = false := by simp
      have hv : V = -1 := by
        rw [HV.out]
        refine at_no ?_
        rw [ix_no (fun j hj => HA.out j hj (by rw [HN.out]; exact hj))]
        exact Nat.lt_irrefl _
      subst hv
      go_wp2_with fail
      go_ret
      exact ⟨rfl, HB.out⟩

theorem at_any (A : Option Addr) (l : List Ent) (c : Nat) (z : Txt) (w : World) (hs : Sees w A (erows l)) (hn : l.length ≤ 9223372036854775807) :
    Calls Tryd.prog 57 #[.slice A l.length c, .string (bs z)] w (ToldAt l z w) := by
  have P1 := Lib.hid (indexent_any A l c z w.heap.size (w.alloc (.cells #[.string (bs z)] 9)) (hs.alloc _) (by simp) hn)
  unfold ToldAt at P1 ⊢
  obtain ⟨V, hV⟩ : ∃ V, V = atE l z := ⟨_, rfl⟩
  rw [← hV] at P1 ⊢
  clear hV hs
  go_enter Tryd.func57, Tryd.ntmps57
  go_wp2_with fail
  refine (P1.out).mono ?_
  rintro e w1 ⟨rfl, hB⟩
  go_wp2_with fail
  go_ret
  exact ⟨rfl, ((Below.refl w.heap.size w).alloc (Nat.le_refl _) _).trans (hB.mono (by simp))⟩

/-- What Find tells. -/
def ToldF (l : List Ent) (z : Txt) (w : World) (e : Ending) (w' : World) : Prop := e = .returned (.tuple #[.int .i64 (findE l z), .bool (hasE l z)]) ∧ Below w.heap.size w w'

theorem dfind_any (A : Option Addr) (l : List Ent) (c : Nat) (z : Txt) (w : World) (hs : Sees w A (erows l)) (hn : l.length ≤ 9223372036854775807) :
    Calls Tryd.prog 34 #[.slice A l.length c, .string (bs z)] w (ToldF l z w) := by
  have P1 := Lib.hid (at_any A l c z w hs hn)
  unfold ToldAt at P1
  unfold ToldF
  by_cases hi : ixE l z < l.length
  · obtain ⟨k, hk⟩ : ∃ k, k = ixE l z := ⟨_, rfl⟩
    rw [at_yes hi, ← hk] at P1
    have hkl : k < l.length := by rw [hk]; exact hi
    obtain ⟨f1, f2⟩ := find_yes hkl hk.symm
    rw [f1, f2]
    obtain ⟨b, off, rfl, hbl, e0, e1⟩ := erows_at hs hkl
    obtain ⟨y, hy⟩ : ∃ y, y = l[k].2 := ⟨_, rfl⟩
    rw [← hy] at e1 ⊢
    have E1 := Lib.hid e1
    have HB := Lib.hid hbl
    obtain ⟨n, hnn⟩ : ∃ n, n = l.length := ⟨_, rfl⟩
    rw [← hnn] at hn hkl P1 ⊢
    have hkI : (k : Int) < (n : Int) := by omega
    have hk0 : (0 : Int) ≤ (k : Int) := by omega
    have hk1 : decide ((k : Int) < 0) = false := by simp
    clear hy e0 e1 hbl hnn hs hi hk f1 f2
    go_enter Tryd.func34, Tryd.ntmps34
    go_wp2_with fail
    refine (P1.out).mono ?_
    rintro e w1 ⟨rfl, hB⟩
    have c1 := (hB.cell (p := ⟨b, off + k * 2 + 1, none⟩) HB.out).trans E1.out
    go_wp2_with fail
    go_ret2
    exact ⟨rfl, hB⟩
  · rw [at_no hi] at P1
    obtain ⟨f1, f2⟩ := find_no hi
    rw [f1, f2]
    obtain ⟨n, hnn⟩ : ∃ n, n = l.length := ⟨_, rfl⟩
    rw [← hnn] at P1 ⊢
    clear hnn hs hi f1 f2 hn
    go_enter Tryd.func34, Tryd.ntmps34
    go_wp2_with fail
    refine (P1.out).mono ?_
    rintro e w1 ⟨rfl, hB⟩
    go_wp2_with fail
    go_ret2
    exact ⟨rfl, hB⟩

set_option maxRecDepth 100000 in
theorem rfind_any (A : Option Addr) (l : List Ent) (c : Nat) (z : Txt) (w : World) (hs : Sees w A (erows l)) (hn : l.length ≤ 9223372036854775807) :
    Calls Tryd.prog 35 #[.slice A l.length c, .string (bs z)] w (ToldF l z w) := by
  unfold ToldF
  obtain ⟨V, hV⟩ : ∃ V, V = findE l z := ⟨_, rfl⟩
  obtain ⟨B, hB⟩ : ∃ B, B = hasE l z := ⟨_, rfl⟩
  rw [← hV, ← hB]
  have HV := Lib.hid hV
  have HBb := Lib.hid hB
  obtain ⟨n, hnn⟩ : ∃ n, n = l.length := ⟨_, rfl⟩
  rw [← hnn] at hn ⊢
  have HN := Lib.hid hnn
  have HS := Lib.hid hs
  clear hnn hs hV hB
  go_enter Tryd.func35, Tryd.ntmps35
  go_wp2_with fail
  go_loopw [6] (fun iv wr => ∃ k : Nat, k ≤ n ∧ iv = .int .i64 k ∧ w = wr ∧ Hid (∀ j (hj : j < l.length), j < k → l[j].1 ≠ z)) (fun iv _ => n - (intOf iv).toNat)
  case atStart => exact ⟨0, Nat.zero_le _, rfl, rfl, fun j _ h => absurd h (Nat.not_lt_zero j)⟩
  case round =>
    obtain ⟨k, hk, rfl, rfl, HA⟩ := hrel
    by_cases hlt : k < n
    · have t1 : decide ((k : Int) < (n : Int)) = true := by simp; omega
      have hkl : k < l.length := by rw [← HN.out]; exact hlt
      obtain ⟨b, off, hA, hbl, e0, e1⟩ := erows_at HS.out hkl
      subst hA
      have hkI : (k : Int) < (n : Int) := by omega
      have hk0 : (0 : Int) ≤ (k : Int) := by omega
      by_cases hb : l[k].1 = z
      · have hix : ixE l z = k := ix_at hkl HA.out hb
        obtain ⟨f1, f2⟩ := find_yes hkl hix
        have hv : V = l[k].2 := by rw [HV.out, f1]
        have hbb : B = true := by rw [HBb.out, f2]
        rw [hb] at e0
        rw [← hv] at e1
        subst hbb
        have d1 : ((bs z).toList == (bs z).toList) = true := by simp
        clear hb hix f1 f2 hv hbl hkl
        go_wp2_with fail
        go_ret2
        exact ⟨rfl, Below.refl _ _⟩
      · have hall : ∀ j (hj : j < l.length), j < k + 1 → l[j].1 ≠ z := fun j hj hjk => by
          by_cases e : j = k
          · subst e; exact hb
          · exact HA.out j hj (by omega)
        have HA2 := Lib.hid hall
        obtain ⟨x, hx⟩ : ∃ x, x = l[k].1 := ⟨_, rfl⟩
        rw [← hx] at e0 hb
        have d1 : ((bs x).toList == (bs z).toList) = false := by rw [bs_toList, bs_toList]; simpa using hb
        clear hb hall hx hbl
        go_wp2_with fail
        go_roundw
        case rel => exact ⟨k + 1, by omega, by go_num, by first | rfl | trivial, HA2.out⟩
        case measure => simp [intOf]; omega
    · obtain rfl : k = n := by omega
      have t1 : decide ((k : Int) < (k : Int)) = false := by simp
      have hno : ¬ ixE l z < l.length := by
        rw [ix_no (fun j hj => HA.out j hj (by rw [HN.out]; exact hj))]
        exact Nat.lt_irrefl _
      obtain ⟨f1, f2⟩ := find_no hno
      have hv : V = 0 := by rw [HV.out, f1]
      have hbb : B = false := by rw [HBb.out, f2]
      subst hv hbb
      clear hno f1 f2
      go_wp2_with fail
      go_ret2
      exact ⟨rfl, Below.refl _ _⟩
end Go.Proofs.YtjilejmchaejiaaDoor
