/- The contract of the reference's All. Condition: at most 100 parts of at most 1024 bytes. -/
import Derived.Test.YtgjhcmjkdjnjfaaMoveAwake
namespace Go.Cat.Move
open Go.RowKit Go.Cat
/-- A part that came: a slice, and its bytes. -/
structure Pc where
  A : Option Addr
  c : Nat
  b : List UInt8
def Pc.cell (p : Pc) : Value := .slice p.A p.b.length p.c
def PcIn (w : World) (ps : List Pc) : Prop := ∀ p ∈ ps, Bytes w p.A p.b ∧ p.b.length ≤ 1024
theorem PcIn.below {w w' : World} {ps : List Pc} (h : PcIn w ps) (hb : Below w.heap.size w w') : PcIn w' ps := fun p hp => ⟨(h p hp).1.below hb, (h p hp).2⟩
theorem one_pc (ps : List Pc) : ∀ u ∈ ps.map Pc.cell, u.oneCell' = true := by
  intro u hu
  obtain ⟨p, _, rfl⟩ := List.mem_map.1 hu
  rfl
def allOf (ps : List Pc) : List UInt8 := ps.flatMap Pc.b
theorem all_take {ps : List Pc} {k : Nat} (h : k < ps.length) : allOf (ps.take (k + 1)) = allOf (ps.take k) ++ ps[k].b := by
  unfold allOf
  rw [List.take_succ_eq_append_getElem h, List.flatMap_append]
  simp
theorem all_len {w : World} : ∀ {ps : List Pc}, PcIn w ps → (allOf ps).length ≤ 1024 * ps.length
  | [], _ => by simp [allOf]
  | p :: ps, h => by
    have h1 := all_len fun q hq => h q (List.mem_cons_of_mem _ hq)
    have h2 := (h p (List.mem_cons_self ..)).2
    unfold allOf at *
    rw [List.flatMap_cons, List.length_append, List.length_cons]
    omega
theorem PcIn.take {w : World} {ps : List Pc} (h : PcIn w ps) (k : Nat) : PcIn w (ps.take k) := fun p hp => h p (List.mem_of_mem_take hp)
end Go.Cat.Move
namespace Go.Proofs.Ytgjhcmjkdjnjfaa
open Go.RowKit Go.Cat Go.Cat.Move

def ToldAll (out : List UInt8) (w : World) (e : Ending) (w' : World) : Prop := ∃ A' c', e = .returned (.slice A' out.length c') ∧ w'.ownsRow w.heap.size 5 1 (.slice A' out.length c') out.length (out.map by8) ∧ Below w.heap.size w w'

set_option maxRecDepth 100000 in
theorem all_any (A : Option Addr) (ps : List Pc) (c : Nat) (w : World) (hs : Sees w A (ps.map Pc.cell)) (hp : PcIn w ps) (hn : ps.length ≤ 100) :
    Calls Try.prog 20 #[.slice A ps.length c] w (ToldAll (allOf ps) w) := by
  obtain ⟨n, hN⟩ : ∃ n, n = ps.length := ⟨_, rfl⟩
  rw [← hN] at hn ⊢
  have HN := Lib.hid hN
  have HS := Lib.hid hs
  have HP := Lib.hid hp
  clear hN hs hp
  go_enter Try.func20, Try.ntmps20
  go_wp2_with fail
  go_loopw [3, 4] (fun v iv wr => ∃ (k m : Nat) (Al : Option Addr) (cl : Nat), k ≤ n ∧ iv = .int .i64 k ∧ v = .slice Al m cl ∧ Hid (m = (allOf (ps.take k)).length) ∧ Hid (wr.ownsRow w.heap.size 5 1 (.slice Al m cl) m ((allOf (ps.take k)).map by8)) ∧ m ≤ 102400 ∧ Below w.heap.size w wr) (fun _ iv _ => n - (intOf iv).toNat)
  case atStart => exact ⟨0, 0, none, 0, Nat.zero_le _, rfl, rfl, Lib.hid (by simp [allOf]), Lib.hid (World.ownsRow_nil _ _ _ _), Nat.zero_le _, Below.refl _ _⟩
  case round =>
    obtain ⟨k, m, Al, cl, hk, rfl, rfl, HM, HRow, hm, hbel⟩ := hrel
    by_cases hlt : k < n
    · have hkp : k < ps.length := by rw [← HN.out]; exact hlt
      have hsr := HS.out.below hbel
      have t1 : decide (k < n) = true := by simpa using hlt
      rcases hsr with h | ⟨b, off, rfl, hc⟩
      · exfalso
        have : ps = [] := by simpa using h
        rw [this] at hkp
        simp at hkp
      have hc1 := hc k (ps[k].cell) (by rw [List.getElem?_map, List.getElem?_eq_getElem hkp]; rfl)
      have hb1 := (HP.out _ (List.getElem_mem hkp)).1.below hbel
      have hl1 := (HP.out _ (List.getElem_mem hkp)).2
      have hall := all_take hkp
      have hml := all_len (HP.out.take (k + 1))
      rw [hall, List.length_append, List.length_take, ← HM.out] at hml
      obtain ⟨q, hq⟩ : ∃ q, q = ps[k] := ⟨_, rfl⟩
      rw [← hq] at hc1 hb1 hl1 hall hml
      obtain ⟨Aq, cq, qb⟩ := q
      simp only [Pc.cell] at hc1 hb1 hl1 hall hml
      have hm2 : m + qb.length ≤ 102400 := by omega
      have HB1 := Lib.hid hb1
      have HAll := Lib.hid hall
      clear hc hb1 hall hml hq hkp
      go_wp2_with (at_builtin; refine wpList_app elem_u8 rfl (.tmp 11) (.tmp 15) rfl w.heap.size (.slice Al m cl) m _ rfl HRow.out Aq qb.length cq (qb.map by8) rfl HB1.out (by simp) (one_by8 _) (by omega) hbel.size ?_)
      intro v6 w6 hown6 hg6 _
      have hbel6 : Below w.heap.size w w6 := hbel.own HRow.out hg6 hbel.size (Nat.le_refl _)
      obtain ⟨A6, c6, rfl, _, _⟩ := own_full hown6
      have HO6 := Lib.hid hown6
      clear hown6 hg6
      go_wp2_with fail
      go_roundw
      case rel =>
        refine ⟨k + 1, m + qb.length, A6, c6, by omega, by go_num, rfl, Lib.hid (by rw [HAll.out, List.length_append, ← HM.out]), Lib.hid ?_, by omega, hbel6⟩
        rw [HAll.out, List.map_append]
        exact HO6.out
      case measure => simp [intOf]; omega
    · obtain rfl : k = n := by omega
      have t1 : decide (k < k) = false := by simp
      have he : ps.take k = ps := by rw [HN.out]; exact List.take_length
      have hM := HM.out
      have hRow := HRow.out
      rw [he] at hM hRow
      subst hM
      have fin : ToldAll (allOf ps) w (.returned (.slice Al (allOf ps).length cl)) wr := ⟨Al, cl, rfl, hRow, hbel⟩
      have HF := Lib.hid fin
      clear fin he hRow
      go_wp2_with fail
      go_ret
      exact HF.out
end Go.Proofs.Ytgjhcmjkdjnjfaa
