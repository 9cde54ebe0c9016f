/- The contracts of At, Parts and Part. Condition: at most 65536 bytes. -/
import Derived.Test.YtgjhcmjkdjnjfaaMoveNew
namespace Go.Cat.Move
def chunkAt (bs : List UInt8) (i : Int) : List UInt8 := if 0 ≤ i ∧ i < (chunks bs).length then (chunks bs).getD i.toNat [] else []
def hasChunk (bs : List UInt8) (i : Int) : Bool := decide (0 ≤ i) && decide (i < (chunks bs).length)
theorem chunkAt_le (bs : List UInt8) (i : Int) : (chunkAt bs i).length ≤ 1024 := by
  unfold chunkAt
  split
  · rename_i h
    obtain ⟨k, rfl⟩ := Int.eq_ofNat_of_zero_le h.1
    have hk : k < (chunks bs).length := by omega
    rw [Int.toNat_natCast, List.getD_eq_getElem?_getD, List.getElem?_eq_getElem hk, Option.getD_some, chunks_at hk]
    simp
    omega
  · exact Nat.zero_le _
end Go.Cat.Move
namespace Go.Proofs.Ytgjhcmjkdjnjfaa
open Go.RowKit Go.Cat Go.Cat.Move

abbrev OutV (base : Nat) (at_ : Int) (bs : List UInt8) (g : Nat) (w : World) : Prop := OutB 55 base at_ bs g w

theorem parts_any (base g : Nat) (at_ : Int) (bs : List UInt8) (w : World) (h : OutV base at_ bs g w) :
    Calls Try.prog 11 #[.pointer (some ⟨g, 0, none⟩)] w fun e w' => e = .returned (.int .i64 ((chunks bs).length : Int)) ∧ w = w' := by
  obtain ⟨Ao, co, ps, _, h1, _, h3, _, _⟩ := h
  have c1 : w.cell? ⟨g, 1, none⟩ = some (.slice Ao ps.length co) := cell_of_row w g 1 _ _ _ h1
  have hl : ps.length = (chunks bs).length := by rw [← h3]; simp
  have HL := Lib.hid hl
  clear h1 h3 hl
  go_enter Try.func11, Try.ntmps11
  go_wp2
  go_ret
  exact ⟨ret_int (by rw [HL.out]), rfl⟩

theorem parts_nil (w : World) : Calls Try.prog 11 #[.pointer none] w fun e w' => e = .returned (.int .i64 0) ∧ w = w' := by
  go_enter Try.func11, Try.ntmps11
  go_wp2
  go_ret
  exact ⟨rfl, rfl⟩

theorem at_any (base g : Nat) (at_ : Int) (bs : List UInt8) (w : World) (h : OutV base at_ bs g w) :
    Calls Try.prog 12 #[.pointer (some ⟨g, 0, none⟩)] w fun e w' => e = .returned (.int .u64 at_) ∧ w = w' := by
  obtain ⟨Ao, co, ps, _, h1, _, h3, _, _⟩ := h
  have c1 : w.cell? ⟨g, 0, none⟩ = some (.int .u64 at_) := cell_of_row w g 0 _ _ _ h1
  clear h1 h3
  go_enter Try.func12, Try.ntmps12
  go_wp2
  go_ret
  exact ⟨rfl, rfl⟩

theorem at_nil (w : World) : Calls Try.prog 12 #[.pointer none] w fun e w' => e = .returned (.int .u64 0) ∧ w = w' := by
  go_enter Try.func12, Try.ntmps12
  go_wp2
  go_ret
  exact ⟨rfl, rfl⟩

/-- A part is told, its bytes in new memory. -/
def ToldPart (l : List UInt8) (ok : Bool) (w : World) (e : Ending) (w' : World) : Prop :=
  ∃ A' c', e = .returned (.tuple #[.slice A' l.length c', .bool ok]) ∧ w'.ownsRow w.heap.size 5 1 (.slice A' l.length c') l.length (l.map by8) ∧ Below w.heap.size w w'

theorem part_nil (i : Int) (w : World) : Calls Try.prog 9 #[.pointer none, .int .i64 i] w (ToldPart [] false w) := by
  by_cases h : i < 0
  · have d : decide (i < 0) = true := by simpa using h
    clear h
    go_enter Try.func9, Try.ntmps9
    go_wp2_with fail
    go_ret2
    exact ⟨none, 0, rfl, World.ownsRow_nil _ _ _ _, Below.refl _ _⟩
  · have d : decide (i < 0) = false := by simpa using h
    have d2 : decide (0 ≤ i) = true := by simp; omega
    clear h
    go_enter Try.func9, Try.ntmps9
    go_wp2_with fail
    refine (parts_nil w).mono ?_
    rintro e w' ⟨rfl, rfl⟩
    go_wp2_with fail
    go_ret2
    exact ⟨none, 0, rfl, World.ownsRow_nil _ _ _ _, Below.refl _ _⟩

set_option maxRecDepth 100000 in
theorem part_any (base g : Nat) (at_ : Int) (bs : List UInt8) (i : Int) (w : World) (h : OutV base at_ bs g w) (hL : bs.length ≤ 65536) :
    Calls Try.prog 9 #[.pointer (some ⟨g, 0, none⟩), .int .i64 i] w (ToldPart (chunkAt bs i) (hasChunk bs i) w) := by
  have p1 := parts_any base g at_ bs w h
  have hlen : (chunks bs).length ≤ 65 := by rw [chunks_length]; unfold ccount; omega
  by_cases h0 : i < 0
  · have d : decide (i < 0) = true := by simpa using h0
    have e1 : chunkAt bs i = [] := by unfold chunkAt; rw [if_neg (by omega)]
    have e2 : hasChunk bs i = false := by unfold hasChunk; simp; omega
    rw [e1, e2]
    clear h0 h p1 e1 e2
    go_enter Try.func9, Try.ntmps9
    go_wp2_with fail
    go_ret2
    exact ⟨none, 0, rfl, World.ownsRow_nil _ _ _ _, Below.refl _ _⟩
  · have d : decide (i < 0) = false := by simpa using h0
    by_cases h1 : ((chunks bs).length : Int) ≤ i
    · have e1 : chunkAt bs i = [] := by unfold chunkAt; rw [if_neg (by omega)]
      have e2 : hasChunk bs i = false := by unfold hasChunk; simp; omega
      rw [e1, e2]
      have d2 : decide (((chunks bs).length : Int) ≤ i) = true := by simpa using h1
      have P1 := Lib.hid p1
      clear h0 h1 h p1 e1 e2
      go_enter Try.func9, Try.ntmps9
      go_wp2_with fail
      refine (P1.out).mono ?_
      rintro e w' ⟨rfl, rfl⟩
      go_wp2_with fail
      go_ret2
      exact ⟨none, 0, rfl, World.ownsRow_nil _ _ _ _, Below.refl _ _⟩
    · have d2 : decide (((chunks bs).length : Int) ≤ i) = false := by simpa using h1
      obtain ⟨k, rfl⟩ := Int.eq_ofNat_of_zero_le (by omega : 0 ≤ i)
      have hk : k < (chunks bs).length := by omega
      have e1 : chunkAt bs k = (chunks bs)[k] := by unfold chunkAt; rw [if_pos (by omega), Int.toNat_natCast, List.getD_eq_getElem?_getD, List.getElem?_eq_getElem hk]; rfl
      have e2 : hasChunk bs k = true := by unfold hasChunk; simp; omega
      obtain ⟨Ao, co, ps, _, h2, hco, h3, h4, h5⟩ := h
      have hl : ps.length = (chunks bs).length := by rw [← h3]; simp
      have hkp : k < ps.length := by omega
      obtain ⟨x, hx⟩ : ∃ x, x = ps[k] := ⟨_, rfl⟩
      have hx2 : x.2.2 = (chunks bs)[k] := by
        have : (ps.map (·.2.2))[k]? = (chunks bs)[k]? := by rw [h3]
        rw [List.getElem?_map, List.getElem?_eq_getElem hkp, List.getElem?_eq_getElem hk] at this
        rw [hx]
        simpa using this
      rw [e2, e1, ← hx2]
      have hxl : x.2.2.length ≤ 1024 := by rw [hx2, ← e1]; exact chunkAt_le bs k
      have hby : Bytes w x.1 x.2.2 := (h5 x (by rw [hx]; exact List.getElem_mem _)).sees
      obtain ⟨b, off, rfl, e0⟩ : ∃ b off, Ao = some ⟨b, off, none⟩ ∧ w.cell? ⟨b, off + k, none⟩ = some (.slice x.1 x.2.2.length x.2.1) := by
        rcases h4 with h4 | ⟨b, off, _, hA, hc⟩
        · have := congrArg List.length h4; simp at this; rw [this] at hkp; simp at hkp
        · refine ⟨b, off, hA, hc k _ ?_⟩
          rw [List.getElem?_map, List.getElem?_eq_getElem hkp, ← hx]
          rfl
      have c1 : w.cell? ⟨g, 1, none⟩ = some (.slice (some ⟨b, off, none⟩) ps.length co) := cell_of_row w g 1 _ _ _ h2
      have hkI : (k : Int) < (ps.length : Int) := by omega
      have hk0 : (0 : Int) ≤ (k : Int) := by omega
      have P1 := Lib.hid p1
      clear h0 h1 h2 h3 h4 h5 p1 e1 e2 hx hx2 hl
      go_enter Try.func9, Try.ntmps9
      go_wp2_with fail
      refine (P1.out).mono ?_
      rintro e w' ⟨rfl, rfl⟩
      go_wp2_with fail
      refine (clone_any x.1 x.2.2.length x.2.1 x.2.2 w hby rfl (by omega)).mono ?_
      rintro e w' ⟨A', c', rfl, ho, hB⟩
      go_wp2_with fail
      go_ret2
      exact ⟨A', c', rfl, ho, hB⟩
end Go.Proofs.Ytgjhcmjkdjnjfaa
