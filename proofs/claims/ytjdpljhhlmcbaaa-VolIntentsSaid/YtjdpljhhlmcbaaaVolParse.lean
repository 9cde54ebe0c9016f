/- The patches of bytes: plain. No condition. -/
import Derived.Test.YtjdpljhhlmcbaaaFixText
namespace Go.Cat.Vol
open Go.RowKit Go.Cat
/-- A patch. -/
structure Pv where
  key : Int
  ver : Int
  b : List UInt8
/-- One patch is read. -/
def one (s : IS) : IS × Pv :=
  ((((s.upto 4 18446744073709551615).1.upto 8 18446744073709551615).1.text 64).1,
    ⟨(s.upto 4 18446744073709551615).2, ((s.upto 4 18446744073709551615).1.upto 8 18446744073709551615).2, (((s.upto 4 18446744073709551615).1.upto 8 18446744073709551615).1.text 64).2⟩)
/-- The first k patches, and what is left. -/
def parse (s : IS) : Nat → IS × List Pv
  | 0 => (s, [])
  | k + 1 => ((one (parse s k).1).1, (parse s k).2 ++ [(one (parse s k).1).2])
theorem parse_length (s : IS) : ∀ k, (parse s k).2.length = k
  | 0 => rfl
  | k + 1 => by show ((parse s k).2 ++ [_]).length = k + 1; rw [List.length_append, parse_length s k]; rfl
theorem upto_bounds (s : IS) (n : Nat) (most : Int) : 0 ≤ (s.upto n most).2 ∧ (s.upto n most).2 < ((256 ^ n : Nat) : Int) := by
  unfold IS.upto
  have hp : 0 < 256 ^ n := Nat.pow_pos (by omega)
  split
  · exact ⟨Int.le_refl _, by show (0 : Int) < _; omega⟩
  · rename_i h
    split
    · exact ⟨Int.le_refl _, by show (0 : Int) < _; omega⟩
    · have h1 := (IS.next_ok (s := s) (n := n) (by simpa using h)).2
      have h2 := num_lt (s.next n).2.1
      rw [h1] at h2
      exact ⟨by show (0 : Int) ≤ (num _ : Int); omega, by show (num _ : Int) < _; omega⟩
theorem text_le (s : IS) (most : Int) (h : 0 ≤ most) : ((s.text most).2.length : Int) ≤ most := by
  unfold IS.text
  split
  · simpa using h
  · split
    · simpa using h
    · rename_i h2
      have := IS.next_out_le (s.next 2).1 (num (s.next 2).2.1)
      show ((((s.next 2).1.next (num (s.next 2).2.1)).2.1).length : Int) ≤ most
      omega
/-- What a patch that was read is within. -/
structure PvIn (p : Pv) : Prop where
  key0 : 0 ≤ p.key
  key1 : p.key < 4294967296
  ver0 : 0 ≤ p.ver
  ver1 : p.ver < 18446744073709551616
  len : p.b.length ≤ 64
theorem one_in (s : IS) : PvIn (one s).2 := by
  have h1 := upto_bounds s 4 18446744073709551615
  have h2 := upto_bounds (s.upto 4 18446744073709551615).1 8 18446744073709551615
  have h3 := text_le ((s.upto 4 18446744073709551615).1.upto 8 18446744073709551615).1 64 (by omega)
  exact ⟨h1.1, h1.2, h2.1, h2.2, by show (IS.text _ 64).2.length ≤ 64; omega⟩
theorem parse_in (s : IS) : ∀ k, ∀ p ∈ (parse s k).2, PvIn p
  | 0 => by intro p hp; cases hp
  | k + 1 => by
    intro p hp
    rcases List.mem_append.1 (show p ∈ (parse s k).2 ++ [(one (parse s k).1).2] from hp) with h | h
    · exact parse_in s k p h
    · rw [List.mem_singleton.1 h]
      exact one_in _
end Go.Cat.Vol
