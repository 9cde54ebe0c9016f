/- The inode of bytes: plain. No condition. -/
import Derived.Test.YtjdpljhhlmcbaaaFixGet
import Derived.Test.YtjdpljhhlmcbaaaInoCheckA
namespace Go.Cat.Ino
open Go.RowKit Go.Cat
/-- One extent is read. -/
def oneE (s : IS) : IS × Ext := (((s.upto 2 18446744073709551615).1.upto 2 18446744073709551615).1, ((s.upto 2 18446744073709551615).2, ((s.upto 2 18446744073709551615).1.upto 2 18446744073709551615).2))
/-- The first k extents, and what is left. -/
def parseE (s : IS) : Nat → IS × List Ext
  | 0 => (s, [])
  | k + 1 => ((oneE (parseE s k).1).1, (parseE s k).2 ++ [(oneE (parseE s k).1).2])
theorem parseE_length (s : IS) : ∀ k, (parseE s k).2.length = k
  | 0 => rfl
  | k + 1 => by show ((parseE s k).2 ++ [_]).length = k + 1; rw [List.length_append, parseE_length s k]; rfl
theorem uptoI_bounds (s : IS) (n : Nat) (most : Int) : 0 ≤ (s.upto n most).2 ∧ (s.upto n most).2 < ((256 ^ n : Nat) : Int) := by
  unfold IS.upto
  have hp : 0 < 256 ^ n := Nat.pow_pos (by omega)
  split
  · exact ⟨Int.le_refl _, by show (0 : Int) < _; omega⟩
  · rename_i h
    split
    · exact ⟨Int.le_refl _, by show (0 : Int) < _; omega⟩
    · have h1 := (IS.next_ok (s := s) (n := n) (by simpa using h)).2
      have h2 := num_lt (s.next n).2.1
      rw [h1] at h2
      exact ⟨by show (0 : Int) ≤ (num _ : Int); omega, by show (num _ : Int) < _; omega⟩
theorem uptoI_most (s : IS) (n : Nat) (most : Int) (h0 : 0 ≤ most) : (s.upto n most).2 ≤ most := by
  unfold IS.upto
  split
  · exact h0
  · split
    · exact h0
    · rename_i h
      show ((num _ : Nat) : Int) ≤ most
      omega
theorem oneE_in (s : IS) : 0 ≤ (oneE s).2.1 ∧ (oneE s).2.1 < 65536 ∧ 0 ≤ (oneE s).2.2 ∧ (oneE s).2.2 < 65536 := by
  have h1 := uptoI_bounds s 2 18446744073709551615
  have h2 := uptoI_bounds (s.upto 2 18446744073709551615).1 2 18446744073709551615
  exact ⟨h1.1, h1.2, h2.1, h2.2⟩
theorem parseE_in (s : IS) : ∀ k, ∀ e ∈ (parseE s k).2, ExK e
  | 0 => by intro e he; cases he
  | k + 1 => by
    intro e he
    rcases List.mem_append.1 (show e ∈ (parseE s k).2 ++ [(oneE (parseE s k).1).2] from he) with h | h
    · exact parseE_in s k e h
    · rw [List.mem_singleton.1 h]
      have := oneE_in (parseE s k).1
      exact ⟨by omega, by omega, by omega, by omega⟩
/-- The mode, how many, the size. -/
def rdM (b : List UInt8) : IS × Int := (⟨b, 0⟩ : IS).upto 1 2
def rdN (b : List UInt8) : IS × Int := (rdM b).1.upto 1 8
def rdZ (b : List UInt8) : IS × Int := (rdN b).1.upto 4 18446744073709551615
def rdE (b : List UInt8) : IS × List Ext := parseE (rdZ b).1 (rdN b).2.toNat
/-- What Get tells. -/
noncomputable def getI (b : List UInt8) : InV × Int :=
  if b = [] then ((0, 0, []), 0) else if (rdE b).1.done ≠ 0 then ((0, 0, []), (rdE b).1.done) else if checkI (rdM b).2 (rdZ b).2 (rdE b).2 ≠ 0 then ((0, 0, []), 4) else (((rdM b).2, (rdZ b).2, (rdE b).2), 0)
theorem getI_nil : getI [] = ((0, 0, []), 0) := by unfold getI; rw [if_pos rfl]
section
variable {b : List UInt8}
theorem getI_done (h : b ≠ []) (h3 : (rdE b).1.done ≠ 0) : getI b = ((0, 0, []), (rdE b).1.done) := by unfold getI; rw [if_neg h, if_pos h3]
theorem getI_form (h : b ≠ []) (h3 : (rdE b).1.done = 0) (h4 : checkI (rdM b).2 (rdZ b).2 (rdE b).2 ≠ 0) : getI b = ((0, 0, []), 4) := by unfold getI; rw [if_neg h, if_neg (by simpa using h3), if_pos h4]
theorem getI_ok (h : b ≠ []) (h3 : (rdE b).1.done = 0) (h4 : checkI (rdM b).2 (rdZ b).2 (rdE b).2 = 0) : getI b = (((rdM b).2, (rdZ b).2, (rdE b).2), 0) := by unfold getI; rw [if_neg h, if_neg (by simpa using h3), if_neg (by simpa using h4)]
theorem rd_bounds (b : List UInt8) : (0 ≤ (rdM b).2 ∧ (rdM b).2 ≤ 2) ∧ (0 ≤ (rdN b).2 ∧ (rdN b).2 ≤ 8) ∧ (0 ≤ (rdZ b).2 ∧ (rdZ b).2 < 4294967296) := by
  have h1 := uptoI_bounds (⟨b, 0⟩ : IS) 1 2
  have h2 := uptoI_most (⟨b, 0⟩ : IS) 1 2 (by omega)
  have h3 := uptoI_bounds (rdM b).1 1 8
  have h4 := uptoI_most (rdM b).1 1 8 (by omega)
  have h5 := uptoI_bounds (rdN b).1 4 18446744073709551615
  exact ⟨⟨h1.1, h2⟩, ⟨h3.1, h4⟩, ⟨h5.1, h5.2⟩⟩
theorem rdE_length (b : List UInt8) : (rdE b).2.length = (rdN b).2.toNat := parseE_length _ _
theorem rdE_in (b : List UInt8) : ∀ e ∈ (rdE b).2, ExK e := parseE_in _ _
end
end Go.Cat.Ino
