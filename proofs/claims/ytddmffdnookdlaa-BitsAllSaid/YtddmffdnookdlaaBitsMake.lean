/- The contracts of bits.whole, New and of the reference's Of: they make a bitmap of their own. Condition: numbers of bits up to 4096. -/
import Derived.Test.YtddmffdnookdlaaBitsList
import Derived.Laws.CopyOwn
namespace Go.Proofs.Ytddmffdnookdlaa
open Go.RowKit Go.Cat Go.Cat.Bits

theorem size_u8 : (Try.prog.info? 5).map (·.size) = some 1 := by kernel_rfl

theorem splice_zero {α : Type} (z : List α) (cs : List α) : splice z 0 cs = cs ++ z.drop cs.length := by simp [splice]

/-- A row of one's own, out of a block that is known whole. -/
theorem own_of_block {w : World} {base g n : Nat} {e : TypeId} {xs : List Value} (hb : base ≤ g) (hh : w.heap[g]? = some (.cells xs.toArray e (0, 0))) (hn : xs.length = n) (hm : n ≤ maxLen) :
    w.ownsRow base e 1 (.slice (some ⟨g, 0, none⟩) n n) n xs :=
  ⟨by omega, .inr ⟨g, n, xs.toArray, rfl, hb, hh, Nat.le_refl _, hm, by simp; omega, by simp [← hn]⟩⟩

theorem block_of_own {w : World} {base g n cap : Nat} {e : TypeId} {xs : List Value} (h : w.ownsRow base e 1 (.slice (some ⟨g, 0, none⟩) n cap) n xs) (hc : cap = n) : w.heap[g]? = some (.cells xs.toArray e (0, 0)) := by
  rcases h.2 with ⟨h1, _⟩ | ⟨g', cap', cur, hv, hb, hh, hnc, hm, hs, ht⟩
  · cases h1
  · injection hv with hA _ hC
    injection hA with hA
    injection hA with hA
    subst hA
    rw [hh]
    have : cur.toList = xs := by rw [← ht]; exact (List.take_of_length_le (by rw [Array.length_toList]; omega)).symm
    rw [← this]

/-- 'whole': the bytes, all of them, in new memory. -/
theorem whole_any (A : Option Addr) (m c : Nat) (bs : List UInt8) (n : Int) (w : World) (hb : Bytes w A bs) (hn : m = bs.length) (h : FitsP bs n) :
    Calls Try.prog 25 #[.slice A m c, .int .i64 n] w fun e w' =>
      ∃ out : List UInt8, Rep out n (bit bs) ∧ e = .returned (.slice (some ⟨w.heap.size, 0, none⟩) (sz n) (sz n)) ∧ w'.ownsRow w.heap.size 5 1 (.slice (some ⟨w.heap.size, 0, none⟩) (sz n) (sz n)) (sz n) (out.map by8) ∧ Below w.heap.size w w' := by
  subst hn
  obtain ⟨i0, hi, hz0, hz1, hz2⟩ := info_parts info_u8
  have h0 := h.lo
  have h1 := h.hi
  have hs : sz n ≤ 512 := by unfold sz; omega
  obtain ⟨cs, hcs⟩ : ∃ cs, cs = bs.map by8 := ⟨_, rfl⟩
  have hlen : cs.length = bs.length := by rw [hcs]; simp
  have hfit : cs.length ≤ sz n := by have := h.len; omega
  have hmin : bs.length = Nat.min bs.length (sz n) := by have := Nat.min_eq_left (a := bs.length) (b := sz n) (by omega); exact this.symm
  have hone : ∀ v ∈ cs, v.oneCell' = true := by rw [hcs]; intro v hv; simp [by8] at hv; obtain ⟨a, _, rfl⟩ := hv; rfl
  have hsee : 0 < cs.length → ∃ ad, A = some ad ∧ ∀ j v, cs[j]? = some v → w.cell? (ad.add j) = some v := by
    intro hp
    rcases hb with e | ⟨b, off, hA, hc⟩
    · rw [hcs, e] at hp; simp at hp
    · refine ⟨_, hA, fun j v hv => ?_⟩
      rw [hcs] at hv
      have := hc j v hv
      unfold Addr.add
      split
      · rename_i hj; subst hj; simpa using this
      · simpa using this
  have hrep := h.rep
  obtain ⟨out, hout⟩ : ∃ out, out = bs ++ List.replicate (sz n - bs.length) 0 := ⟨_, rfl⟩
  rw [← hout] at hrep
  have HO : Hid (cs ++ (List.replicate (sz n) (Value.int .u8 0)).drop cs.length = out.map by8) := by show _ = _; rw [hcs, hout]; simp [by8]
  have HC := Lib.hid hcs
  have HLn := Lib.hid hlen
  have HMn := Lib.hid hmin
  have HR := Lib.hid hrep
  have HSee := Lib.hid hsee
  clear hout hcs hlen hmin hrep hsee
  have ht : sz n * 1 = sz n := by omega
  go_enter Try.func25, Try.ntmps25
  go_wp2_with (first
    | (go_at_call 30; refine (size_any _ _ h0 h1).mono ?_; rintro e w' ⟨rfl, rfl⟩)
    | (at_make; refine wpList_make_full _ rfl _ _ 22 rfl w.heap.size 5 i0 (.int .u8 0) 1 Try.underlying22 hi hz0 hz1 _ _ _ _ (sz n) rfl rfl rfl rfl ?b1 ?b2 ?b3 ?_))
  case b1 => rw [hz2]; omega
  case b2 => unfold maxLen; omega
  case b3 => exact Nat.le_refl _
  intro w1 hown1 hg1
  have hbk := block_of_own hown1 rfl
  rw [toList_madeCells_one] at hbk
  have hB1 : Below w.heap.size w w1 := (Below.refl _ _).grown hg1 (Nat.le_refl _) (fun k hk => by cases hk)
  have hkeep : ∀ p : Addr, p.block < w.heap.size → w1.cell? p = w.cell? p := fun p hp => hB1.cell hp
  obtain ⟨Z, hZ⟩ : ∃ Z, Z = List.replicate (sz n) (Value.int .u8 0) := ⟨_, rfl⟩
  have hZl : Z.length = sz n := by rw [hZ]; simp
  rw [← hZ] at hbk
  have HZ := Lib.hid hZ
  have HZl := Lib.hid hZl
  have HBk := Lib.hid hbk
  clear hZ hZl hbk hown1 hg1 ht
  go_wp2_with (with_reducible refine wpList_copy_splice rfl (.tmp 9) (.tmp 10) 22 22 rfl 5 Try.underlying22 size_u8 (some ⟨w.heap.size, 0, none⟩) A (sz n) (sz n) bs.length c rfl rfl w.heap.size 0 Z 5 HBk.out cs ?d1 ?d2 ?d3 hone w.heap.size w hB1 (Nat.le_refl _) ?_)
  case d1 => rw [HLn.out]; exact HMn.out
  case d2 =>
    intro hp
    obtain ⟨ad, hA, hc⟩ := HSee.out hp
    exact ⟨ad, hA, fun j v hv => by rw [hkeep _ (World.block_lt_of_cell? w _ (hc j v hv))]; exact hc j v hv⟩
  case d3 => rw [HZl.out]; omega
  intro w2 HG2 hB2
  have hown2 : w2.ownsRow w.heap.size 5 1 (.slice (some ⟨w.heap.size, 0, none⟩) (sz n) (sz n)) (sz n) (out.map by8) := by
    have := HG2.out
    rw [splice_zero, HZ.out, HO.out] at this
    exact own_of_block (Nat.le_refl _) this (by have := HR.out.1; simpa using this) (by unfold maxLen; omega)
  clear HG2
  go_wp2
  go_ret
  exact ⟨out, HR.out, rfl, hown2, hB2⟩
end Go.Proofs.Ytddmffdnookdlaa
