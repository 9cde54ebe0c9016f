/- Bitmaps as lists of bytes, in plain words: which bit is had, which bytes fit, what a list of numbers and a bitmap have in common. No program in sight. No condition. -/
namespace Go.Cat.Bits

def bit (bs : List UInt8) (i : Nat) : Bool := (bs.getD (i / 8) 0).toNat.testBit (i % 8)
def hasB (bs : List UInt8) (i : Int) : Bool := decide (0 ≤ i) && bit bs i.toNat
def sz (n : Int) : Nat := (n.toNat + 7) / 8

structure FitsP (bs : List UInt8) (n : Int) : Prop where
  lo : 0 ≤ n
  hi : n ≤ 4096
  len : bs.length = 0 ∨ bs.length = sz n
  free : ∀ i, n.toNat ≤ i → bit bs i = false

open Classical in
noncomputable def fits (bs : List UInt8) (n : Int) : Bool := decide (FitsP bs n)

theorem fits_true {bs : List UInt8} {n : Int} (h : FitsP bs n) : fits bs n = true := by simp [fits, h]
theorem fits_false {bs : List UInt8} {n : Int} (h : ¬ FitsP bs n) : fits bs n = false := by simp [fits, h]
theorem fits_iff {bs : List UInt8} {n : Int} : fits bs n = true ↔ FitsP bs n := by simp [fits]

theorem bit_out {bs : List UInt8} {i : Nat} (h : bs.length ≤ i / 8) : bit bs i = false := by
  unfold bit
  rw [List.getD_eq_getElem?_getD, List.getElem?_eq_none h]
  simp

theorem byte_ext {x y : UInt8} (h : ∀ r, r < 8 → x.toNat.testBit r = y.toNat.testBit r) : x = y := by
  apply UInt8.toNat_inj.1
  apply Nat.eq_of_testBit_eq
  intro r
  by_cases hr : r < 8
  · exact h r hr
  · have hx : x.toNat < 2 ^ r := Nat.lt_of_lt_of_le x.toNat_lt (Nat.pow_le_pow_right (by omega) (by omega : 8 ≤ r))
    have hy : y.toNat < 2 ^ r := Nat.lt_of_lt_of_le y.toNat_lt (Nat.pow_le_pow_right (by omega) (by omega : 8 ≤ r))
    rw [Nat.testBit_lt_two_pow hx, Nat.testBit_lt_two_pow hy]

theorem bytes_ext {a b : List UInt8} (hl : a.length = b.length) (h : ∀ j, bit a j = bit b j) : a = b := by
  apply List.ext_getElem hl
  intro k hk hk'
  apply byte_ext
  intro r hr
  have := h (8 * k + r)
  unfold bit at this
  rw [show (8 * k + r) / 8 = k from by omega, show (8 * k + r) % 8 = r from by omega] at this
  simpa [List.getD_eq_getElem?_getD, hk, hk'] using this

/-- The bytes are the bitmap of n whose bits are p's. -/
def Rep (bs : List UInt8) (n : Int) (p : Nat → Bool) : Prop := bs.length = sz n ∧ ∀ j, bit bs j = (decide (j < n.toNat) && p j)

theorem Rep.uniq {a b : List UInt8} {n : Int} {p q : Nat → Bool} (ha : Rep a n p) (hb : Rep b n q) (h : ∀ j, j < n.toNat → p j = q j) : a = b := by
  apply bytes_ext (ha.1.trans hb.1.symm)
  intro j
  rw [ha.2, hb.2]
  by_cases hj : j < n.toNat
  · simp [hj, h j hj]
  · simp [hj]

theorem Rep.congr {a : List UInt8} {n : Int} {p q : Nat → Bool} (ha : Rep a n p) (h : ∀ j, j < n.toNat → p j = q j) : Rep a n q :=
  ⟨ha.1, fun j => by rw [ha.2]; by_cases hj : j < n.toNat <;> simp [hj]; exact h j hj⟩

theorem FitsP.rep {bs : List UInt8} {n : Int} (h : FitsP bs n) : Rep (bs ++ List.replicate (sz n - bs.length) 0) n (bit bs) := by
  refine ⟨by rcases h.len with e | e <;> simp <;> omega, fun j => ?_⟩
  have : bit (bs ++ List.replicate (sz n - bs.length) 0) j = bit bs j := by
    unfold bit
    rw [List.getD_eq_getElem?_getD, List.getD_eq_getElem?_getD, List.getElem?_append]
    by_cases hj : j / 8 < bs.length
    · simp [hj]
    · rw [if_neg hj, List.getElem?_eq_none (l := bs) (by omega), List.getElem?_replicate]
      split <;> simp
  rw [this]
  by_cases hj : j < n.toNat
  · simp [hj]
  · simp [hj, h.free j (by omega)]

theorem Rep.fits {bs : List UInt8} {n : Int} {p : Nat → Bool} (h : Rep bs n p) (h0 : 0 ≤ n) (h1 : n ≤ 4096) : FitsP bs n :=
  ⟨h0, h1, .inr h.1, fun i hi => by rw [h.2]; simp; omega⟩

theorem Rep.bit_lt {bs : List UInt8} {n : Int} {p : Nat → Bool} (h : Rep bs n p) {j : Nat} (hj : j < n.toNat) : bit bs j = p j := by rw [h.2]; simp [hj]

/-- One byte set. -/
theorem bit_set {bs : List UInt8} {i : Nat} {y : UInt8} (hi : i / 8 < bs.length) (j : Nat) : bit (bs.set (i / 8) y) j = if j / 8 = i / 8 then y.toNat.testBit (j % 8) else bit bs j := by
  unfold bit
  rw [List.getD_eq_getElem?_getD, List.getElem?_set]
  by_cases h : i / 8 = j / 8
  · rw [if_pos h, if_pos (by omega), if_pos h.symm]
    rfl
  · rw [if_neg h, if_neg (fun e => h e.symm), List.getD_eq_getElem?_getD]

theorem Rep.set {bs : List UInt8} {n : Int} {p : Nat → Bool} (h : Rep bs n p) {i : Nat} (hi : i < n.toNat) (v : Bool) {y : UInt8}
    (hy : ∀ r, r < 8 → y.toNat.testBit r = if r = i % 8 then v else (bs.getD (i / 8) 0).toNat.testBit r) : Rep (bs.set (i / 8) y) n (fun j => if j = i then v else p j) := by
  have hl : i / 8 < bs.length := by rw [h.1]; unfold sz; omega
  refine ⟨by simpa using h.1, fun j => ?_⟩
  rw [bit_set hl]
  by_cases hq : j / 8 = i / 8
  · rw [if_pos hq, hy _ (by omega)]
    by_cases hr : j % 8 = i % 8
    · have : j = i := by omega
      subst this
      simp [hi]
    · have hne : j ≠ i := by omega
      rw [if_neg hr]
      simp only [if_neg hne]
      have := h.2 j
      unfold bit at this
      rw [hq] at this
      exact this
  · have hne : j ≠ i := by intro e; subst e; exact hq rfl
    rw [if_neg hq]
    simp only [if_neg hne]
    exact h.2 j

theorem or_bits (x : UInt8) (r : Nat) (hr : r < 8) : x.toNat ||| 2 ^ r < 256 := Nat.or_lt_two_pow (n := 8) x.toNat_lt (Nat.pow_lt_pow_right (by omega) hr)
theorem xor_bits (x : UInt8) (r : Nat) (hr : r < 8) : x.toNat ^^^ 2 ^ r < 256 := Nat.xor_lt_two_pow (n := 8) x.toNat_lt (Nat.pow_lt_pow_right (by omega) hr)
theorem add_or : ∀ x, x < 256 → ∀ r, r < 8 → Nat.testBit x r = false → x + 2 ^ r = x ||| 2 ^ r := by decide +kernel
theorem andNot_or : ∀ x, x < 256 → ∀ r, r < 8 → ∀ s, s < 8 → Nat.testBit (x &&& (255 - 2 ^ r)) s = if s = r then false else Nat.testBit x s := by decide +kernel

theorem set_or (x : UInt8) (r s : Nat) (hr : r < 8) : (UInt8.ofNat (x.toNat ||| 2 ^ r)).toNat.testBit s = if s = r then true else x.toNat.testBit s := by
  rw [UInt8.toNat_ofNat', Nat.mod_eq_of_lt (or_bits x r hr), Nat.testBit_or, Nat.testBit_two_pow]
  by_cases h : s = r
  · simp [h]
  · rw [if_neg h]; simp; intro e; exact absurd e.symm h

theorem set_xor (x : UInt8) (r s : Nat) (hr : r < 8) : (UInt8.ofNat (x.toNat ^^^ 2 ^ r)).toNat.testBit s = if s = r then !x.toNat.testBit r else x.toNat.testBit s := by
  rw [UInt8.toNat_ofNat', Nat.mod_eq_of_lt (xor_bits x r hr), Nat.testBit_xor, Nat.testBit_two_pow]
  by_cases h : s = r
  · simp [h]
  · rw [if_neg h]
    have : decide (r = s) = false := by simp; exact fun e => h e.symm
    rw [this]; simp

theorem and_lt (x : UInt8) (y : Nat) : x.toNat &&& y < 256 := Nat.lt_of_le_of_lt Nat.and_le_left x.toNat_lt

theorem set_andNot (x : UInt8) (r s : Nat) (hr : r < 8) (hs : s < 8) : (UInt8.ofNat (x.toNat &&& (255 - 2 ^ r))).toNat.testBit s = if s = r then false else x.toNat.testBit s := by
  rw [UInt8.toNat_ofNat', Nat.mod_eq_of_lt (and_lt x _)]
  exact andNot_or _ x.toNat_lt r hr s hs
end Go.Cat.Bits
