/- What was taken and is given back, in plain words. No program in sight. No condition. -/
import Derived.Test.YtddmffdnookdlaaBitsGive
namespace Go.Cat.Bits

theorem exists_q {p : Nat → Bool} {N K : Nat} (h : K ≤ (nums p N).length) : ∃ q, q ≤ N ∧ (nums p q).length = K := by
  induction N with
  | zero => exact ⟨0, Nat.le_refl _, by simp [nums] at h ⊢; omega⟩
  | succ N ih =>
    by_cases h2 : K ≤ (nums p N).length
    · obtain ⟨q, hq, he⟩ := ih h2
      exact ⟨q, by omega, he⟩
    · refine ⟨N + 1, Nat.le_refl _, ?_⟩
      cases hp : p N
      · rw [nums_no hp] at h ⊢; omega
      · rw [nums_yes hp] at h ⊢; simp at h ⊢; omega

theorem nums_union (p : Nat → Bool) {q N : Nat} (h : q ≤ N) : (nums (fun j => p j || decide (j < q)) N).length = (nums p N).length + (nums (fun j => !p j) q).length := by
  induction N with
  | zero =>
    obtain rfl : q = 0 := by omega
    rfl
  | succ N ih =>
    by_cases hq : q = N + 1
    · subst hq
      have h1 := nums_add p (N + 1)
      have h2 : nums (fun j => p j || decide (j < N + 1)) (N + 1) = nums (fun _ => true) (N + 1) := nums_congr fun j hj => by simp [hj]
      have h3 : (nums (fun _ => true) (N + 1)).length = N + 1 := by simp only [nums, List.length_map]; rw [List.filter_eq_self.2 (by simp)]; simp
      rw [h2, h3]; omega
    · have ih := ih (by omega)
      have hd : decide (N < q) = false := by simp; omega
      cases hp : p N
      · rw [nums_no (p := p) hp, nums_no (k := N) (by simp [hp, hd]), ih]
      · rw [nums_yes (p := p) hp, nums_yes (k := N) (by simp [hp])]; simp; omega

theorem give_back {n : Int} : ∀ (l : List Int) (p : Nat → Bool), (∀ z ∈ l, 0 ≤ z ∧ z < n ∧ p z.toNat = true) → l.Nodup → ∃ p', giveL n p l = (some p', 0) ∧ ∀ j : Nat, p' j = (p j && !decide ((j : Int) ∈ l)) := by
  intro l
  induction l with
  | nil => intro p _ _; exact ⟨p, rfl, fun j => by simp⟩
  | cons z l ih =>
    intro p h hd
    obtain ⟨h0, h1, h2⟩ := h z (by simp)
    rw [List.nodup_cons] at hd
    obtain ⟨p', hp', hj⟩ := ih (fun j => if j = z.toNat then false else p j) (fun y hy => by
      obtain ⟨a, b, c⟩ := h y (by simp [hy])
      refine ⟨a, b, ?_⟩
      have : y ≠ z := fun e => hd.1 (e ▸ hy)
      have : ¬ y.toNat = z.toNat := by omega
      simp [this, c]) hd.2
    refine ⟨p', by rw [giveL_step (by omega) h2]; exact hp', fun j => ?_⟩
    rw [hj]
    by_cases hz : j = z.toNat
    · have : (j : Int) = z := by omega
      subst hz
      simp [this]
    · have : ¬ (j : Int) = z := by omega
      simp [hz, this]

/-- All that is known where Take answered well. -/
structure Took (bs : List UInt8) (n : Int) (K : Nat) (out : List UInt8) (got : List Int) : Prop where
  fits : FitsP bs n
  len : got.length = K
  rep : Rep out n (fun j => bit bs j || decide ((j : Int) ∈ got))
  each : ∀ z ∈ got, 0 ≤ z ∧ z < n ∧ hasB bs z = false ∧ hasB out z = true
  rise : got.Pairwise (· < ·)
  many : (had out n).length = (had bs n).length + K

theorem TakeTo.ok {bs : List UInt8} {n k : Int} {out : List UInt8} {got : List Int} {e : Int} (h : TakeTo bs n k out got e) (he : e = 0) : ∃ K : Nat, k = (K : Int) ∧ K ≤ 4096 ∧ Took bs n K out got := by
  rcases h with ⟨_, _, _, rfl⟩ | ⟨_, _, _, _, rfl⟩ | ⟨_, _, _, _, _, rfl⟩ | ⟨a, b, c, hg, r, _⟩
  · omega
  · omega
  · omega
  · obtain ⟨K, rfl⟩ := Int.eq_ofNat_of_zero_le b
    obtain ⟨q, hq, hqK⟩ := exists_q (p := fun j => !bit bs j) (N := n.toNat) (K := K) (by unfold free at c; omega)
    have hgq : got = nums (fun j => !bit bs j) q := by
      rw [hg, ← take_nums hq, hqK]
      simp [free]
    have hn := nums_le (fun j => !bit bs j) n.toNat
    have hhi := a.hi
    have hlo := a.lo
    have each : ∀ z ∈ got, 0 ≤ z ∧ z < n ∧ hasB bs z = false ∧ hasB out z = true := by
      intro z hz
      have hz0 := hz
      rw [hgq] at hz
      obtain ⟨j, rfl, h1, h2⟩ := mem_nums.1 hz
      have h2' : bit bs j = false := by simpa using h2
      refine ⟨by omega, by omega, by simp [hasB, h2'], ?_⟩
      have := r.bit_lt (j := j) (by omega)
      simp [hasB, this, hz0]
    have hrep2 : Rep out n (fun j => bit bs j || decide (j < q)) := by
      refine r.congr fun j _ => ?_
      by_cases hb : bit bs j = true
      · simp [hb]
      · have hb : bit bs j = false := by simpa using hb
        rw [hb, Bool.false_or, Bool.false_or, decide_eq_decide, hgq, mem_nums]
        constructor
        · rintro ⟨i, hi, h1, _⟩; omega
        · intro h1; exact ⟨j, rfl, h1, by simp [hb]⟩
    refine ⟨K, rfl, by unfold free at c; omega, a, by rw [hgq, hqK], r, each, by rw [hgq]; exact nums_sorted _ _, ?_⟩
    rw [had_yes (hrep2.fits hlo hhi), had_yes a, nums_congr (q := fun j => bit bs j || decide (j < q)) (fun j hj => hrep2.bit_lt hj), nums_union _ hq, hqK]

theorem TakeTo.bad {bs : List UInt8} {n k : Int} {out : List UInt8} {got : List Int} {e : Int} (h : TakeTo bs n k out got e) : e = 0 ∨ (e = 4 ∨ e = 1 ∨ e = 16) := by
  rcases h with ⟨_, _, _, rfl⟩ | ⟨_, _, _, _, rfl⟩ | ⟨_, _, _, _, _, rfl⟩ | ⟨_, _, _, _, _, rfl⟩ <;> simp

/-- Given back, in any order. -/
theorem Took.back {bs : List UInt8} {n : Int} {K : Nat} {out : List UInt8} {got : List Int} (h : Took bs n K out got) {l : List Int} (hl : l.Perm got) {y : List UInt8} {e : Int} (hg : GiveTo out n l y e) :
    e = 0 ∧ Rep y n (bit bs) ∧ had y n = had bs n := by
  have hf : FitsP out n := h.rep.fits h.fits.lo h.fits.hi
  have hmem : ∀ z, z ∈ l ↔ z ∈ got := fun z => hl.mem_iff
  obtain ⟨p', hp', hj⟩ := give_back (n := n) l (bit out) (fun z hz => by
    obtain ⟨a, b, _, d⟩ := h.each z ((hmem z).1 hz)
    exact ⟨a, b, by simpa [hasB, a] using d⟩) (hl.nodup_iff.2 (h.rise.imp (fun hab => by omega)))
  have hrep : Rep y n p' ∧ e = 0 := by
    rcases hg with ⟨a, _, _⟩ | ⟨a, b, _, _⟩ | ⟨a, q, b, r, he⟩
    · exact absurd hf a
    · rw [hp'] at b; cases b
    · rw [hp'] at b; simp only [Prod.mk.injEq, Option.some.injEq, and_true] at b; subst b; exact ⟨r, he⟩
  have hry : Rep y n (bit bs) := hrep.1.congr fun j hjn => by
    rw [hj, h.rep.bit_lt hjn]
    by_cases hm : (j : Int) ∈ got
    · have := (h.each _ hm).2.2.1
      have hb : bit bs j = false := by simpa [hasB] using this
      simp [hb, (hmem _).2 hm]
    · have : ¬ (j : Int) ∈ l := fun e => hm ((hmem _).1 e)
      simp [hm, this]
  refine ⟨hrep.2, hry, ?_⟩
  rw [had_yes (hry.fits h.fits.lo h.fits.hi), had_yes h.fits]
  exact nums_congr fun j hj => hry.bit_lt hj

theorem Took.again {bs : List UInt8} {n : Int} {K : Nat} {out : List UInt8} {got : List Int} (h : Took bs n K out got) {l : List Int} (hl : l.Perm got) {y : List UInt8} (hy : Rep y n (bit bs)) {v : List UInt8} {e : Int} (hg : GiveTo y n l v e) (h0 : l ≠ []) : e = 7 := by
  have hf : FitsP y n := hy.fits h.fits.lo h.fits.hi
  cases l with
  | nil => exact absurd rfl h0
  | cons z l =>
    obtain ⟨a, b, c, _⟩ := h.each z (hl.mem_iff.1 (by simp))
    have hb : bit y z.toNat = false := by
      rw [hy.bit_lt (by omega)]
      simpa [hasB, a] using c
    have hf7 : giveL n (bit y) (z :: l) = (none, 7) := giveL_none (by omega) hb
    rcases hg with ⟨x, _, _⟩ | ⟨_, _, _, he⟩ | ⟨_, q, hb, _, _⟩
    · exact absurd hf x
    · rw [he, hf7]
    · rw [hf7] at hb; cases hb
end Go.Cat.Bits
