/- slices.SortStableFunc at 40 elements or fewer: the row is sorted by the order, and where that does not part two by the place at which they stood. Condition: 40 elements or fewer; the order a strict weak one. -/
import Derived.Test.YtjdpljhhlmcbaaaStMid
import Derived.Test.YtjdpljhhlmcbaaaStShelf
namespace Go.Cat.St
open Go.Shelf Go.RowKit Go.Lib Go.Sort Go.Proofs
variable {α : Type} [Inhabited α]

def TagUp (tag : α → Nat) (d : Array α) (a b : Nat) : Prop := ∀ p q, a ≤ p → p < q → q < b → tag d[p]! < tag d[q]!
theorem TagUp.mono {tag : α → Nat} {d : Array α} {a b a' b' : Nat} (h : TagUp tag d a b) (h1 : a ≤ a') (h2 : b' ≤ b) : TagUp tag d a' b' := fun p q q1 q2 q3 => h p q (by omega) q2 (by omega)

/-- What a part's sort leaves. -/
def SortedBy (enc : α → List Value) (k : Nat) (w0 : World) (blk off : Nat) (lx : α → α → Bool) (d : Array α) (a b : Nat) (e : Ending) (w' : World) : Prop :=
  e = .returned (.tuple #[]) ∧ ∃ d', SWK enc k w0 blk off d' w' ∧ PermIn a b d d' ∧ SortedIn lx a b d'

theorem ins_any (enc : α → List Value) (cf : α → α → Int) (tag : α → Nat) (hO : SWO (ltOf cf)) (g : Nat) (cb : Array Value) (blk off cap : Nat) (d0 : Array α) (w0 : World)
    (eg : ∀ args w, (callFunc g args).run Try.prog w = .ok (.enter g args) w) (hcmp : ∀ W, CmpLays Try.prog g cb enc 3 cf blk off d0.size W) (R : RowK enc 3 w0 blk off d0) (hsz : d0.size < 4611686018427387904)
    (a b : Nat) (d : Array α) (W : World) (hd : d.size = d0.size) (hW : SWK enc 3 w0 blk off d W) (hab : a ≤ b) (hb : b ≤ d0.size) (ht : TagUp tag d a b) :
    Calls Try.prog 81 #[.slice (some ⟨blk, off, none⟩) d0.size cap, .int .i64 a, .int .i64 b, .func (.func g) #[] cb] W (SortedBy enc 3 w0 blk off (lexO (ltOf cf) tag) d a b) := by
  have hcon := AnyQ.insertionSortCmpFunc Try.insPatch 3 Try.isAgg80 Try.sizeOf80 enc R.hk R.h1 cf g cb blk off cap a b d W eg (by rw [hd]; exact hcmp W) (hW.holds R.hblk R.hH hd) (hW.lt R.hblk) hab (by omega) (by omega)
  rw [hd] at hcon
  change Calls Try.prog 81 #[.slice (some ⟨blk, off, none⟩) d0.size cap, .int .i64 a, .int .i64 b, .func (.func g) #[] cb] W _ at hcon
  refine hcon.mono ?_
  rintro e w' ⟨rfl, n, os, rfl⟩
  have hag : insertionSort (ltOf cf) d a b = insertionSort (lexO (ltOf cf) tag) d a b := ins_agree (by omega) fun p q h1 h2 h3 => lex_agree (ht p q h1 h2 h3)
  have hok := insertionSort_holds (lt := lexO (ltOf cf) tag) (swo_lex hO tag) d a b hab (by omega)
  rw [hag]
  exact ⟨rfl, _, hW.on R.hblk n _ os hok.1.1, hok.1, hok.2⟩

/-- The left part's elements have lesser tags than the right part's, behind both parts' sorts. -/
theorem agr_after {lt : α → α → Bool} {tag : α → Nat} {d d1 d2 : Array α} {m b : Nat} (hb : b ≤ d.size) (_hm : m ≤ b) (ht : TagUp tag d 0 b) (p1 : PermIn 0 m d d1) (p2 : PermIn m b d1 d2) : Agr lt (lexO lt tag) d2 0 m b := by
  intro i j _ hi hj1 hj2
  refine lex_agree ?_
  have z1 : d1.size = d.size := p1.1
  rw [p2.2.1 i (.inl hi)]
  have h1 : ∀ x, m ≤ x → x < b → ∀ y, y < m → tag d1[y]! < tag d1[x]! := fun x hx1 hx2 y hy => by
    rw [p1.2.1 x (.inr hx1)]
    exact permIn_all d d1 0 m (fun v => tag v < tag d[x]!) (by omega) p1 (fun y' _ h => ht y' x (Nat.zero_le _) (by omega) hx2) y (Nat.zero_le _) hy
  exact permIn_all d1 d2 m b (fun v => tag d1[i]! < tag v) (by omega) p2 (fun x hx1 hx2 => h1 x hx1 hx2 i hi) j hj1 hj2
theorem perm_two {d d1 d2 : Array α} {m b : Nat} (hb : b ≤ d.size) (hm : m ≤ b) (p1 : PermIn 0 m d d1) (p2 : PermIn m b d1 d2) : PermIn 0 b d d2 :=
  permIn_trans _ _ _ _ _ (permIn_mono _ _ 0 m 0 b (Nat.le_refl _) hm hb p1) (permIn_mono _ _ m b 0 b (Nat.zero_le _) (Nat.le_refl _) (by rw [p1.1]; exact hb) p2)
theorem sorted_keep {lx : α → α → Bool} {d1 d2 : Array α} {m b : Nat} (h : SortedIn lx 0 m d1) (p2 : PermIn m b d1 d2) : SortedIn lx 0 m d2 := fun i j h1 h2 h3 => by
  rw [p2.2.1 i (.inl (by omega)), p2.2.1 j (.inl h3)]; exact h i j h1 h2 h3
theorem tag_keep {tag : α → Nat} {d d1 : Array α} {m b : Nat} (h : TagUp tag d 0 b) (p1 : PermIn 0 m d d1) : TagUp tag d1 m b := fun p q h1 h2 h3 => by
  rw [p1.2.1 p (.inr h1), p1.2.1 q (.inr (by omega))]; exact h p q (Nat.zero_le _) h2 h3

set_option maxHeartbeats 8000000 in
set_option maxRecDepth 1000000 in
theorem stable_any (enc : α → List Value) (cf : α → α → Int) (tag : α → Nat) (hO : SWO (ltOf cf)) (g : Nat) (cb : Array Value) (blk off cap : Nat) (d : Array α) (w : World)
    (eg : ∀ args w, (callFunc g args).run Try.prog w = .ok (.enter g args) w) (hcmp : ∀ W, CmpLays Try.prog g cb enc 3 cf blk off d.size W) (R : RowK enc 3 w blk off d) (hn : d.size ≤ 40) (ht : TagUp tag d 0 d.size) :
    Calls Try.prog 73 #[.slice (some ⟨blk, off, none⟩) d.size cap, .int .i64 d.size, .func (.func g) #[] cb] w (SortedBy enc 3 w blk off (lexO (ltOf cf) tag) d 0 d.size) := by
  have PI := Lib.hid (fun (a b : Nat) (d' : Array α) (W : World) (hd : d'.size = d.size) (hW : SWK enc 3 w blk off d' W) (hab : a ≤ b) (hb : b ≤ d.size) (htt : TagUp tag d' a b) => ins_any enc cf tag hO g cb blk off cap d w eg hcmp R (by omega) a b d' W hd hW hab hb htt)
  have PS := Lib.hid (fun (m b : Nat) (d' : Array α) (W : World) (hd : d'.size = d.size) (hW : SWK enc 3 w blk off d' W) (hm0 : 0 < m) (hmb : m < b) (hb : b ≤ d.size) (h1 : SortedIn (lexO (ltOf cf) tag) 0 m d') (h2 : SortedIn (lexO (ltOf cf) tag) m b d') (hag : Agr (ltOf cf) (lexO (ltOf cf) tag) d' 0 m b) => sym_any lays enc cf (lexO (ltOf cf) tag) (swo_lex hO tag) g cb blk off cap d w eg (hcmp w) R (by omega) (b - 0) 0 m b d' W rfl hd hW hm0 hmb hb h1 h2 hag)
  have HT := Lib.hid ht
  have S0 : Aside (SWK enc 3 w blk off d w) := SWK.start R.hH
  obtain ⟨n, hnn⟩ : ∃ n, n = d.size := ⟨_, rfl⟩
  have HN := Lib.hid hnn
  rw [← hnn] at PI PS hn HT ⊢
  unfold SortedBy at PI ⊢
  unfold Merged at PS
  clear hcmp ht hnn R
  by_cases h20 : n < 20
  · have P1 := Lib.hid (PI.out 0 n d w HN.out.symm S0.out (Nat.zero_le _) (Nat.le_refl _) HT.out)
    have z1 : ¬ (20 : Int) ≤ (n : Int) := by omega
    have z2 : ¬ (20 : Int) < (n : Int) := by omega
    have z1' : ¬ 20 ≤ n := by omega
    clear PI PS
    go_enter Try.func73, Try.ntmps73
    go_wp2_with fail
    refine wp_loop_rounds 1 ?_
    rw [rounds_succ]
    go_wp2_with fail
    refine (P1.out).mono ?_
    rintro e w1 ⟨rfl, d1, hS1, hP1, hO1⟩
    go_wp2_with fail
    refine wp_loop_rounds 1 ?_
    rw [rounds_succ]
    go_wp2_with fail
    go_end0
    exact ⟨rfl, d1, hS1, hP1, hO1⟩
  · by_cases h40 : n < 40
    · by_cases he : n = 20
      · subst he
        have P1 := Lib.hid (PI.out 0 20 d w HN.out.symm S0.out (Nat.zero_le _) (Nat.le_refl _) HT.out)
        have P2 : Hid (∀ (d' : Array α) (W : World), d'.size = 20 → SWK enc 3 w blk off d' W → Calls Try.prog 81 #[.slice (some ⟨blk, off, none⟩) 20 cap, .int .i64 20, .int .i64 20, .func (.func g) #[] cb] W fun e w' => e = .returned (.tuple #[]) ∧ ∃ d2, SWK enc 3 w blk off d2 w' ∧ PermIn 20 20 d' d2) := fun d' W hd hW => (PI.out 20 20 d' W hd hW (Nat.le_refl _) (Nat.le_refl _) (fun p q h1 h2 h3 => by omega)).mono fun e w' ⟨h1, d2, h2, h3, _⟩ => ⟨h1, d2, h2, h3⟩
        clear PI PS
        go_enter Try.func73, Try.ntmps73
        go_wp2_with fail
        refine wp_loop_rounds 2 ?_
        rw [rounds_succ]
        go_wp2_with fail
        refine (P1.out).mono ?_
        rintro e w1 ⟨rfl, d1, hS1, hP1, hO1⟩
        have X1 : Aside (SWK enc 3 w blk off d1 w1) := hS1
        have X2 := Lib.hid hP1
        have X3 := Lib.hid hO1
        have P2' := Lib.hid (P2.out d1 w1 (hP1.1.trans HN.out.symm) hS1)
        clear hS1 hP1 hO1
        go_wp2_with fail
        rw [rounds_succ]
        go_wp2_with fail
        refine (P2'.out).mono ?_
        rintro e w2 ⟨rfl, d2, hS2, hP2⟩
        have Y1 : Aside (SWK enc 3 w blk off d2 w2) := hS2
        have Y2 := Lib.hid hP2
        clear hS2 hP2
        go_wp2_with fail
        refine wp_loop_rounds 1 ?_
        rw [rounds_succ]
        go_wp2_with fail
        go_end0
        exact ⟨rfl, d2, Y1.out, perm_two (by rw [← HN.out]; exact Nat.le_refl _) (Nat.le_refl _) X2.out Y2.out, sorted_keep X3.out Y2.out⟩
      · have P1 := Lib.hid (PI.out 0 20 d w HN.out.symm S0.out (Nat.zero_le _) (by omega) (HT.out.mono (Nat.le_refl _) (by omega)))
        have P2 := Lib.hid (fun d' W hd hW ht => PI.out 20 n d' W hd hW (by omega) (Nat.le_refl _) ht)
        have P3 := Lib.hid (fun d' W hd hW h1 h2 hag => PS.out 20 n d' W hd hW (by omega) (by omega) (Nat.le_refl _) h1 h2 hag)
        have z1 : (20 : Int) ≤ (n : Int) := by omega
        have z2 : ¬ (40 : Int) ≤ (n : Int) := by omega
        have z3 : (20 : Int) < (n : Int) := by omega
        have z4 : ¬ (40 : Int) < (n : Int) := by omega
        have z5 : ¬ 40 ≤ n := by omega
        have z6 : ¬ 40 < n := by omega
        have z7 : (n : Int) < 40 := by omega
        have z8 : (n : Int) ≤ 40 := by omega
        clear PI PS
        go_enter Try.func73, Try.ntmps73
        go_wp2_with fail
        refine wp_loop_rounds 2 ?_
        rw [rounds_succ]
        go_wp2_with fail
        refine (P1.out).mono ?_
        rintro e w1 ⟨rfl, d1, hS1, hP1, hO1⟩
        have X1 : Aside (SWK enc 3 w blk off d1 w1) := hS1
        have X2 := Lib.hid hP1
        have X3 := Lib.hid hO1
        have P2' := Lib.hid (P2.out d1 w1 (hP1.1.trans HN.out.symm) hS1 (tag_keep HT.out hP1))
        clear hS1 hP1 hO1
        go_wp2_with fail
        rw [rounds_succ]
        go_wp2_with fail
        refine (P2'.out).mono ?_
        rintro e w2 ⟨rfl, d2, hS2, hP2, hO2⟩
        have Y1 : Aside (SWK enc 3 w blk off d2 w2) := hS2
        have Y2 := Lib.hid hP2
        have P3' := Lib.hid (P3.out d2 w2 (hP2.1.trans (X2.out.1.trans HN.out.symm)) hS2 (sorted_keep X3.out hP2) hO2 (agr_after (by rw [← HN.out]; exact Nat.le_refl _) (by omega) HT.out X2.out hP2))
        clear hS2 hP2 hO2
        go_wp2_with fail
        refine wp_loop_rounds 2 ?_
        rw [rounds_succ]
        go_wp2_with fail
        refine wp_loop_rounds 1 ?_
        rw [rounds_succ]
        go_wp2_with fail
        refine (P3'.out).mono ?_
        rintro e w3 ⟨rfl, d3, hS3, hP3, hO3⟩
        have Z1 : Aside (SWK enc 3 w blk off d3 w3) := hS3
        have Z2 := Lib.hid hP3
        have Z3 := Lib.hid hO3
        clear hS3 hP3 hO3
        go_wp2_with fail
        rw [rounds_succ]
        go_wp2_with fail
        go_end0
        exact ⟨rfl, d3, Z1.out, permIn_trans _ _ _ _ _ (perm_two (by rw [← HN.out]; exact Nat.le_refl _) (by omega) X2.out Y2.out) Z2.out, Z3.out⟩
    · obtain rfl : n = 40 := by omega
      have P1 := Lib.hid (PI.out 0 20 d w HN.out.symm S0.out (Nat.zero_le _) (by omega) (HT.out.mono (Nat.le_refl _) (by omega)))
      have P2 := Lib.hid (fun d' W hd hW ht => PI.out 20 40 d' W hd hW (by omega) (Nat.le_refl _) ht)
      have P4 : Hid (∀ (d' : Array α) (W : World), d'.size = 40 → SWK enc 3 w blk off d' W → Calls Try.prog 81 #[.slice (some ⟨blk, off, none⟩) 40 cap, .int .i64 40, .int .i64 40, .func (.func g) #[] cb] W fun e w' => e = .returned (.tuple #[]) ∧ ∃ d2, SWK enc 3 w blk off d2 w' ∧ PermIn 40 40 d' d2) := fun d' W hd hW => (PI.out 40 40 d' W hd hW (Nat.le_refl _) (Nat.le_refl _) (fun p q h1 h2 h3 => by omega)).mono fun e w' ⟨h1, d2, h2, h3, _⟩ => ⟨h1, d2, h2, h3⟩
      have P3 := Lib.hid (fun d' W hd hW h1 h2 hag => PS.out 20 40 d' W hd hW (by omega) (by omega) (Nat.le_refl _) h1 h2 hag)
      clear PI PS
      go_enter Try.func73, Try.ntmps73
      go_wp2_with fail
      refine wp_loop_rounds 3 ?_
      rw [rounds_succ]
      go_wp2_with fail
      refine (P1.out).mono ?_
      rintro e w1 ⟨rfl, d1, hS1, hP1, hO1⟩
      have X1 : Aside (SWK enc 3 w blk off d1 w1) := hS1
      have X2 := Lib.hid hP1
      have X3 := Lib.hid hO1
      have P2' := Lib.hid (P2.out d1 w1 (hP1.1.trans HN.out.symm) hS1 (tag_keep HT.out hP1))
      clear hS1 hP1 hO1
      go_wp2_with fail
      rw [rounds_succ]
      go_wp2_with fail
      refine (P2'.out).mono ?_
      rintro e w2 ⟨rfl, d2, hS2, hP2, hO2⟩
      have Y2 := Lib.hid hP2
      have Y3 := Lib.hid hO2
      have P4' := Lib.hid (P4.out d2 w2 (hP2.1.trans (X2.out.1.trans HN.out.symm)) hS2)
      clear hS2 hP2 hO2
      go_wp2_with fail
      rw [rounds_succ]
      go_wp2_with fail
      refine (P4'.out).mono ?_
      rintro e w3 ⟨rfl, d3, hS3, hP3⟩
      have V2 := Lib.hid hP3
      have hsame : ∀ i, i < 40 → d3[i]! = d2[i]! := fun i hi => hP3.2.1 i (.inl hi)
      have hag := agr_after (lt := ltOf cf) (show 40 ≤ d.size by rw [← HN.out]; exact Nat.le_refl _) (show 20 ≤ 40 by omega) HT.out X2.out Y2.out
      have P3' := Lib.hid (P3.out d3 w3 (hP3.1.trans (Y2.out.1.trans (X2.out.1.trans HN.out.symm))) hS3 (fun i j h1 h2 h3 => by rw [hsame i (by omega), hsame j (by omega)]; exact sorted_keep X3.out Y2.out i j h1 h2 h3) (fun i j h1 h2 h3 => by rw [hsame i (by omega), hsame j (by omega)]; exact Y3.out i j h1 h2 h3) (fun i j h1 h2 h3 h4 => by rw [hsame i (by omega), hsame j (by omega)]; exact hag i j h1 h2 h3 h4))
      have hpd : PermIn 0 40 d d3 := permIn_trans _ _ _ _ _ (perm_two (by rw [← HN.out]; exact Nat.le_refl _) (by omega) X2.out Y2.out) (permIn_mono _ _ 40 40 0 40 (by omega) (Nat.le_refl _) (by rw [Y2.out.1, X2.out.1, ← HN.out]; exact Nat.le_refl _) hP3)
      have HPd := Lib.hid hpd
      clear hS3 hP3 hsame hag hpd
      go_wp2_with fail
      refine wp_loop_rounds 2 ?_
      rw [rounds_succ]
      go_wp2_with fail
      refine wp_loop_rounds 2 ?_
      rw [rounds_succ]
      go_wp2_with fail
      refine (P3'.out).mono ?_
      rintro e w4 ⟨rfl, d4, hS4, hP4, hO4⟩
      have Z1 : Aside (SWK enc 3 w blk off d4 w4) := hS4
      have Z2 := Lib.hid hP4
      have Z3 := Lib.hid hO4
      clear hS4 hP4 hO4
      go_wp2_with fail
      rw [rounds_succ]
      go_wp2_with fail
      rw [rounds_succ]
      go_wp2_with fail
      go_end0
      exact ⟨rfl, d4, Z1.out, permIn_trans _ _ _ _ _ HPd.out Z2.out, Z3.out⟩
end Go.Cat.St
