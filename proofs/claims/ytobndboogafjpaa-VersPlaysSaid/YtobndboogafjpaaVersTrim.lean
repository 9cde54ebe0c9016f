/- The contract of Trim. -/
import Derived.Test.YtobndboogafjpaaVersPutOk
import Derived.Test.YtobndboogafjpaaElem
import Derived.OneCell
namespace Go.Proofs.Ytobndboogafjpaa
open Go.RowKit Go.Cat Go.Cat.Vers

theorem trim_nil (done : Int) (w : World) :
    Calls Try.prog 10 #[.pointer none, .int .u64 done] w fun e w' => e = .returned (.int .i64 0) ∧ Below w.heap.size w w' := by
  have hcl := clean_any none [] done w (.inl ⟨rfl, rfl⟩) ⟨by simp, by simp⟩ (fun i j _ hj => by simp at hj)
  have HC := Lib.hid hcl
  clear hcl
  go_enter Try.func10, Try.ntmps10
  go_wp2_with fail
  refine (HC.out).mono ?_
  rintro e w1 ⟨k, hk, rfl, hB⟩
  obtain rfl : k = 0 := by have := hk.le; simpa using this
  clear hk
  go_wp2_with fail
  go_ret
  exact ⟨rfl, hB⟩

/-- Trim leaves the clean one and what stands behind it. -/
def ToldTrim (base g : Nat) (R : Value) (l : List Ver) (done : Int) (w : World) (e : Ending) (w' : World) : Prop :=
  ∃ k, Cleaned l done k ∧ e = .returned (.int .i64 ((k - 1 : Nat) : Int)) ∧ ∃ R', HoldV base g R' w' (l.drop (k - 1)) ∧ (∀ k, R'.ownBlock = some k → R.ownBlock = some k ∨ w.heap.size ≤ k) ∧ Tch (Mine g R) w w'

theorem Sees.off {w : World} {b : Nat} {xs : List Value} (h : Sees w (some ⟨b, 0, none⟩) xs) (k : Nat) (hk : k < xs.length) : Sees w (some ⟨b, k, none⟩) (xs.drop k) := by
  rcases h with rfl | ⟨b', off, hA, hc⟩
  · simp at hk
  · injection hA with hA
    injection hA with h1 h2
    subst h1 h2
    refine .inr ⟨b, k, rfl, fun j u hu => ?_⟩
    rw [List.getElem?_drop] at hu
    have := hc _ u hu
    simpa using this

theorem rows_drop (rs : List (Ver × Option Addr × Nat)) (t : Nat) : (rows rs).drop (t * 3) = rows (rs.drop t) := by
  induction t generalizing rs with
  | zero => simp
  | succ t ih =>
    cases rs with
    | nil => simp [rows]
    | cons r rs =>
      have e : rows (r :: rs) = cells r ++ rows rs := by simp [rows]
      rw [e, List.drop_append, List.drop_eq_nil_of_le (by simp [cells]; omega)]
      simp only [List.nil_append, List.drop_succ_cons]
      rw [← ih]
      simp [cells]
      congr 1
      omega

/-- What the last step of Trim needs, behind the new row. -/
theorem trim_mid {base g : Nat} {R : Value} {l : List Ver} {t : Nat} {w w1 : World} {rs : List (Ver × Option Addr × Nat)} (hb : HoldV base g R w1 l) (hB : Below w.heap.size w w1) (hbase : base ≤ w1.heap.size)
    (hrs : rs.map (·.1) = l) (hd : ∀ r ∈ rs, Held 5 base w1 r.2.1 r.1.data) :
    Hid (∀ v' w', w'.ownsRow w1.heap.size 29 3 v' (0 + (l.length - t)) ([] ++ rows (rs.drop t)) → w1.drew.grownBy w' none →
        w'.cell? ⟨g, 0, none⟩ = some R ∧ w'.frozen? ⟨g, 0, none⟩ = false ∧ HoldV base g v' (w'.setCell ⟨g, 0, none⟩ v') (l.drop t) ∧ (∀ k, v'.ownBlock = some k → R.ownBlock = some k ∨ w.heap.size ≤ k) ∧ Tch (Mine g R) w (w'.setCell ⟨g, 0, none⟩ v')) := by
  refine Lib.hid ?_
  intro v' w' hown hg
  have hT1 : Tch (fun _ => False) w1 w' := ⟨hg.os, hg.tape, hg.output, hg.size, fun k hk _ => hg.block k hk (by simp)⟩
  have hw'g : w'.heap[g]? = some (.cells #[R] 63 (0, 0)) := (hT1.block g hb.lt (fun h => h)).trans hb.cell
  have hown2 : w'.ownsRow w1.heap.size 29 3 v' (l.drop t).length (rows (rs.drop t)) := by simpa using hown
  have hv'k : ∀ k, v'.ownBlock = some k → w1.heap.size ≤ k := by
    intro k hk
    rcases hown2.2 with ⟨rfl, _⟩ | ⟨g', cap, cur, rfl, hb', hh, _⟩
    · cases hk
    · simp [Value.ownBlock] at hk; omega
  have hT2 : Tch (fun k => k = g) w' (w'.setCell ⟨g, 0, none⟩ v') := ⟨rfl, rfl, rfl, by simp [World.setCell], fun k _ hn => Below.heap_setCell _ _ _ _ hn⟩
  have hT3 : Tch (Mine g R) w1 (w'.setCell ⟨g, 0, none⟩ v') := (hT1.mono fun k _ h => h.elim).trans (hT2.mono fun k _ h => .inl h)
  refine ⟨cell_of_one hw'g, free_of_one hw'g, ⟨hb.low, one_setCell hw'g, rs.drop t, by rw [List.map_drop, hrs], ?_, ?_⟩, ?_, ?_⟩
  · exact own_mono (own_touch hown2 hT2 fun k hk e => by have := hv'k k hk; have := hb.lt; omega) hbase
  · intro r hr
    exact (hd r (List.mem_of_mem_drop hr)).touch hT3 (hb.data_off (by decide) (by decide))
  · exact fun k hk => .inr (by have := hv'k k hk; have := hB.size; omega)
  · exact (Tch.of_below hB).trans hT3

set_option maxRecDepth 100000 in
set_option maxHeartbeats 4000000 in
theorem trim_any (base g : Nat) (R : Value) (l : List Ver) (done : Int) (w : World) (hb : HoldV base g R w l) (hs : Small l) (hr : Rising l) (hbase : base ≤ w.heap.size) :
    Calls Try.prog 10 #[.pointer (some ⟨g, 0, none⟩), .int .u64 done] w (ToldTrim base g R l done w) := by
  have hcl := clean_any (some ⟨g, 0, none⟩) l done w hb.blk hs hr
  have HC := Lib.hid hcl
  have HB := Lib.hid hb
  have hl := hs.len
  clear hcl hs hr
  go_enter Try.func10, Try.ntmps10
  go_wp2_with fail
  refine (HC.out).mono ?_
  rintro e w1 ⟨k, hk, he, hB⟩
  have hkl := hk.le
  have hb1 := HB.out.below hB
  rcases Nat.lt_or_ge k 2 with hk2 | hk2
  · have hout : ToldTrim base g R l done w (.returned (.int .i64 0)) w1 := ⟨k, hk, by rw [show k - 1 = 0 from by omega]; rfl, R, by rw [show k - 1 = 0 from by omega]; exact hb1, fun k h => .inl h, Tch.of_below hB⟩
    have HO := Lib.hid hout
    clear hk hb hb1 hout
    subst he
    obtain rfl | rfl : k = 0 ∨ k = 1 := by omega
    · go_wp2_with fail
      go_ret
      exact HO.out
    · go_wp2_with fail
      go_ret
      exact HO.out
  · obtain ⟨t, rfl⟩ : ∃ t, k = t + 1 := ⟨k - 1, by omega⟩
    rw [show (((t + 1 : Nat) : Int) - 1) = (t : Int) from by omega] at he
    subst he
    obtain ⟨rs, hrs, hrow, hdat⟩ := hb1.row
    obtain ⟨L, hL⟩ : ∃ L, L = l.length := ⟨_, rfl⟩
    rcases hrow.2 with ⟨_, h0⟩ | ⟨bR, cap, cur, rfl, hbR, hhR, hcap, hmax, _⟩
    · omega
    have hcg : w1.cell? ⟨g, 0, none⟩ = some (.slice (some ⟨bR, 0, none⟩) L cap) := by rw [hL]; exact cell_of_one hb1.cell
    have hfg : w1.frozen? ⟨g, 0, none⟩ = false := free_of_one hb1.cell
    have HQ := Lib.hid hL
    have HK := Lib.hid hk
    have HB1 := Lib.hid hb1
    have HRS := Lib.hid hrs
    have HRow := Lib.hid hrow
    have HDat := Lib.hid hdat
    rw [← hL] at hkl hl hcap
    clear hk hb hb1 hL hrs hrow hdat hhR
    have h2I : (0 : Int) < (t : Int) := by omega
    have hmx : max (L : Int) 0 = (L : Int) := by omega
    have hcI : (L : Int) ≤ (cap : Int) := by omega
    have htI : (t : Int) ≤ (L : Int) := by omega
    have ht0 : (0 : Int) ≤ (t : Int) := by omega
    have hne : (L = t) = False := eq_false (by omega)
    go_wp2_with fail
    have hsee : Sees w1 (some ⟨bR, t * 3, none⟩) (rows (rs.drop t)) := by
      rw [← rows_drop]
      exact Sees.off (ownN_sees HRow.out) (t * 3) (by rw [HRow.out.1, ← HQ.out]; omega)
    have hsl : (rows (rs.drop t)).length = (L - t) * 3 := by
      have : rs.length = L := by rw [HQ.out, ← HRS.out, List.length_map]
      rw [rows_length, List.length_drop, this]
    have hmid := trim_mid (t := t) HB1.out hB (Nat.le_trans hbase hB.size) HRS.out HDat.out
    rw [← HQ.out] at hmid
    have HSee := Lib.hid hsee
    have HSl := Lib.hid hsl
    clear hsee hsl
    go_region_law (refine step_app elem_ver rfl (.const (.slice none 0 0)) (.tmp 28) rfl w1.heap.size (.slice none 0 0) 0 [] rfl (World.ownsRow_nil _ _ _ _) (some ⟨bR, t * 3, none⟩) (L - t) (L - t) (rows (rs.drop t)) rfl HSee.out HSl.out (one_rows _) (by omega) (Nat.le_refl _) ?_; intro v2 w2 hown2 hg2 _; obtain ⟨hc2, hf2, hh2, hn2, ht2⟩ := hmid.out v2 w2 hown2 hg2; obtain ⟨A2, c2, rfl, _, _⟩ := own_full hown2)
    all_goals
      go_wp2_with fail
      go_ret
      rw [Nat.zero_add] at hh2 hn2 ht2
      exact ⟨t + 1, HK.out, rfl, _, hh2, hn2, ht2⟩
end Go.Proofs.Ytobndboogafjpaa
