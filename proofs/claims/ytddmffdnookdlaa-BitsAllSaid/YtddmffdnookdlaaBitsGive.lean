/- The contracts of bits.Give and of the reference's Give. Condition: a slice of at most 4096 bytes, at most 65536 numbers. -/
import Derived.Test.YtddmffdnookdlaaBitsRest
namespace Go.Cat.Bits
def giveL (n : Int) : (Nat → Bool) → List Int → Option (Nat → Bool) × Int
  | p, [] => (some p, 0)
  | p, z :: l => if z < 0 ∨ n ≤ z then (none, 20) else if p z.toNat = false then (none, 7) else giveL n (fun j => if j = z.toNat then false else p j) l

theorem giveL_nil (n : Int) (p : Nat → Bool) : giveL n p [] = (some p, 0) := rfl
theorem giveL_range {n : Int} {p : Nat → Bool} {z : Int} {l : List Int} (h : z < 0 ∨ n ≤ z) : giveL n p (z :: l) = (none, 20) := by rw [giveL, if_pos h]
theorem giveL_none {n : Int} {p : Nat → Bool} {z : Int} {l : List Int} (h : ¬ (z < 0 ∨ n ≤ z)) (hp : p z.toNat = false) : giveL n p (z :: l) = (none, 7) := by rw [giveL, if_neg h, if_pos hp]
theorem giveL_step {n : Int} {p : Nat → Bool} {z : Int} {l : List Int} (h : ¬ (z < 0 ∨ n ≤ z)) (hp : p z.toNat = true) : giveL n p (z :: l) = giveL n (fun j => if j = z.toNat then false else p j) l := by rw [giveL, if_neg h, if_neg (by simp [hp])]

/-- What Give comes to. -/
def GiveTo (bs : List UInt8) (n : Int) (l : List Int) (out : List UInt8) (e : Int) : Prop :=
  (¬ FitsP bs n ∧ out = [] ∧ e = 4) ∨ (FitsP bs n ∧ (giveL n (bit bs) l).1 = none ∧ out = [] ∧ e = (giveL n (bit bs) l).2) ∨
  (FitsP bs n ∧ ∃ p, giveL n (bit bs) l = (some p, 0) ∧ Rep out n p ∧ e = 0)

theorem GiveTo.uniq {bs : List UInt8} {n : Int} {l : List Int} {o o' : List UInt8} {e e' : Int} (h : GiveTo bs n l o e) (h' : GiveTo bs n l o' e') : o = o' ∧ e = e' := by
  rcases h with ⟨a, rfl, rfl⟩ | ⟨a, b, rfl, rfl⟩ | ⟨a, p, b, r, rfl⟩ <;> rcases h' with ⟨a', rfl, rfl⟩ | ⟨a', b', rfl, rfl⟩ | ⟨a', p', b', r', rfl⟩
  · exact ⟨rfl, rfl⟩
  · exact absurd a' a
  · exact absurd a' a
  · exact absurd a a'
  · exact ⟨rfl, rfl⟩
  · rw [b'] at b; cases b
  · exact absurd a a'
  · rw [b] at b'; cases b'
  · rw [b] at b'; simp only [Prod.mk.injEq, Option.some.injEq, and_true] at b'; subst b'
    exact ⟨r.uniq r' fun _ _ => rfl, rfl⟩

end Go.Cat.Bits
namespace Go.Proofs.Ytddmffdnookdlaa
open Go.RowKit Go.Cat Go.Cat.Bits

theorem SetTo.uniq {bs : List UInt8} {n i : Int} {on : Bool} {o o' : List UInt8} {e e' : Int} (h : SetTo bs n i on o e) (h' : SetTo bs n i on o' e') : o = o' ∧ e = e' := by
  rcases h with ⟨a, rfl, rfl⟩ | ⟨a, b, rfl, rfl⟩ | ⟨a, b, c, r, rfl⟩ <;> rcases h' with ⟨a', rfl, rfl⟩ | ⟨a', b', rfl, rfl⟩ | ⟨a', b', c', r', rfl⟩ <;>
  first
  | exact ⟨rfl, rfl⟩
  | exact absurd a' a
  | exact absurd a a'
  | (exfalso; omega)
  | exact ⟨r.uniq r' fun _ _ => rfl, rfl⟩
/-- Bytes and an error are told. -/
def ToldB (P : List UInt8 → Int → Prop) (w : World) (e : Ending) (w' : World) : Prop :=
  ∃ out z A' c', P out z ∧ e = .returned (.tuple #[.slice A' out.length c', .int .i64 z]) ∧ Bytes w' A' out ∧ Below w.heap.size w w'
theorem ToldB.mk {P : List UInt8 → Int → Prop} {w w' : World} {e : Ending} (out : List UInt8) (z : Int) (A' : Option Addr) (c' : Nat) (h : P out z) (he : e = .returned (.tuple #[.slice A' out.length c', .int .i64 z])) (hb : Bytes w' A' out) (hB : Below w.heap.size w w') : ToldB P w e w' :=
  ⟨out, z, A', c', h, he, hb, hB⟩

theorem andNot_of (x : UInt8) (r : Nat) (hr : r < 8) : bits BinOp.andNot IntKind.u8 (x.toNat : Int) ((2 ^ r : Nat) : Int) = ((UInt8.ofNat (x.toNat &&& (255 - 2 ^ r))).toNat : Int) := by
  rw [u8_andNot_nat _ _ x.toNat_lt (by have := Nat.pow_lt_pow_right (a := 2) (by omega) hr; omega), UInt8.toNat_ofNat', Nat.mod_eq_of_lt (and_lt x _)]

theorem give_any (A L : Option Addr) (m c k d : Nat) (bs : List UInt8) (l : List Int) (n : Int) (w : World) (hb : Bytes w A bs) (hn : m = bs.length) (hm : bs.length ≤ 4096) (hl : Ints w L l) (hk : k = l.length) (hlm : l.length ≤ 65536) :
    Calls Try.prog 10 #[.slice A m c, .int .i64 n, .slice L k d] w (ToldB (GiveTo bs n l) w) := by
  subst hn hk
  by_cases h : FitsP bs n
  · have h0 := h.lo
    have h1 := h.hi
    have hs : sz n ≤ 512 := by unfold sz; omega
    go_enter Try.func10, Try.ntmps10
    go_wp2_with (first
      | (go_at_call 23; refine (fits_yes hb rfl hm h).mono ?_; rintro e w' ⟨rfl, rfl⟩)
      | (go_at_call 25; refine (whole_any _ _ _ bs _ _ hb rfl h).mono ?_; rintro e w1 ⟨out0, hrep0, rfl, hown0, hbel0⟩))
    go_loopw [20] (fun i wr => ∃ (q : Nat) (out : List UInt8) (p : Nat → Bool), q ≤ l.length ∧ i = .int .i64 q ∧ giveL n (bit bs) l = giveL n p (l.drop q) ∧ Rep out n p ∧
        wr.ownsRow w.heap.size 5 1 (.slice (some ⟨w.heap.size, 0, none⟩) (sz n) (sz n)) (sz n) (out.map by8) ∧ Below w.heap.size w wr) (fun i _ => l.length - (intOf i).toNat)
    case atStart => exact ⟨0, out0, bit bs, Nat.zero_le _, rfl, rfl, hrep0, hown0, hbel0⟩
    case round =>
      obtain ⟨q, out, p, hq, rfl, hgl, hrep, hown, hbel⟩ := hrel
      clear hown0 hrep0 hbel0
      have hol : out.length = sz n := hrep.1
      have HL := Lib.hid hol
      have HR := Lib.hid hrep
      have HG := Lib.hid hgl
      clear hol hrep hgl
      by_cases hlt : q < l.length
      · obtain ⟨b, off, rfl, _, hc⟩ := (hl.below hbel).at_ (by omega)
        have e1 := hc q hlt
        clear hc
        obtain ⟨z, hzk⟩ : ∃ z, z = l.getD q 0 := ⟨_, rfl⟩
        rw [← hzk] at e1
        have HD : Hid (l.drop q = z :: l.drop (q + 1)) := by show _ = _; rw [List.drop_eq_getElem_cons hlt, hzk]; simp [List.getD_eq_getElem?_getD, hlt]
        clear hzk
        have hqI : (q : Int) < (l.length : Int) := by omega
        by_cases hz0 : z < 0
        · have hf := HG.out
          rw [HD.out, giveL_range (.inl hz0)] at hf
          have HF := Lib.hid hf
          clear hf
          go_wp2
          go_ret2
          exact ToldB.mk [] 20 none 0 (.inr (.inl ⟨h, by rw [HF.out], rfl, by rw [HF.out]⟩)) rfl Bytes.nil_ (hbel)
        · have hd : decide (z < 0) = false := by simpa using hz0
          by_cases hzn : n ≤ z
          · have hf := HG.out
            rw [HD.out, giveL_range (.inr hzn)] at hf
            have HF := Lib.hid hf
            clear hf
            go_wp2
            go_ret2
            exact ToldB.mk [] 20 none 0 (.inr (.inl ⟨h, by rw [HF.out], rfl, by rw [HF.out]⟩)) rfl Bytes.nil_ (hbel)
          · obtain ⟨r, rfl⟩ := Int.eq_ofNat_of_zero_le (by omega : 0 ≤ z)
            have hrn : r < n.toNat := by omega
            have hrI : (r : Int) < n := by omega
            have hd2 : decide (n ≤ (r : Int)) = false := by simpa using hzn
            have hrs : r / 8 < sz n := by unfold sz; omega
            clear hz0 hzn
            have hob : Bytes wr (some ⟨w.heap.size, 0, none⟩) out := Sees.of_own hown
            have hcell := hown.cellAt (r / 8) (by omega)
            obtain ⟨x, hx⟩ : ∃ x, x = out.getD (r / 8) 0 := ⟨_, rfl⟩
            have hcx : wr.cell? ⟨w.heap.size, r / 8, none⟩ = some (.int .u8 (x.toNat : Int)) := by
              rw [hcell, hx]; simp [by8, List.getD_eq_getElem?_getD, HL.out, hrs]
            have hfz := hown.frozenAt (r / 8)
            have hbq : hasB out (r : Int) = p r := by
              have := HR.out.bit_lt (j := r) (by omega)
              simp [hasB, this]
            have HX := Lib.hid hx
            have HBQ := Lib.hid hbq
            clear hcell hx hbq
            have hng : ¬ ((r : Int) < 0 ∨ n ≤ (r : Int)) := by omega
            have HNG := Lib.hid hng
            clear hng
            rcases Bool.eq_false_or_eq_true (p r) with hbt | hbt
            · have hcall : Calls Try.prog 14 #[.slice (some ⟨w.heap.size, 0, none⟩) (sz n) (sz n), .int .i64 (r : Int)] wr fun e w' => e = .returned (.bool true) ∧ wr = w' :=
                has_true hob HL.out.symm (by rw [HL.out]; omega) (by omega) (by rw [HBQ.out, hbt])
              have HCa := Lib.hid hcall
              have hf := HG.out
              rw [HD.out, giveL_step HNG.out (by simpa using hbt)] at hf
              have HF := Lib.hid hf
              clear hf hcall hbt
              have hrQ : (r : Int) / 8 < (sz n : Int) := by omega
              go_wp2_with (go_at_call 14; refine (HCa.out).mono ?_; rintro e w' ⟨rfl, rfl⟩)
              go_region
              have hp : (2 ^ (r % 8) % 256 : Int) = ((2 ^ (r % 8) : Nat) : Int) := pow_mod8 r
              rw [hp, andNot_of x (r % 8) (by omega)]
              have hst := set_row hown HR.out hrn false (UInt8.ofNat (x.toNat &&& (255 - 2 ^ (r % 8)))) (fun s hs => by rw [set_andNot x (r % 8) s (by omega) hs, ← HX.out])
              obtain ⟨o1, o2, o3⟩ := hst
              have hB2 := (hbel.grown o2 (by have := hbel.size; omega) (fun g hg => by injection hg with hg; omega)).drew
              replace o1 := o1.drew
              generalize (wr.setCell ⟨w.heap.size, r / 8, none⟩ (.int .u8 ((UInt8.ofNat (x.toNat &&& (255 - 2 ^ (r % 8)))).toNat : Int))).drew = w2 at o1 hB2 ⊢
              clear hown hcx hfz o2 hp hob hbel
              have HO3 := Lib.hid o3
              clear o3
              go_wp2
              go_roundw
              case rel => exact ⟨q + 1, _, _, by omega, by go_num, by rw [HF.out]; simp, HO3.out, o1, hB2⟩
              case measure => simp [intOf]; omega
            · have hcall : Calls Try.prog 14 #[.slice (some ⟨w.heap.size, 0, none⟩) (sz n) (sz n), .int .i64 (r : Int)] wr fun e w' => e = .returned (.bool false) ∧ wr = w' :=
                has_false hob HL.out.symm (by rw [HL.out]; omega) (by omega) (by rw [HBQ.out, hbt])
              have HCa := Lib.hid hcall
              have hf := HG.out
              rw [HD.out, giveL_none HNG.out (by simpa using hbt)] at hf
              have HF := Lib.hid hf
              clear hf hcall hbt
              go_wp2_with (go_at_call 14; refine (HCa.out).mono ?_; rintro e w' ⟨rfl, rfl⟩)
              go_ret2
              exact ToldB.mk [] 7 none 0 (.inr (.inl ⟨h, by rw [HF.out], rfl, by rw [HF.out]⟩)) rfl Bytes.nil_ (hbel)
      · have hf := HG.out
        rw [List.drop_of_length_le (by omega), giveL_nil] at hf
        have HF := Lib.hid hf
        clear hf
        go_wp2
        go_ret2
        exact ToldB.mk out 0 _ _ (.inr (.inr ⟨h, p, HF.out, HR.out, rfl⟩)) (ret_slice2 HL.out.symm) (Sees.of_own hown) hbel
  · go_enter Try.func10, Try.ntmps10
    go_wp2_with (go_at_call 23; refine (fits_not hb rfl hm h).mono ?_; rintro e w' ⟨rfl, rfl⟩)
    go_ret2
    exact ToldB.mk [] 4 none 0 (.inl ⟨h, rfl, rfl⟩) rfl Bytes.nil_ (Below.refl _ _)

theorem rgive_any (A L : Option Addr) (m c k d : Nat) (bs : List UInt8) (l : List Int) (n : Int) (w : World) (hb : Bytes w A bs) (hn : m = bs.length) (hm : bs.length ≤ 4096) (hl : Ints w L l) (hk : k = l.length) (hlm : l.length ≤ 65536) :
    Calls Try.prog 11 #[.slice A m c, .int .i64 n, .slice L k d] w (ToldB (GiveTo bs n l) w) := by
  subst hn hk
  by_cases h : FitsP bs n
  · have h0 := h.lo
    have h1 := h.hi
    have hHl := had_le bs n
    have hhad := had_yes h
    have hin : ∀ z ∈ had bs n, 0 ≤ z ∧ z < n := by
      intro z hz
      rw [hhad] at hz
      obtain ⟨j, rfl, h3, _⟩ := mem_nums.1 hz
      omega
    have hmem : ∀ j : Nat, j < n.toNat → ((j : Int) ∈ had bs n ↔ bit bs j = true) := by
      intro j hj
      rw [hhad, mem_nums]
      constructor
      · rintro ⟨q, hq, _, h4⟩
        obtain rfl : j = q := by omega
        exact h4
      · intro h4; exact ⟨j, rfl, hj, h4⟩
    obtain ⟨H0, hH0⟩ : ∃ H0, H0 = had bs n := ⟨_, rfl⟩
    have hlist := fun c => rlist_any A bs.length c bs n w hb rfl hm
    rw [← hH0] at hHl hin hmem hlist
    have HLi := Lib.hid hlist
    have HI := Lib.hid hin
    have HMm := Lib.hid hmem
    clear hhad hin hmem hH0 hlist
    go_enter Try.func11, Try.ntmps11
    go_wp2_with (first
      | (go_at_call 17; refine (rfits_yes hb rfl hm h).mono ?_; rintro e w' ⟨rfl, rfl⟩)
      | (go_at_call 18; refine (HLi.out _).mono ?_; rintro e w1 ⟨v1, rfl, hown1, hbel1⟩))
    go_loopw [8, 9] (fun v i wr => ∃ (q : Nat) (H : List Int) (p : Nat → Bool) (V : Option Addr) (C : Nat), q ≤ l.length ∧ i = .int .i64 q ∧ v = .slice V H.length C ∧ Ints wr V H ∧ H.length ≤ 4096 ∧ (∀ z ∈ H, 0 ≤ z ∧ z < n) ∧ (∀ j : Nat, j < n.toNat → ((j : Int) ∈ H ↔ p j = true)) ∧
        giveL n (bit bs) l = giveL n p (l.drop q) ∧ Below w.heap.size w wr) (fun _ i _ => l.length - (intOf i).toNat)
    case atStart =>
      obtain ⟨V, C, rfl, hs⟩ := own_form hown1
      exact ⟨0, H0, bit bs, V, C, Nat.zero_le _, rfl, rfl, hs, hHl, HI.out, HMm.out, rfl, hbel1⟩
    case round =>
      obtain ⟨q, H, p, V, C, hq, rfl, rfl, hH, hHm, hin, hmem, hgl, hbel⟩ := hrel
      have HI := Lib.hid hin
      have HM := Lib.hid hmem
      have HG := Lib.hid hgl
      clear hin hmem hgl hown1 hbel1
      by_cases hlt : q < l.length
      · obtain ⟨b, off, rfl, _, hc⟩ := (hl.below hbel).at_ (by omega)
        have e1 := hc q hlt
        clear hc
        obtain ⟨z, hzk⟩ : ∃ z, z = l.getD q 0 := ⟨_, rfl⟩
        rw [← hzk] at e1
        have HD : Hid (l.drop q = z :: l.drop (q + 1)) := by show _ = _; rw [List.drop_eq_getElem_cons hlt, hzk]; simp [List.getD_eq_getElem?_getD, hlt]
        clear hzk
        have hqI : (q : Int) < (l.length : Int) := by omega
        by_cases hz0 : z < 0
        · have hf := HG.out
          rw [HD.out, giveL_range (.inl hz0)] at hf
          have HF := Lib.hid hf
          clear hf
          go_wp2
          go_ret2
          exact ToldB.mk [] 20 none 0 (.inr (.inl ⟨h, by rw [HF.out], rfl, by rw [HF.out]⟩)) rfl Bytes.nil_ (hbel)
        · have hd : decide (z < 0) = false := by simpa using hz0
          by_cases hzn : n ≤ z
          · have hf := HG.out
            rw [HD.out, giveL_range (.inr hzn)] at hf
            have HF := Lib.hid hf
            clear hf
            go_wp2
            go_ret2
            exact ToldB.mk [] 20 none 0 (.inr (.inl ⟨h, by rw [HF.out], rfl, by rw [HF.out]⟩)) rfl Bytes.nil_ (hbel)
          · obtain ⟨r, rfl⟩ := Int.eq_ofNat_of_zero_le (by omega : 0 ≤ z)
            have hrn : r < n.toNat := by omega
            have hrI : (r : Int) < n := by omega
            have hd2 : decide (n ≤ (r : Int)) = false := by simpa using hzn
            clear hz0 hzn
            have hng : ¬ ((r : Int) < 0 ∨ n ≤ (r : Int)) := by omega
            have HNG := Lib.hid hng
            clear hng
            have hwl := wo_le H (r : Int)
            have hcall := fun c => without_any V H.length c H (r : Int) wr hH rfl (by omega)
            rcases Bool.eq_false_or_eq_true (p r) with hbt | hbt
            · rw [show decide ((r : Int) ∈ H) = true from decide_eq_true ((HM.out r hrn).2 hbt)] at hcall
              have HCa := Lib.hid hcall
              have hf := HG.out
              rw [HD.out, giveL_step HNG.out (by simpa using hbt)] at hf
              have HF := Lib.hid hf
              clear hf hcall hbt
              go_wp2_with (go_at_call 27; refine (HCa.out _).mono ?_; rintro e w2 ⟨v2, rfl, hown2, hbel2⟩)
              obtain ⟨V2, C2, rfl, hs2⟩ := own_form hown2
              go_roundw
              case rel =>
                refine ⟨q + 1, wo H (r : Int), _, V2, C2, by omega, by go_num, rfl, hs2, by omega, fun z hz => HI.out z (mem_wo.1 hz).1, fun j hj => ?_, HF.out, hbel.trans (hbel2.mono hbel.size)⟩
                rw [mem_wo, HM.out j hj]
                by_cases hjr : j = r
                · subst hjr; simp
                · have : (j : Int) ≠ (r : Int) := by omega
                  simp [hjr, this]
              case measure => simp [intOf]; omega
            · rw [show decide ((r : Int) ∈ H) = false from decide_eq_false (fun e => by rw [(HM.out r hrn).1 e] at hbt; cases hbt)] at hcall
              have HCa := Lib.hid hcall
              have hf := HG.out
              rw [HD.out, giveL_none HNG.out (by simpa using hbt)] at hf
              have HF := Lib.hid hf
              clear hf hcall hbt
              go_wp2_with (go_at_call 27; refine (HCa.out _).mono ?_; rintro e w2 ⟨v2, rfl, hown2, hbel2⟩)
              go_ret2
              exact ToldB.mk [] 7 none 0 (.inr (.inl ⟨h, by rw [HF.out], rfl, by rw [HF.out]⟩)) rfl Bytes.nil_ (hbel.trans (hbel2.mono hbel.size))
      · have hf := HG.out
        rw [List.drop_of_length_le (by omega), giveL_nil] at hf
        have HF := Lib.hid hf
        have HH := Lib.hid (rfl : H.length = H.length)
        clear hf
        go_wp2_with (go_at_call 26; refine (of_any V _ C H n _ hH rfl (by omega) h0 h1 HI.out).mono ?_; rintro e w3 ⟨out, hrep, rfl, hb3, hbel3⟩)
        go_ret2
        refine ToldB.mk out 0 _ _ (.inr (.inr ⟨h, p, HF.out, hrep.congr fun j hj => ?_, rfl⟩)) (ret_slice2 hrep.1.symm) hb3 (hbel.trans (hbel3.mono hbel.size))
        rw [Bool.eq_iff_iff, decide_eq_true_iff, HM.out j hj]
  · go_enter Try.func11, Try.ntmps11
    go_wp2_with (go_at_call 17; refine (rfits_not hb rfl hm h).mono ?_; rintro e w' ⟨rfl, rfl⟩)
    go_ret2
    exact ToldB.mk [] 4 none 0 (.inl ⟨h, rfl, rfl⟩) rfl Bytes.nil_ (Below.refl _ _)
end Go.Proofs.Ytddmffdnookdlaa
