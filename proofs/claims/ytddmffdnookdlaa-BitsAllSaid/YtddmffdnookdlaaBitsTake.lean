/- The contract of bits.Take: the least free numbers are taken. Condition: a slice of at most 4096 bytes. -/
import Derived.Test.YtddmffdnookdlaaBitsOf
import Derived.Test.YtddmffdnookdlaaBitsCount
import Derived.WalkMore
namespace Go.Cat.Bits
def free (bs : List UInt8) (n : Int) : List Int := nums (fun j => !bit bs j) n.toNat

/-- What Take comes to. -/
def TakeTo (bs : List UInt8) (n k : Int) (out : List UInt8) (got : List Int) (e : Int) : Prop :=
  (¬ FitsP bs n ∧ out = [] ∧ got = [] ∧ e = 4) ∨ (FitsP bs n ∧ k < 0 ∧ out = [] ∧ got = [] ∧ e = 1) ∨
  (FitsP bs n ∧ 0 ≤ k ∧ ((free bs n).length : Int) < k ∧ out = [] ∧ got = [] ∧ e = 16) ∨
  (FitsP bs n ∧ 0 ≤ k ∧ k ≤ ((free bs n).length : Int) ∧ got = (free bs n).take k.toNat ∧ Rep out n (fun j => bit bs j || decide ((j : Int) ∈ got)) ∧ e = 0)

theorem TakeTo.uniq {bs : List UInt8} {n k : Int} {o o' : List UInt8} {g g' : List Int} {e e' : Int} (h : TakeTo bs n k o g e) (h' : TakeTo bs n k o' g' e') : o = o' ∧ g = g' ∧ e = e' := by
  rcases h with ⟨a, rfl, rfl, rfl⟩ | ⟨a, b, rfl, rfl, rfl⟩ | ⟨a, b, c, rfl, rfl, rfl⟩ | ⟨a, b, c, rfl, r, rfl⟩ <;>
  rcases h' with ⟨a', rfl, rfl, rfl⟩ | ⟨a', b', rfl, rfl, rfl⟩ | ⟨a', b', c', rfl, rfl, rfl⟩ | ⟨a', b', c', rfl, r', rfl⟩ <;>
  first
  | exact absurd a' a
  | exact absurd a a'
  | (exfalso; omega)
  | exact ⟨rfl, rfl, rfl⟩
  | exact ⟨r.uniq r' fun _ _ => rfl, rfl, rfl⟩

theorem take_nums {p : Nat → Bool} {i n : Nat} (h : i ≤ n) : (nums p n).take (nums p i).length = nums p i := by
  obtain ⟨t, ht⟩ := nums_prefix p h
  rw [← ht]
  simp

/-- The loop's end: what was taken below i, when there is enough. -/
theorem taken_rep {bs out : List UInt8} {n : Int} {i : Nat} (hr : Rep out n (fun j => bit bs j || decide (j < i))) : Rep out n (fun j => bit bs j || decide ((j : Int) ∈ nums (fun j => !bit bs j) i)) := by
  refine hr.congr fun j _ => ?_
  have : ((j : Int) ∈ nums (fun j => !bit bs j) i) ↔ (j < i ∧ bit bs j = false) := by
    rw [mem_nums]
    constructor
    · rintro ⟨q, hq, h1, h2⟩
      obtain rfl : j = q := by omega
      exact ⟨h1, by simpa using h2⟩
    · rintro ⟨h1, h2⟩
      exact ⟨j, rfl, h1, by simpa using h2⟩
  by_cases hb : bit bs j = true
  · simp [hb]
  · have hb : bit bs j = false := by simpa using hb
    rw [hb, Bool.false_or, Bool.false_or, decide_eq_decide]
    exact ⟨fun h => this.2 ⟨h, hb⟩, fun h => (this.1 h).1⟩
end Go.Cat.Bits
namespace Go.Proofs.Ytddmffdnookdlaa
open Go.RowKit Go.Cat Go.Cat.Bits

theorem own_form {w : World} {base : Nat} {e : TypeId} {v : Value} {n : Nat} {xs : List Value} (h : w.ownsRow base e 1 v n xs) : ∃ A c, v = .slice A n c ∧ Sees w A xs := by
  rcases h.2 with ⟨rfl, rfl⟩ | ⟨g, cap, cur, rfl, _⟩
  · exact ⟨none, 0, rfl, Sees.of_own h⟩
  · exact ⟨_, _, rfl, Sees.of_own h⟩

theorem or_of (x : UInt8) (r : Nat) (hr : r < 8) : bits BinOp.or IntKind.u8 (x.toNat : Int) ((2 ^ r : Nat) : Int) = ((UInt8.ofNat (x.toNat ||| 2 ^ r)).toNat : Int) := by
  rw [u8_or_nat _ _ x.toNat_lt (by have := Nat.pow_lt_pow_right (a := 2) (by omega) hr; omega), UInt8.toNat_ofNat', Nat.mod_eq_of_lt (or_bits x r hr)]

/-- One bit of an owned bitmap set: the row, and the bits. -/
theorem set_row {w : World} {base g : Nat} {e : TypeId} {n : Int} {cap : Nat} {out : List UInt8} {p : Nat → Bool} {q : Nat} (hown : w.ownsRow base e 1 (.slice (some ⟨g, 0, none⟩) (sz n) cap) (sz n) (out.map by8)) (hrep : Rep out n p) (hq : q < n.toNat)
    (v : Bool) (y : UInt8) (hy : ∀ r, r < 8 → y.toNat.testBit r = if r = q % 8 then v else (out.getD (q / 8) 0).toNat.testBit r) :
    (w.setCell ⟨g, q / 8, none⟩ (.int .u8 (y.toNat : Int))).ownsRow base e 1 (.slice (some ⟨g, 0, none⟩) (sz n) cap) (sz n) ((out.set (q / 8) y).map by8) ∧ w.grownBy (w.setCell ⟨g, q / 8, none⟩ (.int .u8 (y.toNat : Int))) (some g) ∧
      Rep (out.set (q / 8) y) n (fun j => if j = q then v else p j) := by
  have hst := hown.stored (q / 8) (.int .u8 (y.toNat : Int))
  have hset : (out.map by8).set (q / 8) (.int .u8 (y.toNat : Int)) = (out.set (q / 8) y).map by8 := (List.map_set (f := by8)).symm
  rw [hset] at hst
  exact ⟨hst.1, hst.2, hrep.set hq v hy⟩

theorem take_any (A : Option Addr) (m c : Nat) (bs : List UInt8) (n k : Int) (w : World) (hb : Bytes w A bs) (hn : m = bs.length) (hm : bs.length ≤ 4096) :
    Calls Try.prog 8 #[.slice A m c, .int .i64 n, .int .i64 k] w fun e w' => ∃ out got z A' c' B d, TakeTo bs n k out got z ∧ e = .returned (.tuple #[.slice A' out.length c', .slice B got.length d, .int .i64 z]) ∧ Bytes w' A' out ∧ Ints w' B got ∧ Below w.heap.size w w' := by
  subst hn
  by_cases h : FitsP bs n
  · have h0 := h.lo
    have h1 := h.hi
    by_cases hk0 : k < 0
    · go_enter Try.func8, Try.ntmps8; go_wp2_with fail; go_step3
      go_wp2_with (go_at_call 23; refine (fits_yes hb rfl hm h).mono ?_; rintro e w' ⟨rfl, rfl⟩)
      first | (rw [Exit.noGoto_ret]; go_ret3) | go_ret3
      exact ⟨[], [], 1, none, 0, none, 0, .inr (.inl ⟨h, hk0, rfl, rfl, rfl⟩), rfl, Bytes.nil_, Ints.nil_, Below.refl _ _⟩
    · have hadd := nums_add (bit bs) n.toNat
      have hfree : (free bs n).length = n.toNat - (nums (bit bs) n.toNat).length := by unfold free; omega
      have hcnt := fun W (hW : Bytes W A bs) => count_any A bs.length c bs n W hW rfl hm
      rw [had_yes h] at hcnt
      obtain ⟨C, hC⟩ : ∃ C, C = (nums (bit bs) n.toNat).length := ⟨_, rfl⟩
      rw [← hC] at hcnt hadd hfree
      have hCn : C ≤ n.toNat := by omega
      have HCnt := Lib.hid hcnt
      have HF := Lib.hid hfree
      clear hcnt hC hfree hadd
      by_cases hlt : n - (C : Int) < k
      · go_enter Try.func8, Try.ntmps8; go_wp2_with fail; go_step3
        go_wp2_with (first
          | (go_at_call 23; refine (fits_yes hb rfl hm h).mono ?_; rintro e w' ⟨rfl, rfl⟩)
          | (go_at_call 16; refine (HCnt.out _ hb).mono ?_; rintro e w' ⟨rfl, rfl⟩))
        first | (rw [Exit.noGoto_ret]; go_ret3) | go_ret3
        exact ⟨[], [], 16, none, 0, none, 0, .inr (.inr (.inl ⟨h, by omega, by have := HF.out; omega, rfl, rfl, rfl⟩)), rfl, Bytes.nil_, Ints.nil_, Below.refl _ _⟩
      · obtain ⟨K, rfl⟩ := Int.eq_ofNat_of_zero_le (by omega : 0 ≤ k)
        obtain ⟨N, rfl⟩ := Int.eq_ofNat_of_zero_le h0
        obtain ⟨i0, hi, hz0, hz1, hz2⟩ := info_parts info_int
        have hs : sz (N : Int) ≤ 512 := by unfold sz; omega
        have hKN : K ≤ N := by omega
        clear hk0
        go_enter Try.func8, Try.ntmps8; go_wp2_with fail; go_step3
        go_wp2_with (first
          | (go_at_call 23; refine (fits_yes hb rfl hm h).mono ?_; rintro e w' ⟨rfl, rfl⟩)
          | (go_at_call 16; refine (HCnt.out _ hb).mono ?_; rintro e w' ⟨rfl, rfl⟩)
          | (go_at_call 25; refine (whole_any _ _ _ bs _ _ hb rfl h).mono ?_; rintro e w1 ⟨out0, hrep0, rfl, hown0, hbel0⟩))
        have hg0 := (hown0.lt w.heap.size rfl).2
        go_step3
        go_wp2_with fail
        go_loopw [10, 32] (fun v i wr => ∃ (q : Nat) (out : List UInt8), q ≤ N ∧ i = .int .i64 q ∧ (nums (fun j => !bit bs j) q).length ≤ K ∧
            wr.ownsRow w.heap.size 5 1 (.slice (some ⟨w.heap.size, 0, none⟩) (sz (N : Int)) (sz (N : Int))) (sz (N : Int)) (out.map by8) ∧ Rep out (N : Int) (fun j => bit bs j || decide (j < q)) ∧
            wr.ownsRow w1.heap.size 3 1 v (nums (fun j => !bit bs j) q).length ((nums (fun j => !bit bs j) q).map i64) ∧ Below w.heap.size w wr ∧ w1.heap.size ≤ wr.heap.size) (fun _ i _ => N - (intOf i).toNat)
        case atStart => exact ⟨0, out0, Nat.zero_le _, rfl, Nat.zero_le _, hown0, hrep0.congr (fun j _ => by simp), World.ownsRow_nil _ _ _ _, hbel0, Nat.le_refl _⟩
        case round =>
          obtain ⟨q, out, hq, rfl, hqK, hown, hrep, hgot, hbel, hsz⟩ := hrel
          clear hown0 hrep0 hbel0
          have hol : out.length = sz (N : Int) := hrep.1
          have HL := Lib.hid hol
          have HR := Lib.hid hrep
          have hgl := nums_le (fun j => !bit bs j) q
          obtain ⟨G, hG⟩ : ∃ G, G = nums (fun j => !bit bs j) q := ⟨_, rfl⟩
          rw [← hG] at hqK hgot hgl
          have HG := Lib.hid hG
          clear hG
          have fin : ∀ (hGK : G.length = K), TakeTo bs (N : Int) (K : Int) out G 0 := fun hGK => by
            refine .inr (.inr (.inr ⟨h, by omega, by have := HF.out; omega, ?_, ?_, rfl⟩))
            · rw [HG.out]
              unfold free
              have := take_nums (p := fun j => !bit bs j) hq
              rw [← HG.out, hGK, HG.out] at this
              simpa using this.symm
            · rw [HG.out]; exact taken_rep HR.out
          have HFin := Lib.hid fin
          clear fin hrep hol
          by_cases hlt' : q < N
          · by_cases hGK : G.length = K
            · have ht : ((G.length : Int) == (K : Int)) = true := by rw [beq_iff_eq]; omega
              have HGK := Lib.hid hGK
              clear hGK
              obtain ⟨B, d, rfl, hsee⟩ := own_form hgot
              go_wp2
              first | (rw [Exit.noGoto_ret]; go_ret3) | go_ret3
              exact ⟨out, G, 0, _, _, B, d, HFin.out HGK.out, ret_slice3 (by rw [HL.out]), Sees.of_own hown, hsee, hbel⟩
            · have ht : ((G.length : Int) == (K : Int)) = false := by rw [beq_eq_false_iff_ne]; omega
              have hGK' : G.length < K := by omega
              clear hGK
              have hob : Bytes wr (some ⟨w.heap.size, 0, none⟩) out := Sees.of_own hown
              have hqs : q / 8 < sz (N : Int) := by unfold sz; omega
              have hcell := hown.cellAt (q / 8) (by omega)
              obtain ⟨x, hx⟩ : ∃ x, x = out.getD (q / 8) 0 := ⟨_, rfl⟩
              have hcx : wr.cell? ⟨w.heap.size, q / 8, none⟩ = some (.int .u8 (x.toNat : Int)) := by
                rw [hcell, hx]; simp [by8, List.getD_eq_getElem?_getD, HL.out, hqs]
              have hfz := hown.frozenAt (q / 8)
              have hbq : hasB out (q : Int) = bit bs q := by
                have := HR.out.bit_lt (j := q) (by omega)
                simp [hasB, this]
              have HX := Lib.hid hx
              have HBQ := Lib.hid hbq
              clear hcell hx hbq
              obtain ⟨V, C', rfl, _⟩ := own_form hgot
              rcases Bool.eq_false_or_eq_true (bit bs q) with hbt | hbt
              · have hcall : Calls Try.prog 14 #[.slice (some ⟨w.heap.size, 0, none⟩) (sz (N : Int)) (sz (N : Int)), .int .i64 (q : Int)] wr fun e w' => e = .returned (.bool true) ∧ wr = w' :=
                  has_true hob HL.out.symm (by rw [HL.out]; omega) (by omega) (by rw [HBQ.out, hbt])
                have HCa := Lib.hid hcall
                have hnn := nums_no (p := fun j => !bit bs j) (k := q) (by simp [hbt])
                rw [← HG.out] at hnn
                have HN := Lib.hid hnn
                have HB := Lib.hid hbt
                clear hcall hnn hbt
                go_wp2_with (go_at_call 14; refine (HCa.out).mono ?_; rintro e w' ⟨rfl, rfl⟩)
                go_roundw
                case rel =>
                  refine ⟨q + 1, out, by omega, by go_num, by rw [HN.out]; omega, hown, HR.out.congr fun j _ => ?_, by rw [HN.out]; exact hgot, hbel, hsz⟩
                  by_cases hjq : j = q
                  · subst hjq; simp [HB.out]
                  · rw [show decide (j < q + 1) = decide (j < q) from decide_eq_decide.2 (by omega)]
                case measure => simp [intOf]; omega
              · have hcall : Calls Try.prog 14 #[.slice (some ⟨w.heap.size, 0, none⟩) (sz (N : Int)) (sz (N : Int)), .int .i64 (q : Int)] wr fun e w' => e = .returned (.bool false) ∧ wr = w' :=
                  has_false hob HL.out.symm (by rw [HL.out]; omega) (by omega) (by rw [HBQ.out, hbt])
                have HCa := Lib.hid hcall
                have hnn := nums_yes (p := fun j => !bit bs j) (k := q) (by simp [hbt])
                rw [← HG.out] at hnn
                have HN := Lib.hid hnn
                have HB := Lib.hid hbt
                clear hcall hnn hbt
                have hqI : (q : Int) / 8 < (sz (N : Int) : Int) := by omega
                go_wp2_with (go_at_call 14; refine (HCa.out).mono ?_; rintro e w' ⟨rfl, rfl⟩)
                go_region
                have hp : (2 ^ (q % 8) % 256 : Int) = ((2 ^ (q % 8) : Nat) : Int) := pow_mod8 q
                rw [hp, or_of x (q % 8) (by omega)]
                have hst := set_row hown HR.out (q := q) (by omega) true (UInt8.ofNat (x.toNat ||| 2 ^ (q % 8))) (fun r hr => by rw [set_or x (q % 8) r (by omega), ← HX.out])
                obtain ⟨o1, o2, o3⟩ := hst
                have hB2 := (hbel.grown o2 (by omega) (fun g hg => by injection hg with hg; omega)).drew
                have hgot2 : (wr.setCell ⟨w.heap.size, q / 8, none⟩ (.int .u8 ((UInt8.ofNat (x.toNat ||| 2 ^ (q % 8))).toNat : Int))).drew.ownsRow w1.heap.size 3 1 (.slice V G.length C') G.length (G.map i64) := (ownsRow_setCell_below hgot (by exact hg0) _).drew
                have hsz2 : w1.heap.size ≤ (wr.setCell ⟨w.heap.size, q / 8, none⟩ (.int .u8 ((UInt8.ofNat (x.toNat ||| 2 ^ (q % 8))).toNat : Int))).drew.heap.size := Nat.le_trans hsz o2.size
                replace o1 := o1.drew
                generalize (wr.setCell ⟨w.heap.size, q / 8, none⟩ (.int .u8 ((UInt8.ofNat (x.toNat ||| 2 ^ (q % 8))).toNat : Int))).drew = w2 at o1 hB2 hgot2 hsz2 ⊢
                clear hown hcx hfz hgot o2 hp hob hbel
                have HO3 := Lib.hid o3
                clear o3
                go_wp2_with (at_builtin; refine wpList_append_own _ rfl _ _ 24 rfl w1.heap.size 3 i0 (.int .i64 0) 1 8 Try.underlying24 hi hz0 hz1 hz2 rfl (by decide) _ _ _ rfl (hgot2.alloc _) ⟨w2.heap.size, 0, none⟩ 1 1 [.int .i64 (q : Int)] rfl rfl ?c1 ?c2 ?c3 ?c4 ?c5 ?_)
                case c1 =>
                  intro j u hj
                  match j, hj with
                  | 0, hj => simp at hj; subst hj; simp [Addr.add]
                case c2 => intro u hu; simp at hu; subst hu; rfl
                case c3 => unfold maxLen; omega
                case c4 => omega
                case c5 => simp; omega
                intro v' w3 hgot3 hgrow _
                have hR : w3.ownsRow w1.heap.size 3 1 v' (nums (fun j => !bit bs j) (q + 1)).length ((nums (fun j => !bit bs j) (q + 1)).map i64) := by rw [HN.out]; simpa [i64] using hgot3
                have hlt3 := hgot2.lt
                have hB3 : Below w.heap.size w w3 := (hB2.alloc hB2.size _).grown hgrow (by have := hB2.size; simp; omega) (fun g hg => by have := (hlt3 g hg).1; omega)
                have ho3 : w3.ownsRow w.heap.size 5 1 (.slice (some ⟨w.heap.size, 0, none⟩) (sz (N : Int)) (sz (N : Int))) (sz (N : Int)) _ := (o1.alloc _).kept hgrow (.inr (fun e => by have := (hlt3 w.heap.size e.symm).1; omega))
                have hsz3 : w1.heap.size ≤ w3.heap.size := Nat.le_trans (by simp; omega) hgrow.size
                clear hgot3 hgrow hgot2 o1 hB2 hlt3
                go_wp2
                go_roundw
                case rel =>
                  refine ⟨q + 1, _, by omega, by go_num, by rw [HN.out]; simp; omega, ho3, HO3.out.congr fun j _ => ?_, hR, hB3, hsz3⟩
                  by_cases hjq : j = q
                  · subst hjq; simp
                  · rw [if_neg hjq, show decide (j < q + 1) = decide (j < q) from decide_eq_decide.2 (by omega)]
                case measure => simp [intOf]; omega
          · obtain rfl : q = N := by omega
            have hGK : G.length = K := by
              have := HF.out
              unfold free at this
              simp only [Int.toNat_natCast] at this
              rw [← HG.out] at this
              omega
            have HGK := Lib.hid hGK
            clear hGK
            obtain ⟨B, d, rfl, hsee⟩ := own_form hgot
            go_wp2
            first | (rw [Exit.noGoto_ret]; go_ret3) | go_ret3
            exact ⟨out, G, 0, _, _, B, d, HFin.out HGK.out, ret_slice3 (by rw [HL.out]), Sees.of_own hown, hsee, hbel⟩
  · go_enter Try.func8, Try.ntmps8; go_wp2_with fail; go_step3
    go_wp2_with (go_at_call 23; refine (fits_not hb rfl hm h).mono ?_; rintro e w' ⟨rfl, rfl⟩)
    first | (rw [Exit.noGoto_ret]; go_ret3) | go_ret3
    exact ⟨[], [], 4, none, 0, none, 0, .inl ⟨h, rfl, rfl, rfl⟩, rfl, Bytes.nil_, Ints.nil_, Below.refl _ _⟩
end Go.Proofs.Ytddmffdnookdlaa
