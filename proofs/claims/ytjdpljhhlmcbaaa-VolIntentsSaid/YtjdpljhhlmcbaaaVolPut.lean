/- The contract of vol.Put. Condition: keys and versions within their types, lengths within a slice's. -/
import Derived.Test.YtjdpljhhlmcbaaaVolCheckP
import Derived.Test.YtjdpljhhlmcbaaaFixPutT
import Derived.Deep.DeepCutAuto
namespace Go.Cat.Vol
open Go.RowKit Go.Cat
/-- The bytes of a patch, of patches. -/
def encP (p : Pv) : List UInt8 := be p.key.toNat 4 ++ (be p.ver.toNat 8 ++ (be p.b.length 2 ++ p.b))
def encTo (l : List Pv) (k : Nat) : List UInt8 := be l.length 1 ++ (l.take k).flatMap encP
def encs (l : List Pv) : List UInt8 := be l.length 1 ++ l.flatMap encP
theorem encP_length (p : Pv) : (encP p).length = 14 + p.b.length := by unfold encP; simp only [List.length_append, be_length]; omega
theorem encTo_succ {l : List Pv} {k : Nat} (h : k < l.length) : encTo l (k + 1) = encTo l k ++ encP l[k] := by
  unfold encTo
  rw [List.take_succ_eq_append_getElem h, List.flatMap_append, List.append_assoc]
  simp
theorem encTo_all (l : List Pv) : encTo l l.length = encs l := by unfold encTo encs; rw [List.take_length]
theorem encTo_le {l : List Pv} (h : ∀ p ∈ l, p.b.length ≤ 64) : ∀ k, k ≤ l.length → (encTo l k).length ≤ 1 + k * 78
  | 0, _ => by unfold encTo; simp [be_length]
  | k + 1, hk => by
    have h1 := encTo_le h k (by omega)
    have h2 := h l[k] (List.getElem_mem _)
    rw [encTo_succ hk, List.length_append, encP_length]
    omega
open Classical in
noncomputable def putV (I B : Int) (l : List Pv) : List UInt8 × Int := if checkV I B l ≠ 0 ∨ l = [] then ([], checkV I B l) else (encs l, 0)
theorem putV_no {I B : Int} {l : List Pv} (h : checkV I B l ≠ 0 ∨ l = []) : putV I B l = ([], checkV I B l) := by unfold putV; rw [if_pos h]
theorem putV_yes {I B : Int} {l : List Pv} (h : checkV I B l = 0) (h2 : l ≠ []) : putV I B l = (encs l, 0) := by
  unfold putV; rw [if_neg]
  rintro (e | e)
  · exact e h
  · exact h2 e
theorem least {P : Nat → Prop} : ∀ m, P m → ∃ k, P k ∧ ∀ i, i < k → ¬ P i := by
  intro m
  induction m using Nat.strongRecOn with
  | _ m ih =>
    intro hm
    by_cases h : ∃ i, i < m ∧ P i
    · obtain ⟨i, hi, hp⟩ := h
      exact ih i hi hp
    · exact ⟨m, hm, fun i hi hp => h ⟨i, hi, hp⟩⟩
theorem check_zero {I B : Int} {l : List Pv} (h : checkV I B l = 0) : rightP I B ∧ l.length ≤ 20 ∧ Fine I B l l.length := by
  by_cases h1 : rightP I B
  · by_cases h2 : 20 < l.length
    · rw [check_full h1 h2] at h; cases h
    · refine ⟨h1, by omega, fun j hj => Classical.byContradiction fun hb => ?_⟩
      obtain ⟨m, hm1, hm2⟩ : ∃ m, badAt I B l m ≠ 0 ∧ ∀ i, i < m → badAt I B l i = 0 := by
        obtain ⟨m, h3, h4⟩ := least (P := fun m => badAt I B l m ≠ 0) j hb
        exact ⟨m, h3, fun i hi => Classical.byContradiction fun e => h4 i hi e⟩
      have hml : m < l.length := by
        rcases Nat.lt_or_ge m l.length with h3 | h3
        · exact h3
        · exact absurd (hm2 j (by omega)) hb
      rw [check_bad h1 h2 hml hm2 rfl hm1] at h
      exact hm1 h
  · rw [check_no h1] at h; cases h
end Go.Cat.Vol
namespace Go.Proofs.Ytjdpljhhlmcbaaa
open Go.RowKit Go.Cat Go.Cat.Vol

/-- What Put tells. -/
def ToldPut (r : List UInt8 × Int) (w : World) (e : Ending) (w' : World) : Prop := ∃ A c, e = .returned (.tuple #[.slice A r.1.length c, .int .i64 r.2]) ∧ Bytes w' A r.1 ∧ Below w.heap.size w w'

theorem boxed2p {w w1 : World} {a b : Value} {t : TypeId} (h : Below (w.alloc (.cells #[a, b] t)).heap.size (w.alloc (.cells #[a, b] t)) w1) :
    w1.heap[w.heap.size]? = some (.cells #[a, b] t (0, 0)) ∧ Below w.heap.size w w1 :=
  ⟨(h.block w.heap.size (by simp)).trans (heap_alloc_new w _), ((Below.refl _ _).alloc (Nat.le_refl _) _).trans (h.mono (by simp))⟩
theorem upd_box {g H : Nat} {w w' : World} {a b c : Value} (hu : OutU g w w') (h : w.heap[H]? = some (.cells #[a, b, c] 80 (0, 0))) : w'.heap[H]? = some (.cells #[a, b, c] 80 (0, 0)) := by
  refine (hu.block H (Array.getElem?_eq_some_iff.1 h).1 (.inr fun cs e fr he => ?_)).trans h
  rw [h] at he
  injection he with he
  injection he with _ he
  subst he
  decide

set_option maxRecDepth 100000 in
set_option maxHeartbeats 2000000 in
theorem vput_any (I B : Int) (A : Option Addr) (rs : List Pr) (c : Nat) (w : World) (hp : Pats w A rs) (hin : ∀ r ∈ rs, PvK r.1) :
    Calls Try.prog 19 #[.agg #[.int .i64 I, .int .i64 B], .slice A rs.length c] w (ToldPut (putV I B (rs.map (·.1))) w) := by
  have hbx := (Below.refl w.heap.size w).alloc (Nat.le_refl _) (.cells #[.int .i64 I, .int .i64 B] 25)
  have P1 := vcheck_any I B A rs c (w.alloc (.cells #[.int .i64 I, .int .i64 B] 25)) (hp.below hbx).row hin
  obtain ⟨l, hl⟩ : ∃ l, l = rs.map (·.1) := ⟨_, rfl⟩
  rw [← hl] at P1 ⊢
  obtain ⟨z, hz⟩ : ∃ z, z = checkV I B l := ⟨_, rfl⟩
  rw [← hz] at P1
  obtain ⟨n, hn⟩ : ∃ n, n = rs.length := ⟨_, rfl⟩
  have hll : l.length = n := by rw [hl, hn]; simp
  rw [← hn] at P1 ⊢
  have HP1 := Lib.hid P1
  by_cases h0 : z = 0
  · have t0 : (z != 0) = false := by simpa using h0
    by_cases hn0 : n = 0
    · have t1 : ((n : Int) == 0) = true := by simp [hn0]
      have hv : putV I B l = ([], z) := by rw [hz]; exact putV_no (.inr (List.eq_nil_of_length_eq_zero (by rw [hll, hn0])))
      rw [hv]
      clear P1 hl hz hn hll hp hin h0 hn0 hv hbx
      go_enter Try.func19, Try.ntmps19
      go_wp2_with fail
      refine (HP1.out).mono ?_
      rintro e w1 ⟨rfl, hB1⟩
      obtain ⟨_, hB2⟩ := boxed2p hB1
      go_wp2
      go_ret2
      exact ⟨none, 0, rfl, .inl rfl, hB2⟩
    · have t1 : ((n : Int) == 0) = false := by simpa using hn0
      have hck : checkV I B l = 0 := by rw [← hz]; exact h0
      obtain ⟨hr, h20, hf⟩ := check_zero hck
      have hv : putV I B l = (encs l, 0) := putV_yes hck (by intro e; rw [e] at hll; exact hn0 hll.symm)
      have h64 : ∀ p ∈ l, p.b.length ≤ 64 := by
        intro p hp
        obtain ⟨i, hi, rfl⟩ := List.getElem_of_mem hp
        exact (fine_keys (k := i) (fun j hj => hf j (by omega)) (List.getElem?_eq_getElem hi)).2
      have hlen := encTo_le h64
      have hall := encTo_all l
      rw [hv, ← hall, hll]
      rw [hll] at h20 hlen
      have enc0 : encTo l 0 = be n 1 := by unfold encTo; rw [hll]; simp
      have hwn : IntKind.u64.wrap (n : Int) = (n : Int) := IntWalk.u64_in _ (by omega)
      have HL := Lib.hid hl
      have HN := Lib.hid hn
      have HLL := Lib.hid hll
      have HP := Lib.hid hp
      have HIn := Lib.hid hin
      have HLen := Lib.hid hlen
      have H64 := Lib.hid h64
      have HE0 := Lib.hid enc0
      clear P1 hl hz hn hll hp hin h0 hv hbx hck hr hf h64 hlen hall enc0
      go_enter Try.func19, Try.ntmps19
      go_wp2_with fail
      refine (HP1.out).mono ?_
      rintro e w1 ⟨rfl, hB1⟩
      obtain ⟨_, hB2⟩ := boxed2p hB1
      have HB2 := Lib.hid hB2
      have P2 := onew_any 2048 w1 (by omega)
      have HP2 := Lib.hid P2
      clear hB1 hB2 P2 HP1
      go_wp2_with fail
      refine (HP2.out).mono ?_
      rintro e w2 ⟨rfl, ho2, hB3⟩
      obtain ⟨g, hg⟩ : ∃ g, g = w1.heap.size := ⟨_, rfl⟩
      rw [← hg] at ho2 ⊢
      have hwg : w.heap.size ≤ g := by rw [hg]; exact HB2.out.size
      have hBw : Below w.heap.size w w2 := HB2.out.trans (hB3.mono HB2.out.size)
      have P3 := onum_ok g [] n 1 2048 w2 ho2 (by omega) (by omega) (by omega) (by simp) (by omega)
      have HP3 := Lib.hid P3
      have HBw := Lib.hid hBw
      have hgl2 := ho2.lt
      clear ho2 hB3 hBw P3 HP2 HB2 hg
      go_wp2_with fail
      refine (HP3.out).mono ?_
      rintro e w3 ⟨⟨v3, rfl⟩, ho3, hu3⟩
      have hB3 : Below w.heap.size w w3 := HBw.out.trans ((hu3.below (by omega : g ≤ w2.heap.size)).mono hwg)
      have ho3' : OutF g (encTo l 0) 2048 w3 := by rw [HE0.out]; exact ho3
      have HO3 := Lib.hid ho3'
      have HB3 := Lib.hid hB3
      clear ho3 hu3 hB3 ho3' HP3 HBw HE0
      go_wp2_with fail
      go_loopw [29] (fun iv wr => ∃ k : Nat, k ≤ n ∧ iv = .int .i64 k ∧ Hid (OutF g (encTo l k) 2048 wr) ∧ Hid (Below w.heap.size w wr)) (fun iv _ => n - (intOf iv).toNat)
      case atStart => exact ⟨0, Nat.zero_le _, rfl, HO3.out, HB3.out⟩
      case round =>
        clear HO3 HB3
        obtain ⟨k, hk, rfl, HO, HB⟩ := hrel
        by_cases hlt : k < n
        · have hko : k < rs.length := by rw [← HN.out]; exact hlt
          obtain ⟨b, off, hAo, hbs, hc⟩ := HP.out.row.elem (f := pcells) (k := 3) (fun _ => rfl) (by omega) (by omega)
          obtain ⟨p, hp⟩ : ∃ p, p = rs[k] := ⟨_, rfl⟩
          have hin : PvK p.1 := HIn.out p (by rw [hp]; exact List.getElem_mem _)
          have hby : Bytes w p.2.1 p.1.b := HP.out.each p (by rw [hp]; exact List.getElem_mem _)
          have hkl : k < l.length := by rw [HLL.out]; exact hlt
          have hlk : l[k] = p.1 := by
            have : l[k]? = some p.1 := by rw [HL.out, List.getElem?_map, List.getElem?_eq_getElem hko, hp]; rfl
            rw [List.getElem?_eq_getElem hkl] at this
            injection this
          have hpl : p.1.b.length ≤ 64 := H64.out p.1 (by rw [← hlk]; exact List.getElem_mem _)
          have hnext : encTo l (k + 1) = encTo l k ++ (be p.1.key.toNat 4 ++ (be p.1.ver.toNat 8 ++ (be p.1.b.length 2 ++ p.1.b))) := by rw [encTo_succ hkl, hlk]; rfl
          have hlenk := HLen.out k hk
          have hk77 : (encTo l k).length ≤ 1500 := by omega
          have bel := HB.out
          have e0 := (bel.cell (p := ⟨b, _, none⟩) hbs).trans (hc k hko 0 (by omega))
          have e1 := (bel.cell (p := ⟨b, _, none⟩) hbs).trans (hc k hko 1 (by omega))
          have e2 := (bel.cell (p := ⟨b, _, none⟩) hbs).trans (hc k hko 2 (by omega))
          rw [← hp] at e0 e1 e2
          replace e0 : wr.cell? ⟨b, off + k * 3, none⟩ = some (.int .u32 p.1.key) := e0
          replace e1 : wr.cell? ⟨b, off + k * 3 + 1, none⟩ = some (.int .u64 p.1.ver) := by rw [Nat.add_assoc]; exact e1
          replace e2 : wr.cell? ⟨b, off + k * 3 + 2, none⟩ = some (.slice p.2.1 p.1.b.length p.2.2) := by rw [Nat.add_assoc]; exact e2
          obtain ⟨key, hkey⟩ : ∃ key : Nat, p.1.key = (key : Int) := ⟨p.1.key.toNat, by have := hin.key0; omega⟩
          obtain ⟨ver, hver⟩ : ∃ ver : Nat, p.1.ver = (ver : Int) := ⟨p.1.ver.toNat, by have := hin.ver0; omega⟩
          rw [hkey] at e0
          rw [hver] at e1
          rw [hkey, hver, Int.toNat_natCast, Int.toNat_natCast] at hnext
          have hkb : key < 4294967296 := by have := hin.key1; omega
          have hvb : ver < 18446744073709551616 := by have := hin.ver1; omega
          have hwk : IntKind.u64.wrap (key : Int) = (key : Int) := IntWalk.u64_in _ (by omega)
          obtain ⟨len, hlen⟩ : ∃ len, len = p.1.b.length := ⟨_, rfl⟩
          rw [← hlen] at e2 hpl hnext
          have hkI : (k : Int) < (n : Int) := by omega
          have hk0 : (0 : Int) ≤ (k : Int) := by omega
          obtain ⟨J, hJ⟩ : ∃ J, J = wr.heap.size := ⟨_, rfl⟩
          obtain ⟨W1, hW1⟩ : ∃ W1, W1 = wr.alloc (.cells #[.int .u32 key, .int .u64 ver, .slice p.2.1 len p.2.2] 80) := ⟨_, rfl⟩
          have hb1 : Below wr.heap.size wr W1 := by rw [hW1]; exact (Below.refl _ _).alloc (Nat.le_refl _) _
          have hJ1 : W1.heap[J]? = some (.cells #[.int .u32 key, .int .u64 ver, .slice p.2.1 len p.2.2] 80 (0, 0)) := by rw [hW1, hJ]; exact heap_alloc_new _ _
          have hB1 : Below w.heap.size w W1 := bel.trans (hb1.mono bel.size)
          have ho1 := HO.out.below hb1
          have HJ := Lib.hid hJ
          have HW1 := Lib.hid hW1
          have HJ1 := Lib.hid hJ1
          have HB1 := Lib.hid hB1
          have HO1 := Lib.hid ho1
          have HNext := Lib.hid hnext
          have HLe := Lib.hid hlen
          have HBy := Lib.hid hby
          rw [hAo]
          clear hp hc hin hAo hbs hkl hlk hJ hW1 hb1 hJ1 hB1 ho1 hnext hlenk bel hlen hby hko hkey hver
          go_upto_region 9 with (fail)
          rw [← HW1.out, ← HJ.out]
          clear e0 e1 e2 HJ HW1 HO
          have x0 : W1.cell? ⟨J, 0, none⟩ = some (.int .u32 key) := cell_of_row W1 J 0 _ _ _ HJ1.out
          have p4 := onum_ok g (encTo l k) key 4 2048 W1 HO1.out (by omega) (by omega) (by omega) (by omega) (by omega)
          have P4 := Lib.hid p4
          clear p4
          go_wp2_with fail
          refine (P4.out).mono ?_
          rintro e w5 ⟨⟨v5, rfl⟩, ho5, hu5⟩
          have hJ5 := upd_box hu5 HJ1.out
          have hB5 : Below w.heap.size w w5 := HB1.out.trans ((hu5.below (Nat.le_of_lt HO1.out.lt)).mono hwg)
          have x1 : w5.cell? ⟨J, 1, none⟩ = some (.int .u64 ver) := cell_of_row w5 J 1 _ _ _ hJ5
          have p5 := onum_ok g (encTo l k ++ be key 4) ver 8 2048 w5 ho5 (by omega) (by omega) (by omega) (by rw [List.length_append, be_length]; omega) (by omega)
          have P5 := Lib.hid p5
          have HJ5 := Lib.hid hJ5
          have HB5 := Lib.hid hB5
          have hgl5 := ho5.lt
          clear p5 ho5 hu5 hJ5 hB5 P4 HO1 HJ1 HB1
          go_wp2_with fail
          refine (P5.out).mono ?_
          rintro e w6 ⟨⟨v6, rfl⟩, ho6, hu6⟩
          have hJ6 := upd_box hu6 HJ5.out
          have hB6 : Below w.heap.size w w6 := HB5.out.trans ((hu6.below (Nat.le_of_lt hgl5)).mono hwg)
          have x2 : w6.cell? ⟨J, 2, none⟩ = some (.slice p.2.1 len p.2.2) := cell_of_row w6 J 2 _ _ _ hJ6
          have p6 := otext_ok g (encTo l k ++ be key 4 ++ be ver 8) p.1.b 2048 p.2.1 p.2.2 w6 ho6 (HBy.out.below hB6) (by rw [List.length_append, List.length_append, be_length, be_length, ← HLe.out]; omega) (by omega) (by rw [← HLe.out]; omega)
          rw [← HLe.out] at p6
          have P6 := Lib.hid p6
          have HB6 := Lib.hid hB6
          have hgl6 := ho6.lt
          clear p6 ho6 hu6 hJ6 hB6 P5 HJ5 HB5
          go_wp2_with fail
          refine (P6.out).mono ?_
          rintro e w7 ⟨⟨v7, rfl⟩, ho7, hu7⟩
          have hB7 : Below w.heap.size w w7 := HB6.out.trans ((hu7.below (Nat.le_of_lt hgl6)).mono hwg)
          have ho8 : OutF g (encTo l (k + 1)) 2048 w7 := by
            rw [HNext.out]
            simpa [List.append_assoc] using ho7
          have HO8 := Lib.hid ho8
          have HB7 := Lib.hid hB7
          clear ho7 hu7 ho8 hB7
          go_wp2_with fail
          go_roundw
          case rel => exact ⟨k + 1, by omega, by go_num, HO8.out, HB7.out⟩
          case measure => simp [intOf]; omega
        · obtain rfl : k = n := by omega
          have hkI : decide ((k : Int) < (k : Int)) = false := by simp
          have hlenk := HLen.out k hk
          have P4 := Lib.hid (odone_ok g (encTo l k) 2048 wr HO.out (by omega))
          clear hlenk
          go_wp2_with fail
          refine (P4.out).mono ?_
          rintro e w9 ⟨A9, c9, rfl, ho9, hB9⟩
          have hfin := HB.out.trans (hB9.mono HB.out.size)
          have hs : Bytes w9 A9 (encTo l k) := Sees.of_own ho9
          have HF := Lib.hid hfin
          have HS := Lib.hid hs
          clear ho9 hB9 hfin hs
          go_wp2_with fail
          go_ret2
          exact ⟨A9, c9, rfl, HS.out, HF.out⟩
  · have t0 : (z != 0) = true := by simpa using h0
    have hv : putV I B l = ([], z) := by rw [hz]; exact putV_no (.inl (by rw [← hz]; exact h0))
    rw [hv]
    clear P1 hl hz hn hll hp hin h0 hv hbx
    go_enter Try.func19, Try.ntmps19
    go_wp2_with fail
    refine (HP1.out).mono ?_
    rintro e w1 ⟨rfl, hB1⟩
    obtain ⟨_, hB2⟩ := boxed2p hB1
    go_wp2
    go_ret2
    exact ⟨none, 0, rfl, .inl rfl, hB2⟩
end Go.Proofs.Ytjdpljhhlmcbaaa
