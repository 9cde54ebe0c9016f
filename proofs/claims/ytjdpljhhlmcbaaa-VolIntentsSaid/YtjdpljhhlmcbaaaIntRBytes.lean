/- The contract of the reference's Bytes at 40 patches or fewer. Condition: keys, versions and bytes that fit. -/
import Derived.Test.YtjdpljhhlmcbaaaIntOurs
import Derived.Test.YtjdpljhhlmcbaaaRefPutO
namespace Go.Cat.Vol
open Go.RowKit Go.Cat
/-- The reference's bytes of patches. -/
def bytesP (l : List Pv) : List UInt8 := if l = [] then [] else encs l
theorem encTo_zero (l : List Pv) : encTo l 0 = be l.length 1 := by unfold encTo; simp
end Go.Cat.Vol
namespace Go.Proofs.Ytjdpljhhlmcbaaa
open Go.RowKit Go.Cat Go.Cat.Vol

/-- Bytes in new memory. -/
def ToldBy (b : List UInt8) (w : World) (e : Ending) (w' : World) : Prop := ∃ A c, e = .returned (.slice A b.length c) ∧ Bytes w' A b ∧ Below w.heap.size w w'

set_option maxRecDepth 100000 in
set_option maxHeartbeats 4000000 in
theorem rpbytes_any (A : Option Addr) (rs : List Pr) (c : Nat) (w : World) (hp : Pats w A rs) (hn : rs.length ≤ 40) (hf : ∀ r ∈ rs, Fits r.1) :
    Calls Try.prog 28 #[.slice A rs.length c] w (ToldBy (bytesP (rs.map (·.1))) w) := by
  by_cases h0 : rs.length = 0
  · have hrs : rs = [] := List.eq_nil_of_length_eq_zero h0
    subst hrs
    clear hp hn hf h0
    show Calls Try.prog 28 #[.slice A 0 c] w _
    go_enter Try.func28, Try.ntmps28
    go_wp2_with fail
    go_ret
    exact ⟨none, 0, rfl, .inl rfl, Below.refl _ _⟩
  · have hne : rs.map (·.1) ≠ [] := fun e => h0 (by have := congrArg List.length e; simpa using this)
    have hb : bytesP (rs.map (·.1)) = encTo (rs.map (·.1)) (rs.map (·.1)).length := by unfold bytesP; rw [if_neg hne, encTo_all]
    have hsucc : ∀ (k : Nat) (hk : k < rs.length), encTo (rs.map (·.1)) (k + 1) = encTo (rs.map (·.1)) k ++ encP rs[k].1 := fun k hk => by
      have := encTo_succ (l := rs.map (·.1)) (k := k) (by rw [List.length_map]; exact hk)
      rw [List.getElem_map] at this
      exact this
    have hle := fun (k : Nat) (hk : k ≤ rs.length) => encTo_le (l := rs.map (·.1)) (fun p hp' => by obtain ⟨r, hr, rfl⟩ := List.mem_map.1 hp'; exact (hf r hr).2.2.2.2) k (by rw [List.length_map]; exact hk)
    have hz := encTo_zero (rs.map (·.1))
    rw [List.length_map] at hz hb
    obtain ⟨L, hL⟩ : ∃ L, L = rs.map (·.1) := ⟨_, rfl⟩
    rw [← hL] at hb hsucc hle hz ⊢
    obtain ⟨n, hnn⟩ : ∃ n, n = rs.length := ⟨_, rfl⟩
    have HN := Lib.hid hnn
    rw [← hnn] at hn h0 hb hz ⊢
    have HP := Lib.hid hp
    have HF := Lib.hid hf
    have HBy := Lib.hid hb
    have HSu := Lib.hid hsucc
    have HLe := Lib.hid hle
    have hbe : be n 1 = [UInt8.ofNat n] := by show be (n / 256) 0 ++ [UInt8.ofNat (n % 256)] = _; rw [Nat.mod_eq_of_lt (by omega)]; rfl
    have h8 : Value.int .u8 (n : Int) = by8 (UInt8.ofNat n) := by unfold by8; rw [UInt8.toNat_ofNat', Nat.mod_eq_of_lt (by omega)]
    have hw8 : IntKind.u8.wrap (n : Int) = (n : Int) := IntWalk.u8_in _ (by omega)
    have hown0 : (w.alloc (.cells #[.int .u8 (n : Int)] 5)).ownsRow w.heap.size 5 1 (.slice (some ⟨w.heap.size, 0, none⟩) 1 1) 1 ((encTo L 0).map by8) := by
      rw [hz, hbe, List.map_cons, List.map_nil, ← h8]
      exact own_of_block' (Nat.le_refl _) (heap_alloc_new _ _) rfl (by unfold maxLen; omega)
    have hlen0 : 1 = (encTo L 0).length := by rw [hz, be_length]
    have HO0 := Lib.hid hown0
    have HL0 := Lib.hid hlen0
    have d0 : ((n : Int) == 0) = false := by rw [beq_eq_false_iff_ne]; omega
    have d0' : (n == 0) = false := by simpa using h0
    clear hp hf hb hsucc hle hz hnn hbe h8 hown0 hlen0 hne
    go_enter Try.func28, Try.ntmps28
    go_wp2_with fail
    go_loopg [3, 4] n (fun kx ov iv wr => ∃ (k len : Nat) (A2 : Option Addr) (c2 : Nat), k ≤ n ∧ n - k ≤ kx ∧ iv = .int .i64 k ∧ ov = .slice A2 len c2 ∧ len ≤ 4000 ∧ Hid (len = (encTo L k).length) ∧ Hid (wr.ownsRow w.heap.size 5 1 (.slice A2 len c2) len ((encTo L k).map by8)) ∧ Hid (Below w.heap.size w wr))
    case atStart => exact ⟨0, 1, _, 1, Nat.zero_le _, by omega, rfl, rfl, by omega, HL0.out, HO0.out, (Below.refl _ _).alloc (Nat.le_refl _) _⟩
    case round =>
      clear HO0 HL0
      obtain ⟨k, len, A2, c2, hk, hkx, rfl, rfl, hlen, HL, HO, HB⟩ := hrel
      by_cases hlt : k < n
      · have t1 : decide ((k : Int) < (n : Int)) = true := by simp; omega
        have hkl : k < rs.length := by have := HN.out; omega
        have hsu := HSu.out k hkl
        have hle1 := HLe.out (k + 1) (by omega)
        obtain ⟨b, off, hA, hbl, q0, q1, q2⟩ := prows_at HP.out.row hkl
        have hby := HP.out.each rs[k] (List.getElem_mem hkl)
        obtain ⟨f1, f2, f3, f4, f5⟩ := HF.out rs[k] (List.getElem_mem hkl)
        obtain ⟨p, hpk⟩ : ∃ p, p = rs[k] := ⟨_, rfl⟩
        rw [← hpk] at q0 q1 q2 hby f1 f2 f3 f4 f5 hsu
        obtain ⟨⟨key, ver, bs⟩, D, cc⟩ := p
        simp only at q0 q1 q2 hby f1 f2 f3 f4 f5
        obtain ⟨kn, rfl⟩ : ∃ kn : Nat, key = (kn : Int) := ⟨key.toNat, by omega⟩
        obtain ⟨vn, rfl⟩ : ∃ vn : Nat, ver = (vn : Int) := ⟨ver.toNat, by omega⟩
        have hsu2 : encTo L (k + 1) = encTo L k ++ (be kn 4 ++ (be vn 8 ++ (be bs.length 2 ++ bs))) := by rw [hsu]; unfold encP; rw [Int.toNat_natCast, Int.toNat_natCast]
        have hlen2 : len + 4 + 8 + (2 + bs.length) = (encTo L (k + 1)).length := by
          rw [hsu2, List.length_append, List.length_append, List.length_append, List.length_append, be_length, be_length, be_length, ← HL.out]; omega
        have P1 := fun W => rbig_ok kn 4 W (by omega) (by omega) (by omega) (by omega)
        have P2 := fun W => rbig_ok vn 8 W (by omega) (by omega) (by omega) (by omega)
        have P3 := fun W (h : Below w.heap.size w W) => rtxt_ok D bs cc W (hby.below h) (by omega)
        unfold ToldBe1 at P1 P2
        unfold ToldTx at P3
        have HSu2 := Lib.hid hsu2
        have HLen2 := Lib.hid hlen2
        have HLe1 := Lib.hid hle1
        obtain ⟨m, hm⟩ : ∃ m, m = bs.length := ⟨_, rfl⟩
        have HM := Lib.hid hm
        rw [← hm] at P3 q2 HLen2 f5
        have HQ : Hid (∀ W, Below w.heap.size w W → W.cell? ⟨b, off + k * 3, none⟩ = some (.int .u32 (kn : Int)) ∧ W.cell? ⟨b, off + k * 3 + 1, none⟩ = some (.int .u64 (vn : Int)) ∧ W.cell? ⟨b, off + k * 3 + 2, none⟩ = some (.slice D m cc)) := fun W h => ⟨(h.cell (p := ⟨b, off + k * 3, none⟩) hbl).trans q0, (h.cell (p := ⟨b, off + k * 3 + 1, none⟩) hbl).trans q1, (h.cell (p := ⟨b, off + k * 3 + 2, none⟩) hbl).trans q2⟩
        obtain ⟨z0, _, _⟩ := HQ.out wr HB.out
        have HP1 := Lib.hid P1
        have HP2 := Lib.hid P2
        have HP3 := Lib.hid P3
        have hkI : (k : Int) < (n : Int) := by omega
        have hk0 : (0 : Int) ≤ (k : Int) := by omega
        have hwk : IntKind.u64.wrap (kn : Int) = (kn : Int) := by rw [IntKind.wrap_u64]; omega
        have HX4 : Hid (((be kn 4).map by8).length = 4 * 1) := by show _ = _; rw [List.length_map, be_length]
        have HX8 : Hid (((be vn 8).map by8).length = 8 * 1) := by show _ = _; rw [List.length_map, be_length]
        have HXt : Hid (((be bs.length 2 ++ bs).map by8).length = (2 + m) * 1) := by show _ = _; rw [List.length_map, List.length_append, be_length, HM.out, Nat.mul_one]
        subst hA
        clear hsu hsu2 hlen2 hle1 hpk hby hm P1 P2 P3 hkl q0 q1 q2 hbl
        go_wp2_with fail
        refine (HP1.out _).mono ?_
        rintro e w1 ⟨A3, c3, rfl, hb3, hB3⟩
        have HB3 := Lib.hid (HB.out.trans (hB3.mono HB.out.size))
        have HO3 := Lib.hid (own_touch HO.out (Tch.of_below (K := fun _ => False) hB3) fun _ _ h => h)
        clear hB3
        go_wp2_with (at_builtin; refine wpList_app elem_u8 rfl _ _ rfl w.heap.size (.slice A2 len c2) len ((encTo L k).map by8) rfl HO3.out A3 4 c3 ((be kn 4).map by8) rfl hb3 HX4.out (one_by8 _) (by omega) HB3.out.size ?_; intro v4 w4 ho4 hg4 _; obtain ⟨A4, c4, rfl, _, _⟩ := own_full ho4; have HB4 := Lib.hid (HB3.out.own HO3.out hg4 HB3.out.size (Nat.le_refl _)); have HO4 := Lib.hid ho4; obtain ⟨_, z1, _⟩ := HQ.out w4 HB4.out; clear ho4 hg4)
        refine (HP2.out _).mono ?_
        rintro e w5 ⟨A5, c5, rfl, hb5, hB5⟩
        have HB5 := Lib.hid (HB4.out.trans (hB5.mono HB4.out.size))
        have HO5 := Lib.hid (own_touch HO4.out (Tch.of_below (K := fun _ => False) hB5) fun _ _ h => h)
        clear hB5 HO4 HO3
        go_wp2_with (at_builtin; refine wpList_app elem_u8 rfl _ _ rfl w.heap.size (.slice A4 (len + 4) c4) (len + 4) ((encTo L k).map by8 ++ (be kn 4).map by8) rfl HO5.out A5 8 c5 ((be vn 8).map by8) rfl hb5 HX8.out (one_by8 _) (by omega) HB5.out.size ?_; intro v6 w6 ho6 hg6 _; obtain ⟨A6, c6, rfl, _, _⟩ := own_full ho6; have HB6 := Lib.hid (HB5.out.own HO5.out hg6 HB5.out.size (Nat.le_refl _)); have HO6 := Lib.hid ho6; obtain ⟨_, _, z2⟩ := HQ.out w6 HB6.out; clear ho6 hg6)
        refine (HP3.out _ HB6.out).mono ?_
        rintro e w7 ⟨A7, c7, rfl, hb7, hB7⟩
        have HB7 := Lib.hid (HB6.out.trans (hB7.mono HB6.out.size))
        have HO7 := Lib.hid (own_touch HO6.out (Tch.of_below (K := fun _ => False) hB7) fun _ _ h => h)
        clear hB7 HO6 HO5
        go_wp2_with (at_builtin; refine wpList_app elem_u8 rfl _ _ rfl w.heap.size (.slice A6 (len + 4 + 8) c6) (len + 4 + 8) ((encTo L k).map by8 ++ (be kn 4).map by8 ++ (be vn 8).map by8) rfl HO7.out A7 (2 + m) c7 ((be bs.length 2 ++ bs).map by8) rfl (by rw [HM.out] at *; exact hb7) HXt.out (one_by8 _) (by omega) HB7.out.size ?_; intro v8 w8 ho8 hg8 _; obtain ⟨A8, c8, rfl, _, _⟩ := own_full ho8; have HB8 := Lib.hid (HB7.out.own HO7.out hg8 HB7.out.size (Nat.le_refl _)); have HO8 := Lib.hid ho8; clear ho8 hg8)
        have ho9 : w8.ownsRow w.heap.size 5 1 (.slice A8 (len + 4 + 8 + (2 + m)) c8) (len + 4 + 8 + (2 + m)) ((encTo L (k + 1)).map by8) := by
          have := HO8.out
          rw [HSu2.out, List.map_append, List.map_append, List.map_append]
          rw [List.append_assoc, List.append_assoc] at this
          exact this
        have HO9 := Lib.hid ho9
        clear ho9
        have hl9 : len + 4 + 8 + (2 + m) ≤ 4000 := by have := HLen2.out; have := HLe1.out; omega
        go_wp2_with fail
        go_roundg (n - (k + 1))
        case measure => omega
        case rel => exact ⟨k + 1, len + 4 + 8 + (2 + m), A8, c8, by omega, Nat.le_refl _, by go_num, rfl, hl9, HLen2.out, HO9.out, HB8.out⟩
      · obtain rfl : k = n := by omega
        have t1 : decide ((k : Int) < (k : Int)) = false := by simp
        go_wp2_with fail
        go_ret
        rw [HBy.out]
        exact ⟨A2, c2, ret_slice HL.out, Sees.of_own HO.out, HB.out⟩
end Go.Proofs.Ytjdpljhhlmcbaaa
