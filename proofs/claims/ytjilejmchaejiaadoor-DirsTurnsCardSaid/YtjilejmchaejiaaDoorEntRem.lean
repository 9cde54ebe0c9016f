/- The contracts of dirs.Remove, of the reference's Remove, and of dirs.Names. Condition: at most 1000000 entries. -/
import Derived.Test.YtjilejmchaejiaaDoorEntDel
import Derived.Test.YtjilejmchaejiaaDoorEntRCheck
namespace Go.Cat.Dir
open Go.RowKit Go.Cat
/-- Entries in new memory, and an error. -/
def ToldV (V : List Ent × Int) (w : World) (e : Ending) (w' : World) : Prop :=
  ∃ A c, e = .returned (.tuple #[.slice A V.1.length c, .int .i64 V.2]) ∧ Sees w' A (erows V.1) ∧ Below w.heap.size w w'
theorem ToldV.none_ {z : Int} {w w' : World} (h : Below w.heap.size w w') : ToldV ([], z) w (.returned (.tuple #[.slice none 0 0, .int .i64 z])) w' := ⟨none, 0, rfl, Sees.nil_, h⟩
theorem rem_err {l : List Ent} {x : Txt} (h : checkE l ≠ 0) : removeE l x = ([], checkE l) := if_pos h
theorem rem_no {l : List Ent} {x : Txt} (h : checkE l = 0) (hi : ¬ ixE l x < l.length) : removeE l x = ([], 13) := by unfold removeE; rw [if_neg (by rw [h]; simp), if_neg hi]
theorem rem_ok {l : List Ent} {x : Txt} (h : checkE l = 0) (hi : ixE l x < l.length) : removeE l x = (l.eraseIdx (ixE l x), 0) := by unfold removeE; rw [if_neg (by rw [h]; simp), if_pos hi]
theorem rem_filter {l : List Ent} {x : Txt} (h : checkE l = 0) : ((l.filter (fun y => y.1 != x)).length = l.length → removeE l x = ([], 13)) ∧ ((l.filter (fun y => y.1 != x)).length ≠ l.length → removeE l x = (l.filter (fun y => y.1 != x), 0)) := by
  have hr := ((check_iff l).1 h).2.2
  by_cases hi : ixE l x < l.length
  · have hf := filter_erase hr hi
    refine ⟨fun h2 => ?_, fun _ => by rw [rem_ok h hi, hf]⟩
    rw [hf, List.length_eraseIdx, if_pos hi] at h2
    omega
  · exact ⟨fun _ => rem_no h hi, fun h2 => absurd (by rw [filter_none hi]) h2⟩
theorem filter_snoc (l : List Ent) (x : Txt) {k : Nat} (hk : k < l.length) : (l.take (k + 1)).filter (fun y => y.1 != x) = if l[k].1 = x then (l.take k).filter (fun y => y.1 != x) else (l.take k).filter (fun y => y.1 != x) ++ [l[k]] := by
  rw [List.take_succ_eq_append_getElem hk, List.filter_append]
  by_cases h : l[k].1 = x
  · rw [if_pos h, List.filter_cons_of_neg (by rw [h]; simp)]; simp
  · rw [if_neg h, List.filter_cons_of_pos (by simpa using h)]; simp
end Go.Cat.Dir
namespace Go.Proofs.YtjilejmchaejiaaDoor
open Go.RowKit Go.Cat Go.Cat.Dir

set_option maxRecDepth 100000 in
theorem dremove_any (A : Option Addr) (l : List Ent) (c : Nat) (x : Txt) (w : World) (hs : Sees w A (erows l)) (hn : l.length ≤ 1000000) :
    Calls Tryd.prog 32 #[.slice A l.length c, .string (bs x)] w (ToldV (removeE l x) w) := by
  have p1 := dcheck_any A l c w hs hn
  by_cases hv : checkE l = 0
  · have p2 := fun W (h : Below w.heap.size w W) => at_any A l c x W (hs.below h) (by omega)
    unfold ToldAt at p2
    rw [hv] at p1
    by_cases hi : ixE l x < l.length
    · rw [rem_ok hv hi]
      rw [at_yes hi] at p2
      have p3 := fun W (h : Below w.heap.size w W) => clonee_any A l.length c l W (hs.below h) rfl hn
      have p4 := fun base A' c' W (h : base ≤ W.heap.size) (h2 : W.ownsRow base 56 2 (.slice A' l.length c') l.length (erows l)) => delete_any base A' l c' (ixE l x) W h2 h hn hi
      have hle : (l.eraseIdx (ixE l x)).length = l.length - 1 := by rw [List.length_eraseIdx, if_pos hi]
      obtain ⟨r, hr⟩ : ∃ r, r = l.eraseIdx (ixE l x) := ⟨_, rfl⟩
      obtain ⟨k, hk⟩ : ∃ k, k = ixE l x := ⟨_, rfl⟩
      rw [← hk] at p2 p4 hr hi
      rw [← hk]
      rw [← hr] at p4
      rw [show l.eraseIdx k = r from hr.symm]
      obtain ⟨n, hnn⟩ : ∃ n, n = l.length := ⟨_, rfl⟩
      have hlr : r.length = n - 1 := by rw [hr, hk, hle, hnn]
      rw [← hnn] at p1 p2 p3 p4 hn hi ⊢
      have P1 := Lib.hid p1
      have P2 := Lib.hid p2
      have P3 := Lib.hid p3
      have P4 := Lib.hid p4
      have HR := Lib.hid hlr
      have d0 : decide ((k : Int) < 0) = false := by simp
      have d1 : IntKind.i64.wrap ((k : Int) + 1) = (k : Int) + 1 := IntWalk.i64_in _ (by omega)
      clear p1 p2 p3 p4 hlr hle hr hk hnn hs hv
      go_enter Tryd.func32, Tryd.ntmps32
      go_wp2_with fail
      refine (P1.out).mono ?_
      rintro e w1 ⟨rfl, hB1⟩
      have P2' := Lib.hid (P2.out w1 hB1)
      have HB1 := Lib.hid hB1
      clear hB1
      go_wp2_with fail
      refine (P2'.out).mono ?_
      rintro e w2 ⟨rfl, hB2⟩
      have hB2w := HB1.out.trans (hB2.mono HB1.out.size)
      have P3' := Lib.hid (P3.out w2 hB2w)
      have HB2 := Lib.hid hB2w
      clear hB2 hB2w P2' HB1
      go_wp2_with fail
      refine (P3'.out).mono ?_
      rintro e w3 ⟨A3, c3, rfl, ho3, hB3⟩
      have P4' := Lib.hid (P4.out w2.heap.size A3 c3 w3 hB3.size ho3)
      have HB3 := Lib.hid hB3
      clear hB3 ho3 P3'
      go_wp2_with fail
      refine (P4'.out).mono ?_
      rintro e w4 ⟨rfl, ho4, hB4, hz4⟩
      have HO4 := Lib.hid ho4
      have HB4 := Lib.hid hB4
      clear hB4 hz4 ho4 P4'
      go_wp2_with fail
      go_ret2
      exact ⟨A3, c3, ret_slice2 HR.out.symm, ownN_sees HO4.out, HB2.out.trans ((HB3.out.trans HB4.out).mono HB2.out.size)⟩
    · rw [rem_no hv hi]
      rw [at_no hi] at p2
      obtain ⟨n, hnn⟩ : ∃ n, n = l.length := ⟨_, rfl⟩
      rw [← hnn] at p1 p2 ⊢
      have P1 := Lib.hid p1
      have P2 := Lib.hid p2
      clear p1 p2 hnn hs hv hi hn
      go_enter Tryd.func32, Tryd.ntmps32
      go_wp2_with fail
      refine (P1.out).mono ?_
      rintro e w1 ⟨rfl, hB1⟩
      have P2' := Lib.hid (P2.out w1 hB1)
      have HB1 := Lib.hid hB1
      clear hB1
      go_wp2_with fail
      refine (P2'.out).mono ?_
      rintro e w2 ⟨rfl, hB2⟩
      have HB2 := Lib.hid (HB1.out.trans (hB2.mono HB1.out.size))
      clear hB2
      go_wp2_with fail
      go_ret2
      exact ToldV.none_ HB2.out
  · rw [rem_err hv]
    obtain ⟨V, hV⟩ : ∃ V, V = checkE l := ⟨_, rfl⟩
    rw [← hV] at p1 hv ⊢
    obtain ⟨n, hnn⟩ : ∃ n, n = l.length := ⟨_, rfl⟩
    rw [← hnn] at p1 ⊢
    have P1 := Lib.hid p1
    have dv : (V != 0) = true := by simpa using hv
    clear p1 hnn hs hv hV hn
    go_enter Tryd.func32, Tryd.ntmps32
    go_wp2_with fail
    refine (P1.out).mono ?_
    rintro e w1 ⟨rfl, hB1⟩
    have HB1 := Lib.hid hB1
    clear hB1
    go_wp2_with fail
    go_ret2
    exact ToldV.none_ HB1.out

set_option maxRecDepth 100000 in
set_option maxHeartbeats 2000000 in
theorem rremove_any (A : Option Addr) (l : List Ent) (c : Nat) (x : Txt) (w : World) (hs : Sees w A (erows l)) (hn : l.length ≤ 1000000) :
    Calls Tryd.prog 33 #[.slice A l.length c, .string (bs x)] w (ToldV (removeE l x) w) := by
  have p1 := rcheck_any A l c w hs hn
  by_cases hv : checkE l = 0
  · obtain ⟨hno, hyes⟩ := rem_filter (x := x) hv
    rw [hv] at p1
    obtain ⟨V, hV⟩ : ∃ V, V = removeE l x := ⟨_, rfl⟩
    rw [← hV] at hno hyes ⊢
    have HNo := Lib.hid hno
    have HYes := Lib.hid hyes
    have hsnoc := fun (k : Nat) (hk : k < l.length) => filter_snoc l x hk
    obtain ⟨n, hnn⟩ : ∃ n, n = l.length := ⟨_, rfl⟩
    have HN := Lib.hid hnn
    have HS := Lib.hid hs
    have P1 := Lib.hid p1
    have HSn := Lib.hid hsnoc
    rw [← hnn] at P1 hn ⊢
    clear hno hyes hV hv hnn hs p1 hsnoc
    go_enter Tryd.func33, Tryd.ntmps33
    go_wp2_with fail
    refine (P1.out).mono ?_
    rintro e w1 ⟨rfl, hB1⟩
    have HB1 := Lib.hid hB1
    clear hB1 P1
    go_wp2_with fail
    go_loopw [7, 8] (fun ov iv wr => ∃ (k m : Nat) (A2 : Option Addr) (c2 : Nat), k ≤ n ∧ m ≤ k ∧ iv = .int .i64 k ∧ ov = .slice A2 m c2 ∧ Hid (m = ((l.take k).filter (fun y => y.1 != x)).length) ∧ Hid (wr.ownsRow w.heap.size 54 2 (.slice A2 m c2) m (erows ((l.take k).filter (fun y => y.1 != x)))) ∧ Hid (Below w.heap.size w wr)) (fun _ iv _ => n - (intOf iv).toNat)
    case atStart => exact ⟨0, 0, none, 0, Nat.zero_le _, Nat.le_refl _, rfl, rfl, rfl, World.ownsRow_nil _ _ _ _, HB1.out⟩
    case round =>
      clear HB1
      obtain ⟨k, m, A2, c2, hk, hmk, rfl, rfl, HM, HO, HB⟩ := hrel
      by_cases hlt : k < n
      · have t1 : decide ((k : Int) < (n : Int)) = true := by simp; omega
        have hkl : k < l.length := by have := HN.out; omega
        obtain ⟨b, off, rfl, hbl, e0, e1⟩ := erows_at (HS.out.below HB.out) hkl
        have hsn := HSn.out k hkl
        obtain ⟨p, hp⟩ : ∃ p, p = l[k] := ⟨_, rfl⟩
        rw [← hp] at e0 e1 hsn
        obtain ⟨z, y⟩ := p
        simp only at e0 e1 hsn
        have hkI : (k : Int) < (n : Int) := by omega
        have hk0 : (0 : Int) ≤ (k : Int) := by omega
        by_cases hzx : z = x
        · rw [if_pos hzx] at hsn
          subst hzx
          have d1 : ((bs z).toList == (bs z).toList) = true := by simp
          have hm2 : m = ((l.take (k + 1)).filter (fun y => y.1 != z)).length := by rw [hsn]; exact HM.out
          have ho2 : wr.ownsRow w.heap.size 54 2 (.slice A2 m c2) m (erows ((l.take (k + 1)).filter (fun y => y.1 != z))) := by rw [hsn]; exact HO.out
          have HM2 := Lib.hid hm2
          have HO2 := Lib.hid ho2
          clear hm2 ho2 hsn hp hbl hkl
          go_wp2_with fail
          go_roundw
          case rel => exact ⟨k + 1, m, A2, c2, by omega, by omega, by go_num, rfl, HM2.out, HO2.out, HB.out⟩
          case measure => simp [intOf]; omega
        · rw [if_neg hzx] at hsn
          have d1 : ((bs z).toList == (bs x).toList) = false := by rw [bs_toList, bs_toList]; simpa using hzx
          have hsz : w.heap.size ≤ (wr.alloc (.cells #[.string (bs z), .int .i64 y] 54)).heap.size := by have := HB.out.size; simp; omega
          have HSz := Lib.hid hsz
          have HSnk := Lib.hid hsn
          clear hsz hsn hp hbl hkl hzx
          go_wp2_with (at_builtin; refine wpList_app elem_rent rfl (.tmp 27) (.tmp 32) rfl w.heap.size (.slice A2 m c2) m (erows ((l.take k).filter (fun y => y.1 != x))) rfl (World.ownsRow.alloc HO.out _) (some ⟨_, 0, none⟩) 1 1 (entC (z, y)) rfl (sees_new _ _ _) rfl (one_entC _) (by omega) HSz.out ?_; intro v2 w2 hown hgr _; obtain ⟨A4, c4, rfl, _, _⟩ := own_full hown)
          have hm2 : m + 1 = ((l.take (k + 1)).filter (fun y => y.1 != x)).length := by rw [HSnk.out, List.length_append, ← HM.out]; rfl
          have ho2 : w2.ownsRow w.heap.size 54 2 (.slice A4 (m + 1) c4) (m + 1) (erows ((l.take (k + 1)).filter (fun y => y.1 != x))) := by rw [HSnk.out, erows_snoc]; exact hown
          have hb2 : Below w.heap.size w w2 := (HB.out.alloc HB.out.size _).own (World.ownsRow.alloc HO.out _) hgr HSz.out (Nat.le_refl _)
          have HM2 := Lib.hid hm2
          have HO2 := Lib.hid ho2
          have HB2 := Lib.hid hb2
          clear hown hgr ho2 hb2 hm2
          go_wp2_with fail
          go_roundw
          case rel => exact ⟨k + 1, m + 1, A4, c4, by omega, by omega, by go_num, rfl, HM2.out, HO2.out, HB2.out⟩
          case measure => simp [intOf]; omega
      · obtain rfl : k = n := by omega
        have t1 : decide ((k : Int) < (k : Int)) = false := by simp
        have hall : l.take k = l := by rw [HN.out]; exact List.take_length
        rw [hall] at HM HO
        by_cases hmk2 : m = k
        · have hV := HNo.out (by rw [← HM.out, hmk2]; exact HN.out)
          subst hV hmk2
          have t2 : ((m : Int) == (m : Int)) = true := by simp
          clear hall
          go_wp2_with fail
          go_ret2
          exact ToldV.none_ HB.out
        · have hV := HYes.out (by rw [← HM.out, ← HN.out]; exact hmk2)
          subst hV
          have t2 : ((m : Int) == (k : Int)) = false := by rw [beq_eq_false_iff_ne]; omega
          clear hall hmk2
          go_wp2_with fail
          go_ret2
          exact ⟨A2, c2, ret_slice2 HM.out, ownN_sees HO.out, HB.out⟩
  · rw [rem_err hv]
    obtain ⟨V, hV⟩ : ∃ V, V = checkE l := ⟨_, rfl⟩
    rw [← hV] at p1 hv ⊢
    obtain ⟨n, hnn⟩ : ∃ n, n = l.length := ⟨_, rfl⟩
    rw [← hnn] at p1 ⊢
    have P1 := Lib.hid p1
    have dv : (V != 0) = true := by simpa using hv
    clear p1 hnn hs hv hV hn
    go_enter Tryd.func33, Tryd.ntmps33
    go_wp2_with fail
    refine (P1.out).mono ?_
    rintro e w1 ⟨rfl, hB1⟩
    have HB1 := Lib.hid hB1
    clear hB1
    go_wp2_with fail
    go_ret2
    exact ToldV.none_ HB1.out
end Go.Proofs.YtjilejmchaejiaaDoor
