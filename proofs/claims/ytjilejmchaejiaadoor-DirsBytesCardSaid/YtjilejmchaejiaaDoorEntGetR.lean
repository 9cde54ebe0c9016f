/- The contract of the reference's Get. Condition: lengths within a slice's. -/
import Derived.Test.YtjilejmchaejiaaDoorEntGetP
import Derived.Test.YtjilejmchaejiaaDoorEntRBytes
import Derived.Test.YtjilejmchaejiaaDoorEntRCheck
import Derived.Test.YtjilejmchaejiaaDoorRefNum
import Derived.Test.YtjilejmchaejiaaDoorSame
namespace Go.Cat.Dir
open Go.RowKit Go.Cat
theorem hd_at {b : List UInt8} {k : Nat} (h : 16 * k < b.length) : (b.getD (16 * k) 0).toNat = hdN (chunk b k) := by
  rw [hdN_at, List.drop_eq_getElem_cons h]
  show _ = num [b[16 * k]]
  rw [num_one, List.getD_eq_getElem?_getD, List.getElem?_eq_getElem h]
  rfl
theorem getE_form {b : List UInt8} (h1 : ¬ 512 < b.length) (h2 : b.length % 16 = 0) {k : Nat} (hk : k < b.length / 16) (hn : 11 < hdN (chunk b k)) : getE b = ([], 4) := by
  unfold getE
  rw [if_neg h1, if_neg (by omega), if_neg]
  rintro ⟨h, _⟩
  have := List.all_eq_true.1 h k (List.mem_range.2 hk)
  unfold goodC at this
  rw [Bool.and_eq_true] at this
  have := this.1
  simp at this
  omega
theorem getE_check {b : List UInt8} (h1 : ¬ 512 < b.length) (h2 : b.length % 16 = 0) (hc : checkE (entsE b) ≠ 0) : getE b = ([], 4) := by
  unfold getE
  rw [if_neg h1, if_neg (by omega), if_neg (fun h => hc h.2)]
theorem getE_same {b : List UInt8} (h1 : ¬ 512 < b.length) (h2 : b.length % 16 = 0) (hn : ∀ j, j < b.length / 16 → hdN (chunk b j) ≤ 11) (hc : checkE (entsE b) = 0) : getE b = if bytesE (entsE b) = b then (entsE b, 0) else ([], 4) := by
  unfold getE
  rw [if_neg h1, if_neg (by omega)]
  by_cases h : bytesE (entsE b) = b
  · rw [if_pos h, if_pos ⟨good_bytes h2 hn h, hc⟩]
  · rw [if_neg h, if_neg (fun h3 => h (bytes_good h2 h3.1))]
theorem conv_at {P : Program} (w : World) {src dst e : TypeId} (a : Addr) (n c : Nat) (l : Txt) (hs : P.underlying src = some (.slice e)) (he : P.underlying e = some (.int .u8)) (hd : P.underlying dst = some .string) (h : Bytes w (some a) l) (hn : n = l.length) :
    (convert src dst (.slice (some a) n c)).run P w = .ok (.string (bs l)) w := by
  subst hn
  refine run_convert_bytes_back w src dst e a c l hs he hd fun j hj => ?_
  rcases h with h | ⟨b, off, hA, hc⟩
  · have : l = [] := by simpa using h
    subst this
    exact absurd hj (Nat.not_lt_zero j)
  · injection hA with hA
    subst hA
    have := hc j (by8 l[j]) (by rw [List.getElem?_map, List.getElem?_eq_getElem hj]; rfl)
    have ea : (⟨b, off, none⟩ : Addr).add j = ⟨b, off + j, none⟩ := by unfold Addr.add; split <;> simp_all
    rw [ea]
    exact this
theorem bytes_cut {w : World} {k o : Nat} {b : List UInt8} (h : Bytes w (some ⟨k, o, none⟩) b) (n m : Nat) : Bytes w (some ⟨k, o + n, none⟩) ((b.drop n).take m) := by
  have := bytes_take (bytes_drop h n) m
  have ea : (⟨k, o, none⟩ : Addr).add n = ⟨k, o + n, none⟩ := by unfold Addr.add; split <;> simp_all
  simpa [ea] using this
end Go.Cat.Dir
namespace Go.Proofs.YtjilejmchaejiaaDoor
open Go.RowKit Go.Cat Go.Cat.Dir

set_option maxRecDepth 100000 in
set_option maxHeartbeats 4000000 in
theorem rget_any (A : Option Addr) (c : Nat) (b : List UInt8) (w : World) (hb : Bytes w A b) (hcap : b.length ≤ c) (hm : b.length ≤ 140737488355328) :
    Calls Tryd.prog 29 #[.slice A b.length c] w (ToldG (getE b) w) := by
  obtain ⟨n0, hn0⟩ : ∃ n0, n0 = b.length := ⟨_, rfl⟩
  by_cases h512 : 512 < b.length
  · have hV : getE b = ([], 17) := if_pos h512
    rw [hV, ← hn0]
    rw [← hn0] at h512
    have d1 : decide ((512 : Int) < (n0 : Int)) = true := by simp; omega
    clear hb hm hn0 hV hcap
    go_enter Tryd.func29, Tryd.ntmps29
    go_wp2_with fail
    go_ret2
    exact ToldG.no (Below.refl _ _)
  · by_cases h16 : b.length % 16 ≠ 0
    · have hV : getE b = ([], 3) := by unfold getE; rw [if_neg h512, if_pos h16]
      rw [hV, ← hn0]
      rw [← hn0] at h512 h16
      have d1 : decide ((512 : Int) < (n0 : Int)) = false := by simp; omega
      clear hb hm hn0 hV hcap
      go_enter Tryd.func29, Tryd.ntmps29
      go_wp2_with fail
      go_ret2
      exact ToldG.no (Below.refl _ _)
    · obtain ⟨V, hVV⟩ : ∃ V, V = getE b := ⟨_, rfl⟩
      have h16' : b.length % 16 = 0 := by omega
      have hbad := fun k => getE_form (b := b) (k := k) h512 h16'
      have hchk := getE_check (b := b) h512 h16'
      have hsame := getE_same (b := b) h512 h16'
      rw [← hVV] at hbad hchk hsame ⊢
      obtain ⟨n, hn⟩ : ∃ n, n = b.length / 16 := ⟨_, rfl⟩
      have hnb : n0 = 16 * n := by omega
      have h32 : n ≤ 32 := by omega
      have hes : entsE b = entsK b n := by unfold entsE; rw [← hn]; rfl
      rw [← hn] at hbad hsame
      rw [hes] at hchk hsame
      rw [← hn0] at hcap ⊢
      have HBad := Lib.hid hbad
      have HChk := Lib.hid hchk
      have HSame := Lib.hid hsame
      have HB0 := Lib.hid hn0
      have HBy := Lib.hid hb
      have d1 : decide ((512 : Int) < (n0 : Int)) = false := by simp; omega
      have d2 : (n0 : Int).tmod 16 = 0 := by rw [hnb, Int.natCast_mul]; exact Int.mul_tmod_right _ _
      have HNb := Lib.hid hnb
      clear hb hm hn0 hVV h512 h16 h16' hbad hchk hsame hes hn hnb
      go_enter Tryd.func29, Tryd.ntmps29
      go_wp2_with fail
      go_loopw [4, 5] (fun ov iv wr => ∃ (k i : Nat) (A2 : Option Addr) (c2 : Nat), k ≤ n ∧ Hid (i = 16 * k) ∧ iv = .int .i64 i ∧ ov = .slice A2 k c2 ∧ Hid (∀ j, j < k → hdN (chunk b j) ≤ 11) ∧ Hid (wr.ownsRow w.heap.size 54 2 (.slice A2 k c2) k (erows (entsK b k))) ∧ Hid (Below w.heap.size w wr)) (fun ov _ _ => n - (match ov with | .slice _ k _ => k | _ => 0))
      case atStart => exact ⟨0, 0, none, 0, Nat.zero_le _, rfl, rfl, rfl, fun j h => absurd h (Nat.not_lt_zero j), World.ownsRow_nil _ _ _ _, Below.refl _ _⟩
      case round =>
        obtain ⟨k, i, A2, c2, hk, HI, rfl, rfl, HA, HO, HB⟩ := hrel
        by_cases hlt : k < n
        · have hi16 : i + 16 ≤ n0 := by have := HI.out; have := HNb.out; omega
          have t1 : decide ((i : Int) < (n0 : Int)) = true := by simp; omega
          have hfit : 16 * k + 16 ≤ b.length := by rw [← HB0.out]; have := HNb.out; omega
          have hby := HBy.out.below HB.out
          obtain ⟨blk, off, rfl, hbl, hcell⟩ := hby.at_ (by omega)
          have c0 := hcell i (by have := HI.out; omega)
          have hhd := hd_at (b := b) (k := k) (by omega)
          rw [← HI.out] at hhd
          rw [hhd] at c0
          have hnmr := nmR_at b k
          have hndn := ndN_at b k
          rw [← HI.out] at hnmr hndn
          have hnl := nmR_length (chunk_length hfit)
          have hhd2 : hdN (chunk b k) < 256 := by rw [hdN_at]; exact num_take_lt _ 1 256 rfl
          have hnd2 : ndN (chunk b k) < 4294967296 := by rw [ndN_at]; exact num_take_lt _ 4 4294967296 rfl
          have hes := entsK_succ b k
          unfold entOf at hes
          have hbad := HBad.out k hlt
          have hA2 : hdN (chunk b k) ≤ 11 → ∀ j, j < k + 1 → hdN (chunk b j) ≤ 11 := fun h j hj => by
            by_cases e : j = k
            · subst e; exact h
            · exact HA.out j (by omega)
          have pn := rnum_any (some ⟨blk, off + (i + 12), none⟩) (c - (i + 12)) ((b.drop (i + 12)).take 4) wr.drew (bytes_cut hby (i + 12) 4).drew (by rw [List.length_take]; omega)
          rw [← hndn, show ((b.drop (i + 12)).take 4).length = 4 by rw [List.length_take, List.length_drop, HI.out]; omega] at pn
          obtain ⟨cn, hcn⟩ : ∃ cn, cn = hdN (chunk b k) := ⟨_, rfl⟩
          obtain ⟨nm, hnm⟩ : ∃ nm, nm = nmR (chunk b k) := ⟨_, rfl⟩
          obtain ⟨nd, hnd⟩ : ∃ nd, nd = ndN (chunk b k) := ⟨_, rfl⟩
          rw [← hcn] at hes c0 hhd2 hbad hA2
          rw [← hnm] at hes hnmr hnl
          rw [← hnd] at hes hnd2 pn
          have PN := Lib.hid pn
          have HEs := Lib.hid hes
          have HA2 := Lib.hid hA2
          clear hcell hhd hes hA2 pn hndn hbl hcn hnm hnd hfit
          have hi0 : (0 : Int) ≤ (i : Int) := by omega
          have hiI : (i : Int) < (n0 : Int) := by omega
          have hw0 : IntKind.i64.wrap (cn : Int) = (cn : Int) := IntWalk.i64_in _ (by omega)
          by_cases h11 : 11 < cn
          · have t2 : decide ((11 : Int) < (cn : Int)) = true := by simp; omega
            have hv := hbad h11
            subst hv
            clear hbad hby
            go_wp2_with fail
            go_ret2
            exact ToldG.no HB.out
          · have t2 : decide ((11 : Int) < (cn : Int)) = false := by simp; omega
            obtain ⟨x, hx⟩ : ∃ x, x = (b.drop (i + 1)).take cn := ⟨_, rfl⟩
            have hxn : x = nm.take (min cn 11) := by rw [hx, hnmr, List.take_take]; congr 1; omega
            rw [← hxn] at HEs
            have hxl : cn = x.length := by rw [hxn, List.length_take, hnl]; omega
            have hbx := bytes_cut hby (i + 1) cn
            rw [← hx] at hbx
            have hconv := conv_at (P := Tryd.prog) wr.drew (src := 38) (dst := 9) (e := 5) ⟨blk, off + (i + 1), none⟩ cn (c - (i + 1)) x Tryd.underlying38 Tryd.underlying5 Tryd.underlying9 hbx.drew hxl
            have HA3 := Lib.hid (HA2.out (by omega))
            have hw1 : IntKind.i64.wrap (nd : Int) = (nd : Int) := IntWalk.i64_in _ (by omega)
            obtain ⟨i1, hi1⟩ : ∃ i1, i1 = i + 1 := ⟨_, rfl⟩
            obtain ⟨i2, hi2⟩ : ∃ i2, i2 = i1 + cn := ⟨_, rfl⟩
            obtain ⟨i12, hi12⟩ : ∃ i12, i12 = i + 12 := ⟨_, rfl⟩
            obtain ⟨i16, hi16'⟩ : ∃ i16, i16 = i + 16 := ⟨_, rfl⟩
            rw [← hi1] at hconv
            rw [← hi12] at PN
            have hn512 : n0 ≤ 512 := by have := HNb.out; omega
            have f1 : IntKind.i64.wrap ((i : Int) + 1) = (i1 : Int) := by rw [IntWalk.i64_in _ (by omega)]; omega
            have f2 : IntKind.i64.wrap ((i1 : Int) + (cn : Int)) = (i2 : Int) := by rw [IntWalk.i64_in _ (by omega)]; omega
            have f3 : IntKind.i64.wrap ((i : Int) + 12) = (i12 : Int) := by rw [IntWalk.i64_in _ (by omega)]; omega
            have f4 : IntKind.i64.wrap ((i : Int) + 16) = (i16 : Int) := by rw [IntWalk.i64_in _ (by omega)]; omega
            have b1 : i2 ≤ c := by omega
            have b2 : i1 ≤ i2 := by omega
            have b3 : ¬ c = i1 := by omega
            have b4 : i2 - i1 = cn := by omega
            have b5 : i16 ≤ c := by omega
            have b6 : i12 ≤ i16 := by omega
            have b7 : ¬ c = i12 := by omega
            have b8 : i16 - i12 = 4 := by omega
            have m1 : max (i2 : Int) 0 = (i2 : Int) := by omega
            have m2 : max (i16 : Int) 0 = (i16 : Int) := by omega
            have HI16 := Lib.hid hi16'
            clear hbad hby hbx hx hxn hxl hnmr hnl HA2 hi1 hi2 hi12 hi16'
            have hsz : w.heap.size ≤ (wr.drew.alloc (.cells #[.string (bs x), .int .i64 nd] 54)).heap.size := by have := HB.out.size; simp; omega
            have HSz := Lib.hid hsz
            clear hsz
            go_wp2_with fail
            go_region_law (first
              | (go_simp; go_at_call 56; refine (PN.out).mono ?_; rintro e w2 ⟨rfl, rfl⟩)
              | (refine step_app elem_rent rfl (.tmp 27) (.tmp 46) rfl w.heap.size (.slice A2 k c2) k (erows (entsK b k)) rfl (World.ownsRow.alloc HO.out _) (some ⟨_, 0, none⟩) 1 1 (entC (x, (nd : Int))) rfl (sees_new _ _ _) rfl (one_entC _) (by omega) HSz.out ?_; intro v2 w2 hown hgr _; obtain ⟨A4, c4, rfl, _, _⟩ := own_full hown))
            all_goals
              have ho2 : w2.ownsRow w.heap.size 54 2 (.slice A4 (k + 1) c4) (k + 1) (erows (entsK b (k + 1))) := by rw [HEs.out, erows_snoc]; exact hown
              have hb2 : Below w.heap.size w w2 := ((HB.out.trans ((Below.refl wr.heap.size wr).drew.mono HB.out.size)).alloc HB.out.size _).own (World.ownsRow.alloc HO.out _) hgr HSz.out (Nat.le_refl _)
              have HO2 := Lib.hid ho2
              have HB2 := Lib.hid hb2
              clear hown hgr ho2 hb2
              go_wp2_with fail
              go_roundw
              case rel => exact ⟨k + 1, i16, A4, c4, by omega, by have := HI.out; have := HI16.out; show _ = _; omega, by first | rfl | go_num, rfl, HA3.out, HO2.out, HB2.out⟩
              case measure => simp; omega
        · obtain rfl : k = n := by omega
          have hin : i = n0 := by have := HI.out; have := HNb.out; omega
          have t1 : decide ((i : Int) < (n0 : Int)) = false := by simp; omega
          have hS : Sees wr A2 (erows (entsK b k)) := ownN_sees HO.out
          have PC := Lib.hid (rcheck_any A2 (entsK b k) c2 wr hS (by rw [entsK_length]; omega))
          rw [entsK_length] at PC
          have HChk2 := HChk.out
          have HSame2 := HSame.out HA.out
          have hfine := fun h : checkE (entsK b k) = 0 => fun W (hB : Below wr.heap.size wr W) => rbytes_any A2 (entsK b k) c2 W (hS.below hB) (check_fine h).1 (check_fine h).2
          rw [entsK_length] at hfine
          obtain ⟨ck, hck⟩ : ∃ ck, ck = checkE (entsK b k) := ⟨_, rfl⟩
          rw [← hck] at PC HChk2 HSame2 hfine
          have HS := Lib.hid hS
          have HF := Lib.hid hfine
          clear hfine hS HO hck
          by_cases hc0 : ck = 0
          · have PB := Lib.hid (HF.out hc0)
            have HSm := Lib.hid (HSame2 hc0)
            have d3 : (ck != 0) = false := by simpa using hc0
            obtain ⟨y, hy⟩ : ∃ y, y = bytesE (entsK b k) := ⟨_, rfl⟩
            rw [← hy] at PB HSm
            obtain ⟨m, hm⟩ : ∃ m, m = y.length := ⟨_, rfl⟩
            rw [← hm] at PB
            have HY := Lib.hid hy
            have HM := Lib.hid hm
            have hml : m ≤ 512 := by
              rw [hm, hy, bytesE_length (fun e he => by
                unfold entsK at he
                obtain ⟨j, _, rfl⟩ := List.mem_map.1 he
                exact ent_le _), entsK_length]
              omega
            clear HSame2 HChk2 hc0 hy hm HF
            go_wp2_with fail
            refine (PC.out).mono ?_
            rintro e w4 ⟨rfl, hB4⟩
            have HB4 := Lib.hid hB4
            have PB4 := Lib.hid (PB.out w4 hB4)
            clear hB4
            go_wp2_with fail
            refine (PB4.out).mono ?_
            rintro e w5 ⟨A5, c5, rfl, hy5, hB5⟩
            have hbel5 := HB4.out.trans (hB5.mono HB4.out.size)
            have ps := same8_any A5 A m n0 c5 c y b w5 hy5 ((HBy.out.below HB.out).below hbel5) HM.out HB0.out (by rw [← HM.out]; omega) (by rw [← HB0.out]; have := HNb.out; omega)
            have PS := Lib.hid ps
            have HB5 := Lib.hid hbel5
            clear hy5 hB5 hbel5 ps
            by_cases hyb : y = b
            · have dy : decide (y = b) = true := by simpa using hyb
              rw [dy] at PS
              have hv : V = (entsK b k, 0) := by rw [HSm.out, if_pos hyb]
              have HVV := Lib.hid hv
              clear hv hyb dy
              go_wp2_with fail
              refine (PS.out).mono ?_
              rintro e w6 ⟨rfl, q, rfl⟩
              go_wp2_with fail
              go_ret2
              rw [HVV.out]
              exact ToldG.yes (entsK_length _ _) ((HS.out.below HB5.out).drewN q) (below_drewN (HB.out.trans (HB5.out.mono HB.out.size)) q)
            · have dy : decide (y = b) = false := by simpa using hyb
              rw [dy] at PS
              have hv : V = ([], 4) := by rw [HSm.out, if_neg hyb]
              subst hv
              clear hyb dy
              go_wp2_with fail
              refine (PS.out).mono ?_
              rintro e w6 ⟨rfl, q, rfl⟩
              go_wp2_with fail
              go_ret2
              exact ToldG.no (below_drewN (HB.out.trans (HB5.out.mono HB.out.size)) q)
          · have hv : V = ([], 4) := HChk2 hc0
            subst hv
            have d3 : (ck != 0) = true := by simpa using hc0
            clear hc0 HSame2 HChk2 HF
            go_wp2_with fail
            refine (PC.out).mono ?_
            rintro e w4 ⟨rfl, hB4⟩
            go_wp2_with fail
            go_ret2
            exact ToldG.no (HB.out.trans (hB4.mono HB.out.size))
end Go.Proofs.YtjilejmchaejiaaDoor
