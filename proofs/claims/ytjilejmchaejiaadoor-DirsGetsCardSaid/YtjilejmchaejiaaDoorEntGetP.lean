/- The contract of dirs.Get. Condition: lengths within a slice's. -/
import Derived.Test.YtjilejmchaejiaaDoorEntGetU
import Derived.Deep.DeepCutAuto
namespace Go.Cat.Dir
open Go.RowKit Go.Cat
def entsK (b : List UInt8) (k : Nat) : List Ent := (List.range k).map (fun j => entOf (chunk b j))
def goodK (b : List UInt8) (k : Nat) : Bool := (List.range k).all (fun j => goodC (chunk b j))
theorem entsK_succ (b : List UInt8) (k : Nat) : entsK b (k + 1) = entsK b k ++ [entOf (chunk b k)] := by unfold entsK; rw [List.range_succ, List.map_append]; rfl
theorem goodK_succ (b : List UInt8) (k : Nat) : goodK b (k + 1) = (goodK b k && goodC (chunk b k)) := by unfold goodK; rw [List.range_succ, List.all_append]; simp
theorem entsK_length (b : List UInt8) (k : Nat) : (entsK b k).length = k := by simp [entsK]
theorem hdN_at (b : List UInt8) (k : Nat) : hdN (chunk b k) = num ((b.drop (16 * k)).take 1) := by unfold hdN chunk; rw [List.take_take]; rfl
theorem nmR_at (b : List UInt8) (k : Nat) : nmR (chunk b k) = (b.drop (16 * k + 1)).take 11 := by
  unfold nmR chunk
  rw [List.drop_take, List.take_take, List.drop_drop]
  rfl
theorem ndN_at (b : List UInt8) (k : Nat) : ndN (chunk b k) = num ((b.drop (16 * k + 12)).take 4) := by
  unfold ndN chunk
  rw [List.drop_take, List.take_take, List.drop_drop]
  rfl
theorem num_take_lt (l : List UInt8) (n : Nat) (v : Nat) (h : 256 ^ n = v) : num (l.take n) < v := by rw [← h]; exact num_lt_take l n
theorem read1 {b : List UInt8} {k : Nat} (h : 16 * k + 16 ≤ b.length) : (⟨b.drop (16 * k), 0⟩ : IS).upto 1 18446744073709551615 = (⟨b.drop (16 * k + 1), 0⟩, (hdN (chunk b k) : Int)) := by
  rw [IS.upto_take rfl (by show 1 ≤ (b.drop (16 * k)).length; rw [List.length_drop]; omega) (by have := num_take_lt (b.drop (16 * k)) 1 256 rfl; show ((num ((b.drop (16 * k)).take 1) : Nat) : Int) ≤ _; omega)]
  rw [hdN_at]
  show ((⟨(b.drop (16 * k)).drop 1, 0⟩ : IS), _) = _
  rw [List.drop_drop]
theorem read2 {b : List UInt8} {k : Nat} (h : 16 * k + 16 ≤ b.length) : (⟨b.drop (16 * k + 1), 0⟩ : IS).next 11 = (⟨b.drop (16 * k + 12), 0⟩, nmR (chunk b k), true) := by
  rw [IS.next_take rfl (by show 11 ≤ (b.drop (16 * k + 1)).length; rw [List.length_drop]; omega)]
  rw [nmR_at]
  show ((⟨(b.drop (16 * k + 1)).drop 11, 0⟩ : IS), _) = _
  rw [List.drop_drop]
theorem read3 {b : List UInt8} {k : Nat} (h : 16 * k + 16 ≤ b.length) : (⟨b.drop (16 * k + 12), 0⟩ : IS).upto 4 18446744073709551615 = (⟨b.drop (16 * (k + 1)), 0⟩, (ndN (chunk b k) : Int)) := by
  rw [IS.upto_take rfl (by show 4 ≤ (b.drop (16 * k + 12)).length; rw [List.length_drop]; omega) (by have := num_take_lt (b.drop (16 * k + 12)) 4 4294967296 rfl; show ((num ((b.drop (16 * k + 12)).take 4) : Nat) : Int) ≤ _; omega)]
  rw [ndN_at]
  show ((⟨(b.drop (16 * k + 12)).drop 4, 0⟩ : IS), _) = _
  rw [List.drop_drop]
  rfl
theorem bs_tail (x : Txt) (m : Nat) : (bs x).extract m x.length = bs (x.drop m) := by
  show (⟨x.toArray⟩ : ByteArray).extract m x.length = _
  rw [Lib.extract_mk, List.take_of_length_le (by rw [List.length_drop]; omega)]
  rfl
theorem bs_head (x : Txt) (m : Nat) : (bs x).extract 0 m = bs (x.take m) := by
  show (⟨x.toArray⟩ : ByteArray).extract 0 m = _
  rw [Lib.extract_mk, List.drop_zero, Nat.sub_zero]
  rfl
end Go.Cat.Dir
namespace Go.Proofs.YtjilejmchaejiaaDoor
open Go.RowKit Go.Cat Go.Cat.Dir

/-- What the loop of the reads keeps. -/
structure GetE (g : Nat) (v : Value) (l : List Ent) (s : IS) (w wr : World) : Prop where
  inf : InF g s wr
  own : wr.ownsRow (g + 1) 56 2 v l.length (erows l)
  bel : Below w.heap.size w wr
  le : w.heap.size ≤ g
section
variable {g : Nat} {v : Value} {l : List Ent} {s s' : IS} {w wr w' : World}
theorem GetE.lt (h : GetE g v l s w wr) : g + 1 ≤ wr.heap.size := h.inf.lt
theorem GetE.step (h : GetE g v l s w wr) (hi : InF g s' w') (ht : Tch (fun k => k = g) wr w') : GetE g v l s' w w' :=
  ⟨hi, own_touch h.own ht (fun k hk e => by have := (h.own.lt k hk).1; omega), h.bel.trans (ht.below h.bel.size (fun k e => by rw [e]; exact h.le)), h.le⟩
theorem GetE.below (h : GetE g v l s w wr) (hb : Below wr.heap.size wr w') : GetE g v l s w w' :=
  ⟨h.inf.touch hb, own_touch (K := fun _ => False) h.own (Tch.of_below hb) (fun _ _ e => e), h.bel.trans (hb.mono h.bel.size), h.le⟩
theorem GetE.own_at (h : GetE g v l s w wr) {k : Nat} (hk : l.length = k) : wr.ownsRow (g + 1) 56 2 v k (erows l) := by rw [← hk]; exact h.own
theorem GetE.push {e : Ent} {v2 : Value} (h : GetE g v l s w wr) (ho : w'.ownsRow (g + 1) 56 2 v2 (l.length + 1) (erows l ++ entC e)) (hg : wr.grownBy w' v.ownBlock) : GetE g v2 (l ++ [e]) s w w' := by
  refine ⟨h.inf.keep (Tch.grown hg) (fun k hk e => by have := (h.own.lt k e).1; omega), ?_, h.bel.own (base := g + 1) h.own hg h.bel.size (by have := h.le; omega), h.le⟩
  rw [erows_snoc, List.length_append]; exact ho
end

theorem sees_newAt {w : World} {g : Nat} (h : w.heap.size = g) (xs : List Value) (e : TypeId) : Sees (w.alloc (.cells xs.toArray e)) (some ⟨g, 0, none⟩) xs := by rw [← h]; exact sees_new w xs e
theorem late_set (w : World) (o o2 : Obj) (q : Nat) (v : Value) : Below w.heap.size w ((((w.alloc o).drewN q).setCell ⟨w.heap.size, 0, none⟩ v).alloc o2) := by
  have h1 : Below w.heap.size w ((w.alloc o).drewN q) := below_drewN ((Below.refl _ w).alloc (Nat.le_refl _) o) q
  have h2 : Below w.heap.size ((w.alloc o).drewN q) (((w.alloc o).drewN q).setCell ⟨w.heap.size, 0, none⟩ v) := (Tch.set _ _ _ _).below h1.size (fun k e => by rw [e]; exact Nat.le_refl _)
  exact (h1.trans h2).alloc (Nat.le_trans h1.size h2.size) o2
/-- What Get tells. -/
def ToldG (r : List Ent × Int) (w : World) (e : Ending) (w' : World) : Prop := ∃ A c, e = .returned (.tuple #[.slice A r.1.length c, .int .i64 r.2]) ∧ Sees w' A (erows r.1) ∧ Below w.heap.size w w'
theorem ToldG.no {x : Int} {w w' : World} (h : Below w.heap.size w w') : ToldG ([], x) w (.returned (.tuple #[.slice none 0 0, .int .i64 x])) w' := ⟨none, 0, rfl, .inl rfl, h⟩
theorem ToldG.yes {l : List Ent} {x : Int} {w w' : World} {A : Option Addr} {n c : Nat} (hn : l.length = n) (hs : Sees w' A (erows l)) (h : Below w.heap.size w w') : ToldG (l, x) w (.returned (.tuple #[.slice A n c, .int .i64 x])) w' := ⟨A, c, by rw [hn], hs, h⟩

set_option maxRecDepth 100000 in
set_option maxHeartbeats 4000000 in
theorem dget_any (A : Option Addr) (c : Nat) (b : List UInt8) (w : World) (hb : Bytes w A b) (hm : b.length ≤ 140737488355328) :
    Calls Tryd.prog 24 #[.slice A b.length c] w (ToldG (getE b) w) := by
  obtain ⟨n0, hn0⟩ : ∃ n0, n0 = b.length := ⟨_, rfl⟩
  by_cases h512 : 512 < b.length
  · have hV : getE b = ([], 17) := if_pos h512
    rw [hV, ← hn0]
    rw [← hn0] at h512
    have d1 : decide ((512 : Int) < (n0 : Int)) = true := by simp; omega
    clear hb hm hn0 hV
    go_enter Tryd.func24, Tryd.ntmps24
    go_wp2_with fail
    go_ret2
    exact ToldG.no (Below.refl _ _)
  · by_cases h16 : b.length % 16 ≠ 0
    · have hV : getE b = ([], 3) := by unfold getE; rw [if_neg h512, if_pos h16]
      rw [hV, ← hn0]
      rw [← hn0] at h512 h16
      have d1 : decide ((512 : Int) < (n0 : Int)) = false := by simp; omega
      clear hb hm hn0 hV
      go_enter Tryd.func24, Tryd.ntmps24
      go_wp2_with fail
      go_ret2
      exact ToldG.no (Below.refl _ _)
    · have P0 := Lib.hid (of_any A c b w hb hm)
      obtain ⟨V, hVV⟩ : ∃ V, V = getE b := ⟨_, rfl⟩
      rw [← hVV]
      obtain ⟨n, hn⟩ : ∃ n, b.length = 16 * n := ⟨b.length / 16, by omega⟩
      have hV : getE b = if goodK b n = true ∧ checkE (entsK b n) = 0 then (entsK b n, 0) else ([], 4) := by
        have h1 : b.length / 16 = n := by omega
        unfold getE
        rw [if_neg h512, if_neg h16]
        unfold goodE entsE
        rw [h1]
        rfl
      rw [← hVV] at hV
      have h32 : n ≤ 32 := by omega
      rw [← hn0] at P0 hn ⊢
      have HV := Lib.hid hV
      have HB0 := Lib.hid hn0
      subst hn
      have d1 : decide ((512 : Int) < ((16 * n : Nat) : Int)) = false := by simp; omega
      have d2 : ((16 * n : Nat) : Int).tmod 16 = 0 := by rw [Int.natCast_mul]; exact Int.mul_tmod_right _ _
      clear hb hm hn0 hV hVV h512 h16
      go_enter Tryd.func24, Tryd.ntmps24
      go_wp2_with fail
      refine (P0.out).mono ?_
      rintro e w2 ⟨g, rfl, hg, hi, hB2⟩
      have hG : GetE g (.slice none 0 0) (entsK b 0) ⟨b.drop (16 * 0), 0⟩ w w2 := ⟨hi, World.ownsRow_nil _ _ _ _, hB2, hg⟩
      have HG := Lib.hid hG
      clear hi hB2 hG P0
      go_wp2_with fail
      go_loopw [5, 6] (fun ov gv wr => ∃ (k : Nat) (A2 : Option Addr) (c2 : Nat), k ≤ n ∧ ov = .slice A2 k c2 ∧ gv = .bool (goodK b k) ∧ Hid (GetE g (.slice A2 k c2) (entsK b k) ⟨b.drop (16 * k), 0⟩ w wr)) (fun ov _ _ => n - (match ov with | .slice _ k _ => k | _ => 0))
      case atStart => exact ⟨0, none, 0, Nat.zero_le _, rfl, rfl, HG.out⟩
      case round =>
        clear HG
        obtain ⟨k, A2, c2, hk, rfl, rfl, HG⟩ := hrel
        obtain ⟨gd, hgd⟩ : ∃ gd, gd = goodK b k := ⟨_, rfl⟩
        rw [← hgd]
        have p1 := left_any g _ wr HG.out.inf
        obtain ⟨r, hr⟩ : ∃ r, r = (b.drop (16 * k)).length := ⟨_, rfl⟩
        have hr2 : r = 16 * n - 16 * k := by rw [hr, List.length_drop, ← HB0.out]
        have p1 : Calls Tryd.prog 51 #[.pointer (some ⟨g, 0, none⟩)] wr fun e w' => e = .returned (.int .i64 (r : Int)) ∧ wr = w' := by rw [hr]; exact p1
        have P1 := Lib.hid p1
        have HGd := Lib.hid hgd
        clear p1 hr hgd
        by_cases hlt : k < n
        · have t1 : decide ((0 : Int) < (r : Int)) = true := by simp; omega
          have hfit : 16 * k + 16 ≤ b.length := by rw [← HB0.out]; omega
          have q1 := read1 hfit
          have q2 := read2 hfit
          have q3 := read3 hfit
          have hes := entsK_succ b k
          have hgs := goodK_succ b k
          rw [← HGd.out] at hgs
          have hnl := nmR_length (chunk_length hfit)
          have hhd : hdN (chunk b k) < 256 := by rw [hdN_at]; exact num_take_lt _ 1 256 rfl
          have hnd : ndN (chunk b k) < 4294967296 := by rw [ndN_at]; exact num_take_lt _ 4 4294967296 rfl
          unfold entOf at hes
          unfold goodC padOf at hgs
          obtain ⟨cn, hcn⟩ : ∃ cn, cn = hdN (chunk b k) := ⟨_, rfl⟩
          obtain ⟨nm, hnm⟩ : ∃ nm, nm = nmR (chunk b k) := ⟨_, rfl⟩
          obtain ⟨nd, hnd2⟩ : ∃ nd, nd = ndN (chunk b k) := ⟨_, rfl⟩
          rw [← hcn, ← hnm] at hes hgs
          rw [← hnd2] at hes q3 hnd
          rw [← hcn] at q1 hhd
          rw [← hnm] at q2 hnl
          have P2 := Lib.hid (get_any g _ 1 wr HG.out.inf (by omega) (by omega))
          rw [q1] at P2
          have P3 := Lib.hid (fun W h => inraw_any g ⟨b.drop (16 * k + 1), 0⟩ 11 W h (by omega))
          rw [q2] at P3
          have P4 := Lib.hid (fun W h => get_any g ⟨b.drop (16 * k + 12), 0⟩ 4 W h (by omega) (by omega))
          rw [q3] at P4
          have hw1 : IntKind.i64.wrap (cn : Int) = (cn : Int) := IntWalk.i64_in _ (by omega)
          have hw2 : IntKind.i64.wrap (nd : Int) = (nd : Int) := IntWalk.i64_in _ (by omega)
          have HEs := Lib.hid hes
          have HGs := Lib.hid hgs
          have HNl := Lib.hid hnl
          clear q1 q2 q3 hes hgs hnl hcn hnm hnd2
          go_wp2_with fail
          refine (P1.out).mono ?_
          rintro e w3 ⟨rfl, rfl⟩
          go_wp2_with fail
          refine (P2.out).mono ?_
          rintro e w4 ⟨rfl, hi4, ht4⟩
          have HG4 := Lib.hid (HG.out.step hi4 ht4)
          clear hi4 ht4
          go_wp2_with fail
          refine (P3.out _ HG4.out.inf).mono ?_
          rintro e w5 ⟨A5, c5, rfl, ho5, hi5, ht5⟩
          have hconv := conv_text (P := Tryd.prog) w5 (src := 38) (dst := 9) (e := 5) A5 nm.length c5 nm Tryd.underlying38 Tryd.underlying5 Tryd.underlying9 (Sees.of_own ho5) rfl (by rw [HNl.out]; omega)
          have HG5 := Lib.hid (HG4.out.step hi5 ht5)
          clear hi5 ht5 ho5
          go_wp2_with fail
          refine (P4.out _ HG5.out.inf).mono ?_
          rintro e w6 ⟨rfl, hi6, ht6⟩
          have HG6 := Lib.hid (HG5.out.step hi6 ht6)
          clear hi6 ht6 hconv P1 P2 P3 P4
          obtain ⟨m, hm⟩ : ∃ m : Nat, m = min cn 11 := ⟨_, rfl⟩
          rw [← hm] at HEs HGs
          have hm11 : m ≤ 11 := by omega
          have hmI : min (cn : Int) 11 = (m : Int) := by omega
          obtain ⟨y, hy⟩ : ∃ y, y = nm.take m := ⟨_, rfl⟩
          obtain ⟨t, ht⟩ : ∃ t, t = nm.drop m := ⟨_, rfl⟩
          rw [← hy] at HEs
          rw [← ht] at HGs
          have hsz : (bs nm).size = 11 := by rw [bs_size, HNl.out]
          have hhead : (bs nm).extract 0 m = bs y := by rw [hy]; exact bs_head nm _
          have htail : (bs nm).extract m 11 = bs t := by have := bs_tail nm m; rw [HNl.out, ← ht] at this; exact this
          have ptr := fun W => trim_any t W (by rw [ht, List.length_drop, HNl.out]; omega)
          have PT := Lib.hid ptr
          have hte := trim_eq t
          obtain ⟨z, hz⟩ : ∃ z, z = t.all (fun x => x == 0) := ⟨_, rfl⟩
          rw [← hz] at HGs hte
          have HX := Lib.hid hte
          have HGa := Lib.hid (HG6.out.below (((Below.refl w6.heap.size w6).alloc (Nat.le_refl _) (.cells #[.string (bs y), .int .i64 nd] 56)).alloc ((Below.refl w6.heap.size w6).alloc (Nat.le_refl _) (.cells #[.string (bs y), .int .i64 nd] 56)).size (.cells #[.string (bs y), .int .i64 nd] 56)))
          have HGb := Lib.hid (fun q => HG6.out.below (late_set w6 (.cells #[.string ⟨#[]⟩, .int .i64 nd] 56) (.cells #[.string (bs y), .int .i64 nd] 56) q (.string (bs y))))
          clear ptr hz hte hy ht hm
          cases gd with
          | false =>
            go_upto_region 14 with (fail)
            go_wp2_with (at_builtin; refine wpList_app elem_ent rfl _ _ rfl (g + 1) (.slice A2 k c2) k (erows (entsK b k)) rfl (HGa.out.own_at (entsK_length b k)) (some ⟨_, 0, none⟩) 1 1 [.string (bs y), .int .i64 nd] rfl (sees_newAt (by simp) _ _) rfl (one_entC (y, (nd : Int))) (by omega) HGa.out.lt ?_)
            intro v2 w8 hown hgr _
            obtain ⟨A8, c8, rfl, _, _⟩ := own_full hown
            have hG8 : GetE g (.slice A8 (k + 1) c8) (entsK b (k + 1)) ⟨b.drop (16 * (k + 1)), 0⟩ w w8 := by rw [HEs.out]; exact HGa.out.push (e := (y, (nd : Int))) (by rw [entsK_length]; exact hown) hgr
            have HG8 := Lib.hid hG8
            have hgk : goodK b (k + 1) = false := by rw [HGs.out]; simp [*]
            have HGk := Lib.hid hgk
            clear hown hgr hG8 hgk
            go_wp2_with fail
            go_roundw
            case rel => exact ⟨k + 1, A8, c8, by omega, rfl, by rw [HGk.out], HG8.out⟩
            case measure => simp; omega
          | true =>
            by_cases hc11 : cn ≤ 11
            · have t2 : decide ((cn : Int) ≤ 11) = true := by simp; omega
              go_wp2_with fail
              refine (PT.out _).mono ?_
              rintro e w7 ⟨rfl, q, rfl⟩
              have hte := HX.out
              have hte2 : (bs (Lib.trimB t 0)).toList = [] ↔ z = true := by rw [← hte]; simp
              go_upto_region 14 with (fail)
              go_wp2_with (at_builtin; refine wpList_app elem_ent rfl _ _ rfl (g + 1) (.slice A2 k c2) k (erows (entsK b k)) rfl ((HGb.out q).own_at (entsK_length b k)) (some ⟨_, 0, none⟩) 1 1 [.string (bs y), .int .i64 nd] rfl (sees_newAt (by simp) _ _) rfl (one_entC (y, (nd : Int))) (by omega) (HGb.out q).lt ?_)
              intro v2 w8 hown hgr _
              obtain ⟨A8, c8, rfl, _, _⟩ := own_full hown
              have hG8 : GetE g (.slice A8 (k + 1) c8) (entsK b (k + 1)) ⟨b.drop (16 * (k + 1)), 0⟩ w w8 := by rw [HEs.out]; exact (HGb.out q).push (e := (y, (nd : Int))) (by rw [entsK_length]; exact hown) hgr
              have HG8 := Lib.hid hG8
              have hgk : goodK b (k + 1) = z := by rw [HGs.out]; simp [*]
              have HGk := Lib.hid hgk
              clear hown hgr hG8 hgk
              go_wp2_with fail
              go_roundw
              case rel => exact ⟨k + 1, A8, c8, by omega, rfl, by rw [HGk.out], HG8.out⟩
              case measure => simp; omega
            · have t2 : decide ((cn : Int) ≤ 11) = false := by simp; omega
              go_upto_region 14 with (fail)
              go_wp2_with (at_builtin; refine wpList_app elem_ent rfl _ _ rfl (g + 1) (.slice A2 k c2) k (erows (entsK b k)) rfl (HGa.out.own_at (entsK_length b k)) (some ⟨_, 0, none⟩) 1 1 [.string (bs y), .int .i64 nd] rfl (sees_newAt (by simp) _ _) rfl (one_entC (y, (nd : Int))) (by omega) HGa.out.lt ?_)
              intro v2 w8 hown hgr _
              obtain ⟨A8, c8, rfl, _, _⟩ := own_full hown
              have hG8 : GetE g (.slice A8 (k + 1) c8) (entsK b (k + 1)) ⟨b.drop (16 * (k + 1)), 0⟩ w w8 := by rw [HEs.out]; exact HGa.out.push (e := (y, (nd : Int))) (by rw [entsK_length]; exact hown) hgr
              have HG8 := Lib.hid hG8
              have hgk : goodK b (k + 1) = false := by rw [HGs.out]; simp [*]
              have HGk := Lib.hid hgk
              clear hown hgr hG8 hgk
              go_wp2_with fail
              go_roundw
              case rel => exact ⟨k + 1, A8, c8, by omega, rfl, by rw [HGk.out], HG8.out⟩
              case measure => simp; omega
        · obtain rfl : k = n := by omega
          have t1 : decide ((0 : Int) < (r : Int)) = false := by simp; omega
          go_wp2_with fail
          refine (P1.out).mono ?_
          rintro e w3 ⟨rfl, rfl⟩
          have PC := Lib.hid (dcheck_any A2 (entsK b k) c2 wr (ownN_sees (by have := HG.out.own; rw [entsK_length] at this; exact this)) (by rw [entsK_length]; omega))
          rw [entsK_length] at PC
          obtain ⟨ck, hck⟩ : ∃ ck, ck = checkE (entsK b k) := ⟨_, rfl⟩
          rw [← hck] at PC HV
          have HS := Lib.hid (show Sees wr A2 (erows (entsK b k)) from ownN_sees (by have := HG.out.own; rw [entsK_length] at this; exact this))
          have HBel := Lib.hid HG.out.bel
          rw [← HGd.out] at HV
          clear hck P1 HG
          cases gd with
          | false =>
            have hv : V = ([], 4) := by rw [HV.out]; exact if_neg (fun h => by cases h.1)
            subst hv
            go_wp2_with fail
            go_ret2
            exact ToldG.no HBel.out
          | true =>
            by_cases hc0 : ck = 0
            · have hv : V = (entsK b k, 0) := by rw [HV.out]; exact if_pos ⟨rfl, hc0⟩
              have HVV := Lib.hid hv
              have d3 : (ck != 0) = false := by simpa using hc0
              clear hv hc0
              go_wp2_with fail
              refine (PC.out).mono ?_
              rintro e w4 ⟨rfl, hB4⟩
              go_wp2_with fail
              go_ret2
              rw [HVV.out]
              exact ToldG.yes (entsK_length _ _) (HS.out.below hB4) (HBel.out.trans (hB4.mono HBel.out.size))
            · have hv : V = ([], 4) := by rw [HV.out]; exact if_neg (fun h => hc0 h.2)
              subst hv
              have d3 : (ck != 0) = true := by simpa using hc0
              clear hc0
              go_wp2_with fail
              refine (PC.out).mono ?_
              rintro e w4 ⟨rfl, hB4⟩
              go_wp2_with fail
              go_ret2
              exact ToldG.no (HBel.out.trans (hB4.mono HBel.out.size))
end Go.Proofs.YtjilejmchaejiaaDoor
