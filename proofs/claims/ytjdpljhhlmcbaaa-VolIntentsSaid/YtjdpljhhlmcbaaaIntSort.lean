/- The contract of vol.Sort at 40 patches or fewer. Condition: the patches' bytes below 2^47. -/
import Derived.Test.YtjdpljhhlmcbaaaIntOurs
import Derived.Test.YtjdpljhhlmcbaaaSortK
import Derived.Test.YtjdpljhhlmcbaaaStStable
import Derived.Shelf.SlSortCmp.NoneTotal
namespace Go.Cat.Vol
open Go.RowKit Go.Cat Go.Sort Go.Proofs
instance : Inhabited Pv := ⟨⟨0, 0, []⟩⟩
/-- A row's patch, and the place at which it stood. -/
abbrev TP := Pr × Nat
def encT (x : TP) : List Value := pcells x.1
def cfT (x y : TP) : Int := if x.1.1.key < y.1.1.key then -1 else if y.1.1.key < x.1.1.key then 1 else 0
def tagT (x : TP) : Nat := x.2
theorem ltOf_cfT (x y : TP) : ltOf cfT x y = decide (x.1.1.key < y.1.1.key) := by
  unfold ltOf cfT
  by_cases h1 : x.1.1.key < y.1.1.key
  · simp [h1]
  · by_cases h2 : y.1.1.key < x.1.1.key <;> simp [h1, h2]
theorem swo_cfT : SWO (ltOf cfT) where
  irrefl x := by rw [ltOf_cfT]; simp
  trans x y z h1 h2 := by rw [ltOf_cfT] at *; simp at *; omega
  ntrans x y z h1 h2 := by rw [ltOf_cfT] at *; simp at *; omega
theorem encT_len (x : TP) : (encT x).length = 3 := rfl
theorem one_encT (x : TP) : ∀ u ∈ encT x, u.oneCell' = true := one_pcells x.1
theorem prows_zip (rs : List Pr) : (rs.zipIdx).flatMap encT = prows rs := by
  have h : rs.zipIdx.map (·.1) = rs := List.zipIdx_map_fst _ _
  have h2 : prows (rs.zipIdx.map (·.1)) = (rs.zipIdx).flatMap encT := by
    show (rs.zipIdx.map (·.1)).flatMap pcells = _
    rw [List.flatMap_map]
    rfl
  rw [← h2, h]
theorem tagUp_zip (rs : List Pr) : Go.Cat.St.TagUp tagT (rs.zipIdx).toArray 0 (rs.zipIdx).toArray.size := by
  intro p q _ hpq hq
  have hq' : q < rs.length := by simpa using hq
  rw [getElem!_pos _ p (by simp; omega), getElem!_pos _ q (by simp; omega)]
  simp [tagT]
  omega
/-- What the sort leaves is the patches by rising keys. -/
theorem sorted_tp {rs : List Pr} {d' : Array TP} (hp : PermIn 0 (rs.zipIdx).toArray.size (rs.zipIdx).toArray d') (hs : SortedIn (lexO (ltOf cfT) tagT) 0 (rs.zipIdx).toArray.size d') : d'.toList.Perm rs.zipIdx ∧ (d'.toList.map (·.1)).map (·.1) = sortV (rs.map (·.1)) := by
  have hsz : d'.size = (rs.zipIdx).toArray.size := hp.1
  have hperm : d'.toList.Perm rs.zipIdx := by
    have h1 := hp.2.2
    have e1 : d'.extract 0 (rs.zipIdx).toArray.size = d' := by rw [← hsz]; simp
    have e2 : (rs.zipIdx).toArray.extract 0 (rs.zipIdx).toArray.size = (rs.zipIdx).toArray := Array.extract_size
    rw [e1, e2] at h1
    exact h1
  refine ⟨hperm, ?_⟩
  have hq : (d'.toList.map fun x : TP => ((x.1.1, x.2) : TV)).Perm ((rs.map (·.1)).zipIdx) := by
    have h1 := hperm.map (fun x : TP => ((x.1.1, x.2) : TV))
    have h2 : (rs.zipIdx).map (fun x : TP => ((x.1.1, x.2) : TV)) = (rs.map (·.1)).zipIdx := by
      rw [List.zipIdx_map]
      rfl
    rw [h2] at h1
    exact h1
  have hw : (d'.toList.map fun x : TP => ((x.1.1, x.2) : TV)).Pairwise fun x y => leT x y = true := by
    rw [List.pairwise_map, List.pairwise_iff_getElem]
    intro i j hi hj hij
    have hj' : j < d'.size := by simpa using hj
    have := hs i j (Nat.zero_le _) hij (by omega)
    rw [getElem!_pos d' j hj', getElem!_pos d' i (by omega)] at this
    unfold lexO at this
    rw [Bool.or_eq_false_iff, Bool.and_eq_false_iff, ltOf_cfT, ltOf_cfT] at this
    simp only [decide_eq_false_iff_not, Bool.not_eq_false', decide_eq_true_iff] at this
    rw [leT_iff]
    show d'[i].1.1.key < d'[j].1.1.key ∨ (d'[i].1.1.key = d'[j].1.1.key ∧ d'[i].2 ≤ d'[j].2)
    unfold tagT at this
    omega
  have := sort_uniq hq hw
  rw [← this, List.map_map, List.map_map]
  rfl
end Go.Cat.Vol
namespace Go.Proofs.Ytjdpljhhlmcbaaa
open Go.RowKit Go.Cat Go.Cat.Vol Go.Sort Go.Lib

theorem isnan_u32 (x : Int) (w : World) : Calls Try.prog 74 #[.int .u32 x] w fun e w' => e = .returned (.bool false) ∧ w = w' := by
  have d : (x != x) = false := by simp
  go_enter Try.func74, Try.ntmps74
  go_wp2
  go_ret
  exact ⟨rfl, rfl⟩

theorem cmp_u32 (x y : Int) (w : World) : Calls Try.prog 52 #[.int .u32 x, .int .u32 y] w fun e w' => e = .returned (.int .i64 (if x < y then -1 else if y < x then 1 else 0)) ∧ w = w' := by
  have P := Lib.hid (fun x W => isnan_u32 x W)
  by_cases h1 : x < y
  · have d1 : decide (x < y) = true := by simpa using h1
    rw [if_pos h1]
    go_enter Try.func52, Try.ntmps52
    go_wp2_with (go_at_call 74; refine (P.out _ _).mono ?_; rintro e w' ⟨rfl, rfl⟩)
    go_ret
    exact ⟨rfl, rfl⟩
  · have d1 : decide (x < y) = false := by simpa using h1
    rw [if_neg h1]
    by_cases h2 : y < x
    · have d2 : decide (y < x) = true := by simpa using h2
      rw [if_pos h2]
      go_enter Try.func52, Try.ntmps52
      go_wp2_with (go_at_call 74; refine (P.out _ _).mono ?_; rintro e w' ⟨rfl, rfl⟩)
      go_ret
      exact ⟨rfl, rfl⟩
    · have d2 : decide (y < x) = false := by simpa using h2
      rw [if_neg h2]
      go_enter Try.func52, Try.ntmps52
      go_wp2_with (go_at_call 74; refine (P.out _ _).mono ?_; rintro e w' ⟨rfl, rfl⟩)
      go_ret
      exact ⟨rfl, rfl⟩

set_option maxHeartbeats 1000000 in
theorem cmppat_any (x y : TP) (W : World) : Calls Try.prog 51 #[.agg #[.int .u32 x.1.1.key, .int .u64 x.1.1.ver, .slice x.1.2.1 x.1.1.b.length x.1.2.2], .agg #[.int .u32 y.1.1.key, .int .u64 y.1.1.ver, .slice y.1.2.1 y.1.1.b.length y.1.2.2]] W fun e w' => e = .returned (.int .i64 (cfT x y)) ∧ ∃ q os', w' = grow (W.drewN q) os' := by
  have hcon := fun W' => cmp_u32 x.1.1.key y.1.1.key W'
  have e : (if x.1.1.key < y.1.1.key then (-1 : Int) else if y.1.1.key < x.1.1.key then 1 else 0) = cfT x y := rfl
  rw [e] at hcon
  generalize cfT x y = r at hcon ⊢
  clear e
  generalize x.1.1.key = k1 at hcon ⊢
  generalize x.1.1.ver = v1
  generalize x.1.2.1 = A1
  generalize x.1.1.b.length = n1
  generalize x.1.2.2 = c1
  generalize y.1.1.key = k2 at hcon ⊢
  generalize y.1.1.ver = v2
  generalize y.1.2.1 = A2
  generalize y.1.1.b.length = n2
  generalize y.1.2.2 = c2
  have HC := Lib.hid hcon
  clear hcon
  go_enter Try.func51, Try.ntmps51
  go_wp2_with fail
  refine (HC.out _).mono ?_
  rintro e w' ⟨rfl, rfl⟩
  go_wp2_with fail
  go_ret
  exact ⟨rfl, 0, _, by rw [alloc_eq_grow, alloc_eq_grow, grow_grow]; rfl⟩

theorem cmpLays_pat (blk off size : Nat) (w : World) : CmpLays Try.prog 51 #[] encT 3 cfT blk off size w := fun _ _ _ _ x y => cmppat_any x y _

/-- What the sort of a row that the call made leaves: the same row, the patches by rising keys, the rest as it was. -/
def ToldS (base : Nat) (A : Option Addr) (c : Nat) (rs : List Pr) (w : World) (e : Ending) (w' : World) : Prop :=
  e = .returned (.tuple #[]) ∧ ∃ rs', rs'.Perm rs ∧ rs'.map (·.1) = sortV (rs.map (·.1)) ∧ w'.ownsRow base 80 3 (.slice A rs.length c) rs.length (prows rs') ∧ w.grownBy w' (A.map (·.block))

theorem sortstable_any (base : Nat) (A : Option Addr) (rs : List Pr) (c : Nat) (w : World) (ho : w.ownsRow base 80 3 (.slice A rs.length c) rs.length (prows rs)) (hn : rs.length ≤ 40) :
    Calls Try.prog 50 #[.slice A rs.length c, .func (.func 51) #[] #[]] w (ToldS base A c rs w) := by
  by_cases h0 : rs.length = 0
  · have hrs : rs = [] := List.eq_nil_of_length_eq_zero h0
    subst hrs
    have P1 := Lib.hid (fun W => AnyF.insertionSortCmpFunc_none (P := Try.prog) Try.insPatch A c (.func (.func 51) #[] #[]) W)
    have P2 : Hid (∀ W, Calls Try.prog 81 #[.slice A 0 c, .int .i64 0, .int .i64 0, .func (.func 51) #[] #[]] W fun e w' => e = .returned (.tuple #[]) ∧ w' = W) := P1.out
    have P3 : Hid (Calls Try.prog 73 #[.slice A 0 c, .int .i64 0, .func (.func 51) #[] #[]] w fun e w' => e = .returned (.tuple #[]) ∧ w' = w) := by
      clear ho hn P1 h0
      go_enter Try.func73, Try.ntmps73
      go_wp2_with fail
      refine wp_loop_rounds 1 ?_
      rw [rounds_succ]
      go_wp2_with fail
      refine (P2.out _).mono ?_
      rintro e w1 ⟨rfl, rfl⟩
      go_wp2_with fail
      refine wp_loop_rounds 1 ?_
      rw [rounds_succ]
      go_wp2_with fail
      go_end0
      exact ⟨rfl, rfl⟩
    have HO := Lib.hid ho
    clear P1 P2 ho hn h0
    show Calls Try.prog 50 #[.slice A 0 c, .func (.func 51) #[] #[]] w _
    go_enter Try.func50, Try.ntmps50
    go_wp2_with fail
    refine (P3.out).mono ?_
    rintro e w1 ⟨rfl, rfl⟩
    go_wp2_with fail
    go_end0
    exact ⟨rfl, [], List.Perm.refl _, (List.Perm.eq_nil (sortV_perm [])).symm, HO.out, ⟨rfl, rfl, rfl, Nat.le_refl _, fun _ _ _ => rfl⟩⟩
  · have hlen : (rs.zipIdx).length = rs.length := List.length_zipIdx
    have hsz : (rs.zipIdx).toArray.size = rs.length := by simp
    have ho2 : w.ownsRow base 80 3 (.slice A (rs.zipIdx).length c) (rs.zipIdx).length ((rs.zipIdx).flatMap encT) := by rw [hlen, prows_zip]; exact ho
    obtain ⟨g, rfl, hbg, hgl, hH, hback⟩ := own_sortK encT_len ho2 (by omega)
    have eg : ∀ args w, (callFunc 51 args).run Try.prog w = .ok (.enter 51 args) w := enters_of Try.func51 (by kernel_rfl) rfl
    have hst := Go.Cat.St.stable_any encT cfT tagT swo_cfT 51 #[] g 0 c (rs.zipIdx).toArray w eg (fun W => cmpLays_pat _ _ _ W) ⟨encT_len, one_encT, hH, hgl⟩ (by rw [hsz]; exact hn) (tagUp_zip rs)
    have P1 : Hid (Calls Try.prog 73 #[.slice (some ⟨g, 0, none⟩) rs.length c, .int .i64 (rs.length : Int), .func (.func 51) #[] #[]] w (ToldS base (some ⟨g, 0, none⟩) c rs w)) := by
      rw [hsz] at hst
      refine hst.mono ?_
      rintro e w' ⟨rfl, d', ⟨n, os, rfl⟩, hp, hs⟩
      rw [← hsz] at hp hs
      obtain ⟨q1, q2⟩ := sorted_tp hp hs
      obtain ⟨o1, o2⟩ := hback d' n os (by rw [hp.1, hsz, hlen])
      refine ⟨rfl, d'.toList.map (·.1), ?_, q2, ?_, o2⟩
      · have := q1.map (·.1)
        rw [List.zipIdx_map_fst] at this
        exact this
      · rw [hlen] at o1
        have e : prows (d'.toList.map (·.1)) = d'.toList.flatMap encT := by
          show (d'.toList.map (·.1)).flatMap pcells = _
          rw [List.flatMap_map]
          rfl
        rw [e]
        exact o1
    obtain ⟨n, hnn⟩ : ∃ n, n = rs.length := ⟨_, rfl⟩
    rw [← hnn] at P1 ⊢
    clear hst hback hH ho2 ho hlen hsz h0 hn hnn
    go_enter Try.func50, Try.ntmps50
    go_wp2_with fail
    refine (P1.out).mono ?_
    rintro e w1 ⟨rfl, rs', h1, h2, h3, h4⟩
    go_wp2_with fail
    go_end0
    exact ⟨rfl, rs', h1, h2, h3, h4⟩
end Go.Proofs.Ytjdpljhhlmcbaaa
