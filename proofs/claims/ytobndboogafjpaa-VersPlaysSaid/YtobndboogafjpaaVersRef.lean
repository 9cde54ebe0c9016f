/- The contracts of the reference's readers: Last, Clean, Dirty, Pick. Condition: at most 65536 rising versions. -/
import Derived.Test.YtobndboogafjpaaVersMore
import Derived.Test.YtobndboogafjpaaVersSame
import Derived.Test.YtobndboogafjpaaFlat
namespace Go.Proofs.Ytobndboogafjpaa
open Go.RowKit Go.Cat Go.Cat.Vers

/-- The slice shows the versions; their bytes lie in an elder world. -/
def VersQ (w0 w : World) (A : Option Addr) (l : List Ver) : Prop :=
  ∃ rs : List (Ver × Option Addr × Nat), rs.map (·.1) = l ∧ Sees w A (rows rs) ∧ ∀ r ∈ rs, Bytes w0 r.2.1 r.1.data
theorem VersQ.below {w0 w w' : World} {A : Option Addr} {l : List Ver} (h : VersQ w0 w A l) (hb : Below w.heap.size w w') : VersQ w0 w' A l := by
  obtain ⟨rs, h1, h2, h3⟩ := h
  exact ⟨rs, h1, h2.below hb, h3⟩
theorem VersQ.at_ {w0 w : World} {A : Option Addr} {l : List Ver} (h : VersQ w0 w A l) {k : Nat} (hk : k < l.length) : ∃ b off A' c', A = some ⟨b, off, none⟩ ∧ b < w.heap.size ∧
    w.cell? ⟨b, off + k * 3, none⟩ = some (.int .u64 l[k].ver) ∧ w.cell? ⟨b, off + k * 3 + 1, none⟩ = some (.int .u64 l[k].seq) ∧ w.cell? ⟨b, off + k * 3 + 2, none⟩ = some (.slice A' l[k].data.length c') ∧ Bytes w0 A' l[k].data := by
  obtain ⟨rs, h1, h2, h3⟩ := h
  have hrl : rs.length = l.length := by rw [← h1]; simp
  have hkr : k < rs.length := by omega
  obtain ⟨b, off, hA, hb, hc⟩ := h2.elem (k := 3) (fun _ => rfl) (by omega) (by omega)
  have e : rs[k].1 = l[k] := by simp [← h1]
  have g0 := hc k hkr 0 (by omega)
  have g1 := hc k hkr 1 (by omega)
  have g2 := hc k hkr 2 (by omega)
  simp only [cells, e] at g0 g1 g2
  have hd := h3 rs[k] (List.getElem_mem hkr)
  rw [e] at hd
  exact ⟨b, off, rs[k].2.1, rs[k].2.2, hA, hb, by simpa using g0, by rw [Nat.add_assoc]; simpa using g1, by rw [Nat.add_assoc]; simpa using g2, hd⟩

/-- A version is told as it lies. -/
def RTold (w0 : World) (v : Ver) (w : World) (e : Ending) (w' : World) : Prop := ∃ A' c', e = .returned (vv v A' c') ∧ Bytes w0 A' v.data ∧ Below w.heap.size w w'
theorem RTold.mk {w0 : World} {v : Ver} {w w' : World} {e : Ending} (A' : Option Addr) (c' : Nat) (he : e = .returned (vv v A' c')) (hb : Bytes w0 A' v.data) (hB : Below w.heap.size w w') : RTold w0 v w e w' := ⟨A', c', he, hb, hB⟩

theorem rlast_any (A : Option Addr) (l : List Ver) (c : Nat) (w0 w : World) (hv : VersQ w0 w A l) (hl : l.length ≤ 65536) :
    Calls Try.prog 22 #[.slice A l.length c] w (RTold w0 (atV l ((l.length : Int) - 1)) w) := by
  have hB0 : Below w.heap.size w (w.alloc (.cells #[.int .u64 0, .int .u64 0, .slice none 0 0] 40)) := (Below.refl _ _).alloc (Nat.le_refl _) _
  rcases Nat.eq_zero_or_pos l.length with h0 | h0
  · obtain rfl : l = [] := List.eq_nil_of_length_eq_zero h0
    rw [atV_neg (by simp)]
    go_enter Try.func22, Try.ntmps22
    go_wp2
    exact bodyPost_ret (v := .agg #[.int .u64 0, .int .u64 0, .slice none 0 0]) (by simp [results, Try.results22, go_sem]) rfl (RTold.mk none 0 rfl Bytes.nil_ hB0)
  · obtain ⟨n, hn⟩ : ∃ n, l.length = n + 1 := ⟨l.length - 1, by omega⟩
    obtain ⟨b, off, A', c', rfl, hbs, e0, e1, e2, hd⟩ := hv.at_ (k := n) (by omega)
    rw [show ((l.length : Int) - 1) = ((n : Nat) : Int) from by omega, atV_in (by omega)]
    obtain ⟨v, hvk⟩ : ∃ v, v = l[n]'(by omega) := ⟨_, rfl⟩
    rw [← hvk] at e0 e1 e2 hd ⊢
    rw [hn]
    have E0 := fun o => (World.cell?_alloc_lt w o _ hbs).trans e0
    have E1 := fun o => (World.cell?_alloc_lt w o _ hbs).trans e1
    have E2 := fun o => (World.cell?_alloc_lt w o _ hbs).trans e2
    have hn2 : n ≤ 65536 := by omega
    have hnI : (n : Int) < (n : Int) + 1 := by omega
    have hnI0 : (0 : Int) ≤ (n : Int) := by omega
    have d0 : ((n : Int) + 1 == 0) = false := by simp; omega
    clear e0 e1 e2 hvk hv hl hn h0
    go_enter Try.func22, Try.ntmps22
    go_wp2
    refine bodyPost_ret (v := vv v A' c') (by simp [results, Try.results22, go_sem]) rfl (RTold.mk A' c' rfl hd ((Below.refl _ _).alloc (Nat.le_refl _) _))

/-- A block that holds a version's three cells. -/
def VBox (t : TypeId) (g : Nat) (v : Ver) (A : Option Addr) (c : Nat) (w : World) : Prop := w.heap[g]? = some (.cells #[.int .u64 v.ver, .int .u64 v.seq, .slice A v.data.length c] t (0, 0))
theorem VBox.lt {t : TypeId} {g c : Nat} {v : Ver} {A : Option Addr} {w : World} (h : VBox t g v A c w) : g < w.heap.size := (Array.getElem?_eq_some_iff.1 h).1
theorem VBox.cells {t : TypeId} {g c : Nat} {v : Ver} {A : Option Addr} {w : World} (h : VBox t g v A c w) : w.cell? ⟨g, 0, none⟩ = some (.int .u64 v.ver) ∧ w.cell? ⟨g, 1, none⟩ = some (.int .u64 v.seq) ∧ w.cell? ⟨g, 2, none⟩ = some (.slice A v.data.length c) ∧
    w.frozen? ⟨g, 0, none⟩ = false ∧ w.frozen? ⟨g, 1, none⟩ = false ∧ w.frozen? ⟨g, 2, none⟩ = false :=
  ⟨cell_of_row w g 0 _ t _ h, cell_of_row w g 1 _ t _ h, cell_of_row w g 2 _ t _ h, frozen_of_row w g 0 _ t h, frozen_of_row w g 1 _ t h, frozen_of_row w g 2 _ t h⟩
theorem VBox.set {t : TypeId} {g c : Nat} {v : Ver} {A : Option Addr} {w : World} (h : VBox t g v A c w) (u : Ver) (B : Option Addr) (d : Nat) :
    VBox t g u B d (((w.setCell ⟨g, 0, none⟩ (.int .u64 u.ver)).setCell ⟨g, 1, none⟩ (.int .u64 u.seq)).setCell ⟨g, 2, none⟩ (.slice B u.data.length d)) := set3_block _ _ _ h
theorem VBox.other {t : TypeId} {g g' c i : Nat} {v : Ver} {A : Option Addr} {w : World} (h : VBox t g v A c w) (hne : g ≠ g') (x : Value) : VBox t g v A c (w.setCell ⟨g', i, none⟩ x) := (set_other x hne).trans h
theorem VBox.other3 {t : TypeId} {g g' c : Nat} {v : Ver} {A : Option Addr} {w : World} (h : VBox t g v A c w) (hne : g ≠ g') (x y z : Value) : VBox t g v A c (((w.setCell ⟨g', 0, none⟩ x).setCell ⟨g', 1, none⟩ y).setCell ⟨g', 2, none⟩ z) := ((h.other hne x).other hne y).other hne z
theorem VBox.below {t : TypeId} {g c : Nat} {v : Ver} {A : Option Addr} {w w' : World} (h : VBox t g v A c w) (hb : Below w.heap.size w w') : VBox t g v A c w' := (hb.block g h.lt).trans h
theorem VBox.alloc {t : TypeId} {g c : Nat} {v : Ver} {A : Option Addr} {w : World} (h : VBox t g v A c w) (o : Obj) : VBox t g v A c (w.alloc o) := h.below ((Below.refl _ _).alloc (Nat.le_refl _) o)
theorem below_set3 {B g : Nat} {w w' : World} (h : Below B w w') (hg : B ≤ g) (x y z : Value) : Below B w (((w'.setCell ⟨g, 0, none⟩ x).setCell ⟨g, 1, none⟩ y).setCell ⟨g, 2, none⟩ z) := ((h.setCell hg _).setCell hg _).setCell hg _

set_option maxRecDepth 100000 in
theorem rclean_any (A : Option Addr) (l : List Ver) (c : Nat) (done : Int) (w0 w : World) (hv : VersQ w0 w A l) (hl : l.length ≤ 65536) (hr : Rising l) :
    Calls Try.prog 23 #[.slice A l.length c, .int .u64 done] w fun e w' => ∃ k, Cleaned l done k ∧ RTold w0 (atV l ((k : Int) - 1)) w e w' := by
  obtain ⟨n, hn⟩ : ∃ n, n = l.length := ⟨_, rfl⟩
  rw [← hn] at hl ⊢
  have HN := Lib.hid hn
  have HR := Lib.hid hr
  clear hn hr
  go_enter Try.func23, Try.ntmps23
  go_wp2
  have hB0 : Below w.heap.size w ((w.alloc (.cells #[.int .u64 0, .int .u64 0, .slice none 0 0] 40)).alloc (.cells #[.int .u64 0, .int .u64 0, .slice none 0 0] 40)) := ((Below.refl _ _).alloc (Nat.le_refl _) _).alloc (by simp) _
  go_loopw [6] (fun i wr => ∃ (k kc : Nat) (v : Ver) (A' : Option Addr) (c' : Nat), k ≤ n ∧ i = .int .i64 k ∧ kc ≤ k ∧ Hid (v = atV l ((kc : Int) - 1)) ∧ Hid (∀ i, i < kc → (l.getD i zero).seq ≤ done) ∧ Hid (∀ i, kc ≤ i → i < k → done < (l.getD i zero).seq) ∧
      VBox 40 w.heap.size zero none 0 wr ∧ VBox 40 (w.heap.size + 1) v A' c' wr ∧ Bytes w0 A' v.data ∧ Below w.heap.size w wr) (fun i _ => n - (intOf i).toNat)
  case atStart =>
    refine ⟨0, 0, zero, none, 0, Nat.zero_le _, rfl, Nat.le_refl _, Lib.hid (atV_neg (by omega)).symm, Lib.hid (fun i hi => by omega), Lib.hid (fun i _ hi => by omega), ?_, ?_, Bytes.nil_, hB0⟩
    · exact VBox.alloc (show VBox _ _ zero none 0 _ from heap_alloc_new w _) _
    · have := heap_alloc_new (w.alloc (.cells #[.int .u64 0, .int .u64 0, .slice none 0 0] 40)) (.cells #[.int .u64 0, .int .u64 0, .slice none 0 0] 40)
      simpa [VBox, zero] using this
  case round =>
    obtain ⟨k, kc, v, A', c', hk, rfl, hkc, HV, HLo, HHi, hb4, hb5, hd, hbel⟩ := hrel
    by_cases hlt : k < n
    · obtain ⟨b, off, A1, c1, rfl, hbs, e0, e1, e2, hd1⟩ := hv.at_ (k := k) (by rw [← HN.out]; exact hlt)
      replace e0 := (hbel.cell (p := ⟨b, _, none⟩) hbs).trans e0
      replace e1 := (hbel.cell (p := ⟨b, _, none⟩) hbs).trans e1
      replace e2 := (hbel.cell (p := ⟨b, _, none⟩) hbs).trans e2
      obtain ⟨u, hu⟩ : ∃ u, u = l[k]'(by rw [← HN.out]; exact hlt) := ⟨_, rfl⟩
      rw [← hu] at e0 e1 e2 hd1
      have hget : l.getD k zero = u := by rw [hu, List.getD_eq_getElem?_getD, List.getElem?_eq_getElem (by rw [← HN.out]; exact hlt)]; rfl
      have HU := Lib.hid hget
      have hkI : (k : Int) < (n : Int) := by omega
      have hk0 : (0 : Int) ≤ (k : Int) := by omega
      have hat : u = atV l (((k + 1 : Nat) : Int) - 1) := by
        rw [show (((k + 1 : Nat) : Int) - 1) = (k : Int) from by omega, atV_in (by rw [← HN.out]; exact hlt)]; exact hu
      have HAt := Lib.hid hat
      clear hu hget hat
      by_cases hs : u.seq ≤ done
      · have t1 : decide (u.seq ≤ done) = true := by simpa using hs
        have HS := Lib.hid hs
        obtain ⟨q0, q1, q2, z0, z1, z2⟩ := hb5.cells
        have H4 := Lib.hid hb4
        have H5 := Lib.hid hb5
        clear hs hb4 hb5
        go_wp2_with fail
        go_roundw
        case rel =>
          refine ⟨k + 1, k + 1, u, A1, c1, by omega, by go_num, Nat.le_refl _, HAt, Lib.hid fun i hi => ?_, Lib.hid fun i h1 h2 => by omega, H4.out.other3 (by omega) _ _ _, H5.out.set _ _ _, hd1, below_set3 hbel (by omega) _ _ _⟩
          have := HR.out.seq (i := i) (j := k) (by omega) (by rw [← HN.out]; omega)
          rw [HU.out] at this
          have := HS.out
          omega
        case measure => simp [intOf]; omega
      · have t1 : decide (u.seq ≤ done) = false := by simpa using hs
        have HS := Lib.hid hs
        clear hs
        go_wp2_with fail
        go_roundw
        case rel =>
          refine ⟨k + 1, kc, v, A', c', by omega, by go_num, by omega, HV, HLo, Lib.hid fun i h1 h2 => ?_, hb4, hb5, hd, hbel⟩
          rcases Nat.lt_or_ge i k with h3 | h3
          · exact HHi.out i h1 h3
          · obtain rfl : i = k := by omega
            rw [HU.out]
            have := HS.out
            omega
        case measure => simp [intOf]; omega
    · obtain rfl : k = n := by omega
      obtain ⟨q0, q1, q2, _, _, _⟩ := hb5.cells
      obtain ⟨r0, r1, r2, y0, y1, y2⟩ := hb4.cells
      have H5 := Lib.hid hb5
      clear hb5
      go_wp2_with fail
      refine bodyPost_ret (v := vv v A' c') (by simp [results, Try.results23, go_sem, r0, r1, r2]) rfl ⟨kc, ⟨by rw [← HN.out]; exact hkc, HLo.out, by rw [← HN.out]; exact HHi.out⟩, ?_⟩
      rw [← HV.out]
      exact RTold.mk A' c' rfl hd (below_set3 hbel (Nat.le_refl _) _ _ _)

theorem rdirty_any (A : Option Addr) (l : List Ver) (c : Nat) (done : Int) (w0 w : World) (hv : VersQ w0 w A l) (hl : l.length ≤ 65536) :
    Calls Try.prog 24 #[.slice A l.length c, .int .u64 done] w fun e w' => e = .returned (.bool (dirty l done)) ∧ Below w.heap.size w w' := by
  have p1 := rlast_any A l c w0 w hv hl
  obtain ⟨v, hvk⟩ : ∃ v, v = atV l ((l.length : Int) - 1) := ⟨_, rfl⟩
  rw [← hvk] at p1
  have hd : dirty l done = (decide (0 < l.length) && decide (done < v.seq)) := by rw [hvk]; rfl
  rw [hd]
  obtain ⟨n, hn⟩ : ∃ n, n = l.length := ⟨_, rfl⟩
  rw [← hn] at p1 hl ⊢
  have P1 := Lib.hid p1
  clear p1 hvk hd hn hv
  have fld : ∀ w A c, (Instr.field 40 (.agg #[.int .u64 v.ver, .int .u64 v.seq, .slice A v.data.length c]) 1).run Try.prog w = .ok (.int .u64 v.seq) w := fun _ _ _ => by kernel_rfl
  by_cases h0 : n = 0
  · have d0 : decide (0 < n) = false := by simp [h0]
    clear h0
    go_enter Try.func24, Try.ntmps24
    go_wp2_with fail
    go_ret
    exact ⟨ret_bool (by rw [d0]; rfl), Below.refl _ _⟩
  · have d0 : decide (0 < n) = true := by simp; omega
    clear h0
    go_enter Try.func24, Try.ntmps24
    go_wp2_with fail
    refine (P1.out).mono ?_
    rintro e w1 ⟨A1, c1, rfl, _, hB⟩
    go_wp2_with fail
    go_ret
    exact ⟨ret_bool (by rw [d0]; rfl), hB⟩

set_option maxRecDepth 100000 in
theorem rpick_any (A : Option Addr) (l : List Ver) (c : Nat) (ver done : Int) (w0 w : World) (hv : VersQ w0 w A l) (hl : l.length ≤ 65536) (hr : Rising l) :
    Calls Try.prog 26 #[.slice A l.length c, .int .u64 ver, .int .u64 done] w fun e w' => ∃ v, Picked l ver done v ∧ RTold w0 v w e w' := by
  obtain ⟨n, hn⟩ : ∃ n, n = l.length := ⟨_, rfl⟩
  have p1 := fun w' (h : Below w.heap.size w w') => rclean_any A l c done w0 w' (hv.below h) hl hr
  rw [← hn] at hl p1 ⊢
  have P1 := Lib.hid p1
  have HN := Lib.hid hn
  clear hn hr p1
  have hB0 : Below w.heap.size w (w.alloc (.cells #[.int .u64 0, .int .u64 0, .slice none 0 0] 40)) := (Below.refl _ _).alloc (Nat.le_refl _) _
  go_enter Try.func26, Try.ntmps26
  go_wp2_with fail
  go_loopw [7] (fun i wr => ∃ (k : Nat), k ≤ n ∧ i = .int .i64 k ∧ Hid (∀ i, i < k → (l.getD i zero).ver ≠ ver) ∧ VBox 40 w.heap.size zero none 0 wr ∧ Below w.heap.size w wr) (fun i _ => n - (intOf i).toNat)
  case atStart => exact ⟨0, Nat.zero_le _, rfl, Lib.hid (fun i hi => by omega), (show VBox _ _ zero none 0 _ from heap_alloc_new w _), hB0⟩
  case round =>
    obtain ⟨k, hk, rfl, HLo, hb4, hbel⟩ := hrel
    by_cases hlt : k < n
    · obtain ⟨b, off, A1, c1, rfl, hbs, e0, e1, e2, hd1⟩ := hv.at_ (k := k) (by rw [← HN.out]; exact hlt)
      replace e0 := (hbel.cell (p := ⟨b, _, none⟩) hbs).trans e0
      replace e1 := (hbel.cell (p := ⟨b, _, none⟩) hbs).trans e1
      replace e2 := (hbel.cell (p := ⟨b, _, none⟩) hbs).trans e2
      obtain ⟨u, hu⟩ : ∃ u, u = l[k]'(by rw [← HN.out]; exact hlt) := ⟨_, rfl⟩
      rw [← hu] at e0 e1 e2 hd1
      have hget : l.getD k zero = u := by rw [hu, List.getD_eq_getElem?_getD, List.getElem?_eq_getElem (by rw [← HN.out]; exact hlt)]; rfl
      have hmem : u ∈ l := by rw [hu]; exact List.getElem_mem _
      have HU := Lib.hid hget
      have HM := Lib.hid hmem
      have hkI : (k : Int) < (n : Int) := by omega
      have hk0 : (0 : Int) ≤ (k : Int) := by omega
      clear hu hget hmem
      by_cases hs : u.ver = ver
      · have t1 : (u.ver == ver) = true := by simpa using hs
        have HS := Lib.hid hs
        obtain ⟨q0, q1, q2, z0, z1, z2⟩ := hb4.cells
        clear hs hb4
        go_wp2_with fail
        refine bodyPost_ret (v := vv u A1 c1) (by simp [results, Try.results26, go_sem, q0, q1, q2]) rfl ⟨u, .inl ⟨HM.out, HS.out⟩, ?_⟩
        exact RTold.mk A1 c1 rfl hd1 (below_set3 hbel (Nat.le_refl _) _ _ _)
      · have t1 : (u.ver == ver) = false := by simpa using hs
        have HS := Lib.hid hs
        clear hs
        go_wp2_with fail
        go_roundw
        case rel =>
          refine ⟨k + 1, by omega, by go_num, Lib.hid fun i h1 => ?_, hb4, hbel⟩
          rcases Nat.lt_or_ge i k with h3 | h3
          · exact HLo.out i h3
          · obtain rfl : i = k := by omega
            rw [HU.out]
            exact HS.out
        case measure => simp [intOf]; omega
    · obtain rfl : k = n := by omega
      have hno : ∀ u ∈ l, u.ver ≠ ver := by
        intro u hu
        obtain ⟨i, hi, rfl⟩ := List.getElem_of_mem hu
        have := HLo.out i (by rw [HN.out]; exact hi)
        rwa [show l.getD i zero = l[i] by rw [List.getD_eq_getElem?_getD, List.getElem?_eq_getElem hi]; rfl] at this
      have HNo := Lib.hid hno
      have H4 := Lib.hid hb4
      clear hno hb4
      go_wp2_with fail
      refine (P1.out _ hbel).mono ?_
      rintro e w1 ⟨kc, hkc, A1, c1, rfl, hd1, hB1⟩
      obtain ⟨v, hvk⟩ : ∃ v, v = atV l ((kc : Int) - 1) := ⟨_, rfl⟩
      rw [← hvk] at hd1 ⊢
      have HV := Lib.hid hvk
      have HK := Lib.hid hkc
      have hb1 := H4.out.below hB1
      have hlt1 := hb1.lt
      have hbel1 : Below w.heap.size w w1 := hbel.trans (hB1.mono hbel.size)
      have hb2 := hb1.alloc (.cells #[.int .u64 v.ver, .int .u64 v.seq, .slice A1 v.data.length c1] 40)
      obtain ⟨q0, q1, q2, _, _, _⟩ := hb2.cells
      obtain ⟨p0, p1, p2, z0, z1, z2⟩ := hb1.cells
      have hgs := fun a b c => stored_cells (a := a) (b := b) (c := c) hlt1 (fun i => show w1.cell? ⟨w.heap.size, i, none⟩ = #[.int .u64 0, .int .u64 0, .slice none 0 0][i]? from cell_of_row w1 _ i _ _ _ hb1) (.cells #[.int .u64 v.ver, .int .u64 v.seq, .slice A1 v.data.length c1] 40)
      have HG := Lib.hid hgs
      have hbel2 : Below w.heap.size w (w1.alloc (.cells #[.int .u64 v.ver, .int .u64 v.seq, .slice A1 v.data.length c1] 40)) := hbel1.alloc (by omega) _
      clear hvk hkc hb1 hb2 hgs
      by_cases hs : ver < v.ver
      · have t1 : decide (ver < v.ver) = true := by simpa using hs
        have HS := Lib.hid hs
        clear hs
        go_wp2_with fail
        obtain ⟨g0, g1, g2⟩ := HG.out (.int .u64 v.ver) (.int .u64 v.seq) (.slice A1 v.data.length c1)
        refine bodyPost_ret (v := vv v A1 c1) (by simp [results, Try.results26, go_sem, g0, g1, g2]) rfl ⟨v, .inr ⟨HNo.out, kc, HK.out, .inl ⟨by rw [← HV.out]; exact HS.out, HV.out⟩⟩, ?_⟩
        exact RTold.mk A1 c1 rfl hd1 ((below_set3 hbel1 (Nat.le_refl _) _ _ _).alloc (by have := hbel1.size; simpa [World.setCell] using this) _)
      · have t1 : decide (ver < v.ver) = false := by simpa using hs
        have HS := Lib.hid hs
        clear hs
        go_wp2_with fail
        obtain ⟨g0, g1, g2⟩ := HG.out (.int .u64 0) (.int .u64 0) (.slice none 0 0)
        refine bodyPost_ret (v := vv zero none 0) (by simp [results, Try.results26, go_sem, g0, g1, g2, zero]) rfl ⟨zero, .inr ⟨HNo.out, kc, HK.out, .inr ⟨by rw [← HV.out]; have := HS.out; omega, rfl⟩⟩, ?_⟩
        exact RTold.mk none 0 rfl Bytes.nil_ ((below_set3 hbel1 (Nat.le_refl _) _ _ _).alloc (by have := hbel1.size; simpa [World.setCell] using this) _)
end Go.Proofs.Ytobndboogafjpaa
