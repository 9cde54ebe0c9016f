/- The walk of the law VersPlays. Condition: numbers within their kinds. -/
import Derived.Test.YtobndboogafjpaaVersAll
import Derived.Test.YtobndboogafjpaaVersAwake
import Derived.Deep.DeepCutAuto
namespace Go.Cat.Vers
open Go.RowKit
/-- A call of the law's: its cells. -/
structure OpV where
  kind : Int
  x : Ver
  A : Option Addr
  c : Nat
  ver : Int
  done : Int
def opCells (o : OpV) : List Value := [.int .i64 o.kind, .int .u64 o.x.ver, .int .u64 o.x.seq, .slice o.A o.x.data.length o.c, .int .u64 o.ver, .int .u64 o.done]
structure OpIn (w : World) (o : OpV) : Prop where
  data : Bytes w o.A o.x.data
  x : VerIn o.x o.c
  ver : 0 ≤ o.ver ∧ o.ver ≤ 18446744073709551615
  done : 0 ≤ o.done ∧ o.done ≤ 18446744073709551615
end Go.Cat.Vers
namespace Go.Proofs.Ytobndboogafjpaa
open Go.RowKit Go.Cat Go.Cat.Vers

/-- What the loop keeps. -/
structure PlayR (w : World) (R : Value) (A : Option Addr) (c : Nat) (rs : List (Ver × Option Addr × Nat)) (l : List Ver) (k : Nat) (wr : World) : Prop where
  row : RRow w w.heap.size A c rs l wr
  hold : HoldV w.heap.size w.heap.size R wr l
  right : Right k l
  bel : Below w.heap.size w wr
theorem PlayR.below {w wr w' : World} {R : Value} {A : Option Addr} {c : Nat} {rs : List (Ver × Option Addr × Nat)} {l : List Ver} {k : Nat} (h : PlayR w R A c rs l k wr) (hb : Below wr.heap.size wr w') : PlayR w R A c rs l k w' :=
  ⟨h.row.below hb, h.hold.below hb, h.right, h.bel.trans (hb.mono h.bel.size)⟩

/-- What the tests of a round read, in a later world. -/
def PlS (H : Nat) (o : OpV) (w : World) (R : Value) (A : Option Addr) (c : Nat) (rs : List (Ver × Option Addr × Nat)) (l : List Ver) (k : Nat) (w' : World) : Prop :=
  w'.cell? ⟨H, 4, none⟩ = some (.int .u64 o.ver) ∧ w'.cell? ⟨H, 5, none⟩ = some (.int .u64 o.done) ∧ PlayR w R A c rs l k w'
theorem PlS.next {H : Nat} {o : OpV} {w : World} {R : Value} {A : Option Addr} {c : Nat} {rs : List (Ver × Option Addr × Nat)} {l : List Ver} {k : Nat} {w1 w2 : World} (h : PlS H o w R A c rs l k w1) (hb : Below w1.heap.size w1 w2) : PlS H o w R A c rs l k w2 := by
  obtain ⟨h0, h1, h2⟩ := h
  have g : H < w1.heap.size := World.block_lt_of_cell? _ _ h0
  exact ⟨(hb.cell (p := ⟨H, _, none⟩) g).trans h0, (hb.cell (p := ⟨H, _, none⟩) g).trans h1, h2.below hb⟩
theorem PlS.p {H : Nat} {o : OpV} {w : World} {R : Value} {A : Option Addr} {c : Nat} {rs : List (Ver × Option Addr × Nat)} {l : List Ver} {k : Nat} {w1 : World} (h : PlS H o w R A c rs l k w1) : PlayR w R A c rs l k w1 := h.2.2

theorem right_at {k : Nat} {l : List Ver} (h : Right k l) (i : Int) : (atV l i).data.length ≤ 2048 := by
  by_cases hz : atV l i = zero
  · rw [hz]; exact Nat.zero_le _
  · exact h.data _ (atV_mem hz)
theorem picked_len {k : Nat} {l : List Ver} {ver done : Int} {v : Ver} (h : Right k l) (hp : Picked l ver done v) : v.data.length ≤ 9223372036854775807 := by
  rcases hp with ⟨hm, _⟩ | ⟨_, k', _, ⟨_, rfl⟩ | ⟨_, rfl⟩⟩
  · have := h.data v hm; omega
  · have := right_at h ((k' : Int) - 1); omega
  · exact Nat.zero_le _
theorem bytes_own {w : World} {base n c : Nat} {A : Option Addr} {bs : List UInt8} (h : w.ownsRow base 5 1 (.slice A n c) n (bs.map by8)) : Bytes w A bs := Sees.of_own h
theorem list_shown (p : Option Addr) (l : List Ver) (w : World) (hb : Blk w p l) (hs : Small l) :
    Calls Try.prog 20 #[.pointer p] w fun e w' => ∃ A c, e = .returned (.slice A l.length c) ∧ VersR w' A l ∧ Below w.heap.size w w' :=
  (list_any p l w hb hs).mono fun _ _ ⟨rs, A, c, he, hrs, hrow, hds, hB⟩ => ⟨A, c, he, ⟨rs, hrs, ownN_sees hrow, fun r hr => bytes_own (hds r hr)⟩, hB⟩

/-- The box of the call is none of the block's own. -/
theorem play_box {W2 w4 : World} {H base g : Nat} {R : Value} {l : List Ver} {cs : Array Value} {fr : Nat × Nat} (hb : W2.heap[H]? = some (.cells cs 42 fr)) (hB : Below W2.heap.size W2 w4) (hlt : H < W2.heap.size) (hh : HoldV base g R w4 l) : ¬ Mine g R H := by
  intro hm
  obtain ⟨_, cs', e, fr', he, ht⟩ := hh.mine H hm
  rw [hB.block H hlt, hb] at he
  injection he with he
  injection he with _ he
  subst he
  rcases ht with h | h
  · exact absurd h (by decide)
  · exact absurd h (by decide)

set_option maxRecDepth 100000 in
set_option maxHeartbeats 4000000 in
theorem plays_walk (Ao : Option Addr) (co : Nat) (ops : List OpV) (w : World) (hsee : Sees w Ao (ops.flatMap opCells)) (hops : ∀ o ∈ ops, OpIn w o) (hm : ops.length ≤ maxLen) :
    Calls Try.prog 4 #[.slice Ao ops.length co] w fun e w' => e = .returned (.bool true) ∧ Below w.heap.size w w' := by
  unfold maxLen at hm
  obtain ⟨n, hn⟩ : ∃ n, n = ops.length := ⟨_, rfl⟩
  rw [← hn] at hm ⊢
  have HN := Lib.hid hn
  have HSee := Lib.hid hsee
  have HOps := Lib.hid hops
  clear hn hsee hops
  go_enter Try.func4, Try.ntmps4
  go_wp2_with fail
  refine (new_any w).mono ?_
  rintro e w1 ⟨rfl, hh1, hB1⟩
  have hP1 : PlayR w (.slice none 0 0) none 0 [] [] 0 w1 := ⟨⟨rfl, World.ownsRow_nil _ _ _ _, by simp⟩, hh1, Right.none, hB1⟩
  have HP1 := Lib.hid hP1
  clear hP1 hh1 hB1
  go_wp2_with fail
  go_loopw [4, 5] (fun r i wr => ∃ (k : Nat) (R : Value) (A : Option Addr) (c : Nat) (rs : List (Ver × Option Addr × Nat)) (l : List Ver), k ≤ n ∧ k ≤ 40 ∧ i = .int .i64 k ∧ r = .slice A l.length c ∧ Hid (PlayR w R A c rs l k wr)) (fun _ i _ => n - (intOf i).toNat)
  case atStart => exact ⟨0, _, none, 0, [], [], Nat.zero_le _, Nat.zero_le _, rfl, rfl, HP1⟩
  case round =>
    obtain ⟨k, R, A, c, rs, l, hk, hk40, rfl, rfl, HP⟩ := hrel
    by_cases hlt : k < n
    · by_cases hlt2 : k < 40
      · have hko : k < ops.length := by rw [← HN.out]; exact hlt
        obtain ⟨b, off, hAo, hbs, hc⟩ := HSee.out.elem (f := opCells) (k := 6) (fun _ => rfl) (by omega) (by omega)
        obtain ⟨o, ho⟩ : ∃ o, o = ops[k] := ⟨_, rfl⟩
        have hin : OpIn w o := HOps.out o (by rw [ho]; exact List.getElem_mem _)
        have bel := HP.out.bel
        have e0 := (bel.cell (p := ⟨b, _, none⟩) hbs).trans (hc k hko 0 (by omega))
        have e1 := (bel.cell (p := ⟨b, _, none⟩) hbs).trans (hc k hko 1 (by omega))
        have e2 := (bel.cell (p := ⟨b, _, none⟩) hbs).trans (hc k hko 2 (by omega))
        have e3 := (bel.cell (p := ⟨b, _, none⟩) hbs).trans (hc k hko 3 (by omega))
        have e4 := (bel.cell (p := ⟨b, _, none⟩) hbs).trans (hc k hko 4 (by omega))
        have e5 := (bel.cell (p := ⟨b, _, none⟩) hbs).trans (hc k hko 5 (by omega))
        rw [← ho] at e0 e1 e2 e3 e4 e5
        replace e0 : wr.cell? ⟨b, off + k * 6, none⟩ = some (.int .i64 o.kind) := e0
        replace e1 : wr.cell? ⟨b, off + k * 6 + 1, none⟩ = some (.int .u64 o.x.ver) := by rw [Nat.add_assoc]; exact e1
        replace e2 : wr.cell? ⟨b, off + k * 6 + 2, none⟩ = some (.int .u64 o.x.seq) := by rw [Nat.add_assoc]; exact e2
        replace e3 : wr.cell? ⟨b, off + k * 6 + 3, none⟩ = some (.slice o.A o.x.data.length o.c) := by rw [Nat.add_assoc]; exact e3
        replace e4 : wr.cell? ⟨b, off + k * 6 + 4, none⟩ = some (.int .u64 o.ver) := by rw [Nat.add_assoc]; exact e4
        replace e5 : wr.cell? ⟨b, off + k * 6 + 5, none⟩ = some (.int .u64 o.done) := by rw [Nat.add_assoc]; exact e5
        have HIn := Lib.hid hin
        have hkI : (k : Int) < (n : Int) := by omega
        have hk4 : decide ((k : Int) < 40) = true := by simp; omega
        have hk0 : (0 : Int) ≤ (k : Int) := by omega
        have hd0 : o.x.data.length ≤ maxLen := Nat.le_trans hin.x.cap hin.x.max
        unfold maxLen at hd0
        have HAo := Lib.hid hAo
        rw [hAo]
        have hB2 : Below wr.heap.size wr (wr.alloc (.cells #[.int .i64 o.kind, .int .u64 o.x.ver, .int .u64 o.x.seq, .slice o.A o.x.data.length o.c, .int .u64 o.ver, .int .u64 o.done] 42)) := (Below.refl _ _).alloc (Nat.le_refl _) _
        have hbx := heap_alloc_new wr (.cells #[.int .i64 o.kind, .int .u64 o.x.ver, .int .u64 o.x.seq, .slice o.A o.x.data.length o.c, .int .u64 o.ver, .int .u64 o.done] 42)
        clear ho hc hin bel hAo hbs
        by_cases hlong : 2100 < o.x.data.length
        · have d1 : decide ((2100 : Int) < (o.x.data.length : Int)) = true := by simp; omega
          clear hbx
          go_wp2_with fail
          refine (awake_any _).mono ?_
          rintro e w3 ⟨rfl, hB3⟩
          have hfin := ((HP.out.below hB2).below hB3).bel
          go_wp2_with fail
          go_ret
          exact ⟨rfl, hfin⟩
        · have d1 : decide ((2100 : Int) < (o.x.data.length : Int)) = false := by simp; omega
          go_upto_if 34 with (fail)
          obtain ⟨W2, hW2⟩ : ∃ W2, W2 = wr.alloc (.cells #[.int .i64 o.kind, .int .u64 o.x.ver, .int .u64 o.x.seq, .slice o.A o.x.data.length o.c, .int .u64 o.ver, .int .u64 o.done] 42) := ⟨_, rfl⟩
          rw [← hW2] at hB2 hbx ⊢
          have hP2 := HP.out.below hB2
          have HP2 := Lib.hid hP2
          have HBx := Lib.hid hbx
          have hgs : wr.heap.size < W2.heap.size := (Array.getElem?_eq_some_iff.1 hbx).1
          obtain ⟨H, hH⟩ : ∃ H, H = wr.heap.size := ⟨_, rfl⟩
          rw [← hH] at HBx hgs ⊢
          have x0 : W2.cell? ⟨H, 1, none⟩ = some (.int .u64 o.x.ver) := cell_of_row W2 H 1 _ _ _ HBx.out
          have x1 : W2.cell? ⟨H, 2, none⟩ = some (.int .u64 o.x.seq) := cell_of_row W2 H 2 _ _ _ HBx.out
          have x2 : W2.cell? ⟨H, 3, none⟩ = some (.slice o.A o.x.data.length o.c) := cell_of_row W2 H 3 _ _ _ HBx.out
          have x4 : W2.cell? ⟨H, 5, none⟩ = some (.int .u64 o.done) := cell_of_row W2 H 5 _ _ _ HBx.out
          have hdl : o.x.data.length ≤ 2100 := by omega
          clear hW2 hP2 hbx hH hB2 e0 e1 e2 e3 e4 e5 hd0 hlong
          go_cut [4] (fun s4 wc => ∃ (R : Value) (A : Option Addr) (c : Nat) (rs : List (Ver × Option Addr × Nat)) (l : List Ver), s4 = .slice A l.length c ∧ Hid (PlayR w R A c rs l (k + 1) wc) ∧ wc.heap[H]? = W2.heap[H]? ∧ H < wc.heap.size)
          case first =>
            by_cases hkind : o.kind = 0
            · have t1 : (o.kind == 0) = true := by simpa using hkind
              obtain ⟨er, her⟩ : ∃ er, er = putErr l o.x := ⟨_, rfl⟩
              obtain ⟨L, hL⟩ : ∃ L, L = putL l o.x := ⟨_, rfl⟩
              have p1 := rput_all HP2.out.row HP2.out.right (by omega) o.x o.A o.c HIn.out.x HIn.out.data hdl HP2.out.bel.size
              rw [← her, ← hL] at p1
              have P1 := Lib.hid p1
              have HEr := Lib.hid her
              have HL := Lib.hid hL
              clear p1 her hL hkind
              go_wp2_with fail
              refine (P1.out).mono ?_
              rintro e w3 ⟨A', c', rs', rfl, hR3, hB3⟩
              have y0 := (hB3.cell (p := ⟨H, _, none⟩) hgs).trans x0
              have y1 := (hB3.cell (p := ⟨H, _, none⟩) hgs).trans x1
              have y2 := (hB3.cell (p := ⟨H, _, none⟩) hgs).trans x2
              have HR3 := Lib.hid hR3
              have HP3 := Lib.hid (HP2.out.below hB3)
              have hB3' := hB3
              clear hR3
              go_wp2_with fail
              refine (ours_any o.A o.c o.x _).mono ?_
              rintro e w4 ⟨rfl, hB4⟩
              have HR4 := Lib.hid (HR3.out.below hB4)
              have HP4 := Lib.hid (HP3.out.below hB4)
              have p2 := put_all HP4.out.hold HP4.out.right (by omega) o.x o.A o.c HIn.out.x (HIn.out.data.below HP4.out.bel) hdl HP4.out.bel.size
              rw [← HEr.out, ← HL.out] at p2
              have P2 := Lib.hid p2
              have hB4' := hB3'.trans (hB4.mono hB3'.size)
              clear p2 y0 y1 y2 hB3 hB4 hB3'
              go_wp2_with fail
              refine (P2.out).mono ?_
              rintro e w5 ⟨rfl, R', hh5, ht5⟩
              have hP5 : PlayR w R' A' c' rs' L (k + 1) w5 := by
                refine ⟨HR4.out.touch HP4.out.hold ht5, hh5, ?_, HP4.out.bel.trans (mine_below HP4.out.hold HP4.out.bel.size ht5)⟩
                rw [HL.out]
                exact right_put HP4.out.right HIn.out.x.v0 HIn.out.x.s0
              have hx5 : w5.heap[H]? = W2.heap[H]? := by
                rw [ht5.block H (by have := hB4'.size; omega) ?_, hB4'.block H hgs]
                exact play_box HBx.out hB4' hgs HP4.out.hold
              have hs5 : H < w5.heap.size := by have := ht5.size; have := hB4'.size; omega
              have HP5 := Lib.hid hP5
              have HX5 := Lib.hid hx5
              clear hP5 hx5 ht5 hh5
              go_wp2_with fail
              go_meet
              exact ⟨R', A', c', rs', L, rfl, HP5, HX5.out, hs5⟩
            · have t1 : (o.kind == 0) = false := by simpa using hkind
              have p1 := rtrim_any A rs l c o.done w W2 HP2.out.row.map (ownN_sees HP2.out.row.row) HP2.out.row.bytes (by have := HP2.out.right.len; omega) HP2.out.right.rise (fun v hv => (HP2.out.right.pos v hv).2)
              have P1 := Lib.hid p1
              clear p1 hkind
              go_wp2_with fail
              refine (P1.out).mono ?_
              rintro e w3 ⟨kc, hkc, A', c', rfl, hR3, hB3⟩
              obtain ⟨L, hL⟩ : ∃ L, L = l.drop (kc - 1) := ⟨_, rfl⟩
              obtain ⟨rs', hrs'⟩ : ∃ rs', rs' = rs.drop (kc - 1) := ⟨_, rfl⟩
              have hmap : rs'.map (·.1) = L := by rw [hrs', hL, List.map_drop, HP2.out.row.map]
              have hlen : rs'.length = L.length := by rw [← hmap]; simp
              rw [← hrs', hlen] at hR3 ⊢
              have hR3' : RRow w w.heap.size A' c' rs' L w3 := ⟨hmap, own_mono hR3 HP2.out.bel.size, fun r hr => HP2.out.row.bytes r (by rw [hrs'] at hr; exact List.mem_of_mem_drop hr)⟩
              have HR3 := Lib.hid hR3'
              have HP3 := Lib.hid (HP2.out.below hB3)
              have HKc := Lib.hid hkc
              have HL := Lib.hid hL
              have p2 := trim_any w.heap.size w.heap.size R l o.done w3 HP3.out.hold (HP3.out.right.small (by omega)) HP3.out.right.rise HP3.out.bel.size
              have P2 := Lib.hid p2
              have y4 := (hB3.cell (p := ⟨H, _, none⟩) hgs).trans x4
              obtain ⟨q, hq⟩ : ∃ q : Int, q = ((kc - 1 : Nat) : Int) := ⟨_, rfl⟩
              have HQ := Lib.hid hq
              rw [← hq]
              clear hR3' hR3 hkc hL hrs' hmap hlen p2 hq
              go_wp2_with fail
              refine (P2.out).mono ?_
              rintro e w5 ⟨kc', hkc', rfl, R', hh5, _, ht5⟩
              obtain rfl := hkc'.uniq HKc.out
              rw [← HQ.out]
              rw [← HL.out] at hh5
              have hP5 : PlayR w R' A' c' rs' L (k + 1) w5 := by
                refine ⟨HR3.out.touch HP3.out.hold ht5, hh5, ?_, HP3.out.bel.trans (mine_below HP3.out.hold HP3.out.bel.size ht5)⟩
                rw [HL.out]
                exact HP3.out.right.cut _
              have hx5 : w5.heap[H]? = W2.heap[H]? := by
                rw [ht5.block H (by have := hB3.size; omega) ?_, hB3.block H hgs]
                exact play_box HBx.out hB3 hgs HP3.out.hold
              have hs5 : H < w5.heap.size := by have := ht5.size; have := hB3.size; omega
              have HP5 := Lib.hid hP5
              have HX5 := Lib.hid hx5
              clear hP5 hx5 ht5 hh5 hkc'
              go_wp2_with fail
              go_meet
              exact ⟨R', A', c', rs', L, rfl, HP5, HX5.out, hs5⟩
          case rest =>
            obtain ⟨R', A', c', rs', L, rfl, HPc, hxc, hsc⟩ := hcut
            have hbc := hxc.trans HBx.out
            have hS : PlS H o w R' A' c' rs' L (k + 1) wc := ⟨cell_of_row wc H 4 _ _ _ hbc, cell_of_row wc H 5 _ _ _ hbc, HPc.out⟩
            have HS := Lib.hid hS
            have hri := HPc.out.right
            have hsm : Small L := hri.small (by omega)
            have HSm := Lib.hid hsm
            have HRi := Lib.hid hri
            have HLe : Hid (L.length ≤ 65536) := Lib.hid hsm.len
            have HDa : Hid (∀ i, (atV L i).data.length ≤ 9223372036854775807) := Lib.hid fun i => by have := right_at hri i; omega
            have HVp : Hid (∀ v ∈ L, 0 < v.ver) := Lib.hid fun v hv => (hri.pos v hv).1
            obtain ⟨v0, hv0⟩ : ∃ v0, v0 = atV L ((L.length : Int) - 1) := ⟨_, rfl⟩
            have HV0 := Lib.hid hv0
            have HD0 : Hid (v0.data.length ≤ 9223372036854775807) := Lib.hid (by rw [hv0]; exact HDa.out _)
            obtain ⟨r0, hr0⟩ : ∃ r0, r0 = dirty L o.done := ⟨_, rfl⟩
            have HR0 := Lib.hid hr0
            obtain ⟨G, hG⟩ : ∃ G, G = w.heap.size := ⟨_, rfl⟩
            have HG := Lib.hid hG
            have Q1 : Hid (∀ w', PlS H o w R' A' c' rs' L (k + 1) w' → Blk w' (some ⟨G, 0, none⟩) L) := Lib.hid fun w' h => by rw [hG]; exact h.p.hold.blk
            have Q2 : Hid (∀ w', PlS H o w R' A' c' rs' L (k + 1) w' → VersQ w w' A' L) := Lib.hid fun w' h => h.p.row.q
            have Q3 : Hid (∀ w', PlS H o w R' A' c' rs' L (k + 1) w' → Below w.heap.size w w') := Lib.hid fun w' h => h.p.bel
            rw [← hG]
            clear hG hv0 hr0 hsm hri hS hbc hxc
            go_wp2_with fail
            go_region_held3 (fun w' => w'.cell? ⟨H, 4, none⟩ = some (.int .u64 o.ver) ∧ w'.cell? ⟨H, 5, none⟩ = some (.int .u64 o.done) ∧ PlayR w R' A' c' rs' L (k + 1) w')
              (first | assumption | exact HS.out.next ((Below.refl _ _).drew) | exact PlS.next (by assumption) hLi | exact PlS.next (by assumption) hAl | exact PlS.next (by assumption) hLa | exact PlS.next (by assumption) hRl | exact PlS.next (by assumption) hK1 | exact PlS.next (by assumption) hCl | exact PlS.next (by assumption) hRc | exact PlS.next (by assumption) hK2 | fail)
              (first
                | (go_at_call 18; refine (len_any (some ⟨G, 0, none⟩) L _ (Q1.out _ (by assumption))).mono ?_; rintro e wLe ⟨rfl, rfl⟩)
                | (go_at_call 20; refine (list_shown (some ⟨G, 0, none⟩) L _ (Q1.out _ (by assumption)) HSm.out).mono ?_; rintro e wLi ⟨Al, cl, rfl, hVl, hLi⟩)
                | (go_at_call 19; refine (all_any Al A' L cl c' w _ hVl (Q2.out _ (by assumption)) (Q3.out _ (by assumption)) HSm.out).mono ?_; rintro e wAl ⟨rfl, hAl⟩)
                | (go_at_call 12; refine (last_any (some ⟨G, 0, none⟩) L _ (Q1.out _ (by assumption)) HSm.out).mono ?_; rw [← HV0.out]; rintro e wLa ⟨A5, c5, rfl, ho5, hLa⟩; have hd5 := bytes_own ho5; clear ho5)
                | (go_at_call 22; refine (rlast_any A' L c' w _ (Q2.out _ (by assumption)) HLe.out).mono ?_; rw [← HV0.out]; rintro e wRl ⟨A6, c6, rfl, hd6, hRl⟩)
                | (go_at_call 21; refine (like_any A7 A8 c7 c8 _ _ _ (hd7.below hRc) (hd8.below (Q3.out _ (by assumption))) (HDa.out _) (HDa.out _)).mono ?_; rw [sameV_self]; rintro e wK2 ⟨rfl, hK2⟩)
                | (go_at_call 21; refine (like_any A5 A6 c5 c6 v0 v0 _ (hd5.below hRl) (hd6.below (Q3.out _ (by assumption))) HD0.out HD0.out).mono ?_; rw [sameV_self]; rintro e wK1 ⟨rfl, hK1⟩)
                | (go_at_call 13; refine (cleanV_any (some ⟨G, 0, none⟩) L o.done _ (Q1.out _ (by assumption)) HSm.out HRi.out.rise).mono ?_; rintro e wCl ⟨k1, hk1, A7, c7, rfl, ho7, hCl⟩; have hd7 := bytes_own ho7; clear ho7)
                | (go_at_call 23; refine (rclean_any A' L c' o.done w _ (Q2.out _ (by assumption)) HLe.out HRi.out.rise).mono ?_; rintro e wRc ⟨k2, hk2, A8, c8, rfl, hd8, hRc⟩; obtain rfl := hk2.uniq hk1)
                | fail)
            all_goals
              rename_i FS0
              have FS : PlS H o w R' A' c' rs' L (k + 1) _ := FS0
              have HFS := Lib.hid FS
              clear FS0 FS hK2 hK1 hCl hRc hLa hRl hAl hLi hVl hd5 hd6 hd7 hd8 hk1 hk2
              go_wp2_with fail
              go_region_held3 (fun w' => w'.cell? ⟨H, 4, none⟩ = some (.int .u64 o.ver) ∧ w'.cell? ⟨H, 5, none⟩ = some (.int .u64 o.done) ∧ PlayR w R' A' c' rs' L (k + 1) w')
                (first | assumption | exact HFS.out.next ((Below.refl _ _).drew) | exact PlS.next (by assumption) hE1 | exact PlS.next (by assumption) hE2 | exact PlS.next (by assumption) hE3 | exact PlS.next (by assumption) hE4 | exact PlS.next (by assumption) hE5 | fail)
                (first
                  | (go_at_call 14; refine (dirty_any (some ⟨G, 0, none⟩) L o.done _ (Q1.out _ (by assumption)) HSm.out).mono ?_; rw [← HR0.out]; rintro e wE1 ⟨rfl, hE1⟩)
                  | (go_at_call 24; refine (rdirty_any A' L c' o.done w _ (Q2.out _ (by assumption)) HLe.out).mono ?_; rw [← HR0.out]; rintro e wE2 ⟨rfl, hE2⟩)
                  | (go_at_call 25; refine (pick_any (some ⟨G, 0, none⟩) L o.ver o.done _ (Q1.out _ (by assumption)) HSm.out HRi.out.rise HVp.out).mono ?_; rintro e wE3 ⟨v3, hv3, A3, c3, rfl, ho3, hE3⟩; have hd3 := bytes_own ho3; have HV3 := Lib.hid hv3; clear ho3 hv3)
                  | (go_at_call 26; refine (rpick_any A' L c' o.ver o.done w _ (Q2.out _ (by assumption)) HLe.out HRi.out.rise).mono ?_; rintro e wE4 ⟨v4, hv4, A4, c4, rfl, hd4, hE4⟩; obtain rfl := hv4.uniq HRi.out.rise HV3.out; clear hv4)
                  | (go_at_call 21; refine (like_any A3 A4 c3 c4 _ _ _ (hd3.below hE4) (hd4.below (Q3.out _ (by assumption))) (picked_len HRi.out HV3.out) (picked_len HRi.out HV3.out)).mono ?_; rw [sameV_self]; rintro e wE5 ⟨rfl, hE5⟩)
                  | fail)
              all_goals
                rename_i FT0
                have FT : PlS H o w R' A' c' rs' L (k + 1) _ := FT0
                have HFT := Lib.hid FT.p
                clear FT0 FT
                rw [HG.out]
                go_wp2_with fail
                go_roundw
                case rel => exact ⟨k + 1, R', A', c', rs', L, by omega, by omega, by go_num, rfl, HFT⟩
                case measure => simp [intOf]; omega
      · have hk4 : decide ((k : Int) < 40) = false := by simp; omega
        have hkI : (k : Int) < (n : Int) := by omega
        go_wp2_with fail
        refine (awake_any _).mono ?_
        rintro e w3 ⟨rfl, hB3⟩
        have hfin := (HP.out.below hB3).bel
        go_wp2_with fail
        go_ret
        exact ⟨rfl, hfin⟩
    · obtain rfl : k = n := by omega
      go_wp2_with fail
      refine (awake_any _).mono ?_
      rintro e w3 ⟨rfl, hB3⟩
      have hfin := (HP.out.below hB3).bel
      go_wp2_with fail
      go_ret
      exact ⟨rfl, hfin⟩
end Go.Proofs.Ytobndboogafjpaa
