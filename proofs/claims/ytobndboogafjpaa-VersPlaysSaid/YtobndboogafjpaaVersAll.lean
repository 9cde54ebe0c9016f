/- The contract of the law's all, of two slices that show the same versions. Condition: at most 65536 versions of at most 65536 bytes. -/
import Derived.Test.YtobndboogafjpaaVersPlayS
import Derived.Deep.RegionHeld3
namespace Go.Proofs.Ytobndboogafjpaa
open Go.RowKit Go.Cat Go.Cat.Vers

/-- Six cells and what holds beside, in a later world. -/
def AllS (a ao b bo : Nat) (u v : Ver) (A B : Option Addr) (c d : Nat) (wr w' : World) : Prop :=
  w'.cell? ⟨a, ao, none⟩ = some (.int .u64 u.ver) ∧ w'.cell? ⟨a, ao + 1, none⟩ = some (.int .u64 u.seq) ∧ w'.cell? ⟨a, ao + 2, none⟩ = some (.slice A u.data.length c) ∧
  w'.cell? ⟨b, bo, none⟩ = some (.int .u64 v.ver) ∧ w'.cell? ⟨b, bo + 1, none⟩ = some (.int .u64 v.seq) ∧ w'.cell? ⟨b, bo + 2, none⟩ = some (.slice B v.data.length d) ∧ Below wr.heap.size wr w'

theorem AllS.next {a ao b bo : Nat} {u v : Ver} {A B : Option Addr} {c d : Nat} {wr w1 w2 : World} (h : AllS a ao b bo u v A B c d wr w1) (hb : Below w1.heap.size w1 w2) : AllS a ao b bo u v A B c d wr w2 := by
  obtain ⟨h0, h1, h2, h3, h4, h5, h6⟩ := h
  have g : a < w1.heap.size := World.block_lt_of_cell? _ _ h0
  have g' : b < w1.heap.size := World.block_lt_of_cell? _ _ h3
  exact ⟨(hb.cell (p := ⟨a, _, none⟩) g).trans h0, (hb.cell (p := ⟨a, _, none⟩) g).trans h1, (hb.cell (p := ⟨a, _, none⟩) g).trans h2,
    (hb.cell (p := ⟨b, _, none⟩) g').trans h3, (hb.cell (p := ⟨b, _, none⟩) g').trans h4, (hb.cell (p := ⟨b, _, none⟩) g').trans h5, h6.trans (hb.mono h6.size)⟩
theorem AllS.bel {a ao b bo : Nat} {u v : Ver} {A B : Option Addr} {c d : Nat} {wr w1 : World} (h : AllS a ao b bo u v A B c d wr w1) : Below wr.heap.size wr w1 := h.2.2.2.2.2.2

set_option maxRecDepth 100000 in
theorem all_any (A B : Option Addr) (l : List Ver) (c d : Nat) (w0 w : World) (ha : VersR w A l) (hb : VersQ w0 w B l) (hw : Below w0.heap.size w0 w) (hs : Small l) :
    Calls Try.prog 19 #[.slice A l.length c, .slice B l.length d] w fun e w' => e = .returned (.bool true) ∧ Below w.heap.size w w' := by
  obtain ⟨n, hn⟩ : ∃ n, n = l.length := ⟨_, rfl⟩
  have hl := hs.len
  rw [← hn] at hl ⊢
  have HN := Lib.hid hn
  have HS := Lib.hid hs
  clear hn hs
  go_enter Try.func19, Try.ntmps19
  go_wp2
  go_loopw [5] (fun i wr => ∃ (k : Nat), k ≤ n ∧ i = .int .i64 k ∧ Below w.heap.size w wr) (fun i _ => n - (intOf i).toNat)
  case atStart => exact ⟨0, Nat.zero_le _, rfl, Below.refl _ _⟩
  case round =>
    obtain ⟨k, hk, rfl, hbel⟩ := hrel
    by_cases hlt : k < n
    · obtain ⟨a, ao, A1, c1, rfl, has, e0, e1, e2, hd1⟩ := (ha.below hbel).at_ (k := k) (by rw [← HN.out]; exact hlt)
      obtain ⟨b, bo, B1, d1, rfl, hbs, f0, f1, f2, hd2⟩ := (hb.below hbel).at_ (k := k) (by rw [← HN.out]; exact hlt)
      obtain ⟨u, hu⟩ : ∃ u, u = l[k]'(by rw [← HN.out]; exact hlt) := ⟨_, rfl⟩
      have hul : u.data.length ≤ 9223372036854775807 := by have := HS.out.data u (by rw [hu]; exact List.getElem_mem _); omega
      rw [← hu] at e0 e1 e2 f0 f1 f2 hd1 hd2
      have hd2r : Bytes wr B1 u.data := (hd2.below hw).below hbel
      have hA : AllS a (ao + k * 3) b (bo + k * 3) u u A1 B1 c1 d1 wr wr := ⟨e0, e1, e2, f0, f1, f2, Below.refl _ _⟩
      have HA := Lib.hid hA
      have HD1 := Lib.hid hd1
      have HD2 := Lib.hid hd2r
      have HUL := Lib.hid hul
      have hkI : (k : Int) < (n : Int) := by omega
      have hk0 : (0 : Int) ≤ (k : Int) := by omega
      clear hu hd1 hd2 hd2r hA hul
      go_wp2_with fail
      go_region_held3 (fun w' => w'.cell? ⟨a, ao + k * 3, none⟩ = some (.int .u64 u.ver) ∧ w'.cell? ⟨a, ao + k * 3 + 1, none⟩ = some (.int .u64 u.seq) ∧ w'.cell? ⟨a, ao + k * 3 + 2, none⟩ = some (.slice A1 u.data.length c1) ∧
          w'.cell? ⟨b, bo + k * 3, none⟩ = some (.int .u64 u.ver) ∧ w'.cell? ⟨b, bo + k * 3 + 1, none⟩ = some (.int .u64 u.seq) ∧ w'.cell? ⟨b, bo + k * 3 + 2, none⟩ = some (.slice B1 u.data.length d1) ∧ Below wr.heap.size wr w')
        (first | exact HA.out.next ((Below.refl _ _).drew) | exact AllS.next (by assumption) hLi)
        (first
          | (go_at_call 21; refine (like_any A1 B1 c1 d1 u u _ (HD1.out.below (AllS.bel (by assumption))) (HD2.out.below (AllS.bel (by assumption))) HUL.out HUL.out).mono ?_; rw [sameV_self]; rintro e wLi ⟨rfl, hLi⟩)
          | fail)
      all_goals
        rename_i FS
        have hfin := AllS.bel FS
        clear FS
        go_wp2_with fail
        go_roundw
        case rel => exact ⟨k + 1, by omega, by go_num, hbel.trans (hfin.mono hbel.size)⟩
        case measure => simp [intOf]; omega
    · obtain rfl : k = n := by omega
      go_wp2_with fail
      go_ret
      exact ⟨rfl, hbel⟩
end Go.Proofs.Ytobndboogafjpaa
