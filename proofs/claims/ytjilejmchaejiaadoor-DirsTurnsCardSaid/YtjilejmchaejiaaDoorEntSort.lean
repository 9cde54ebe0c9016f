/- slices.SortFunc at entries with one more behind them; the contract of dirs.Names. Condition: at most 1000000 entries. -/
import Derived.Test.YtjilejmchaejiaaDoorEntShelf
import Derived.Test.YtjilejmchaejiaaDoorEntRem
import Derived.Test.YtjilejmchaejiaaDoorDirRSplit
namespace Go.Proofs.YtjilejmchaejiaaDoor
open Go.RowKit Go.Cat Go.Cat.Dir Go.Sort Go.Lib

theorem ltOf_cfE : ltOf cfE = lessE := by funext x y; exact cfE_less x y

set_option maxHeartbeats 1000000 in
theorem cmpent_any (x y : Ent) (W : World) : Calls Tryd.prog 60 #[.agg #[sv x.1, .int .i64 x.2], .agg #[sv y.1, .int .i64 y.2]] W fun e w' => e = .returned (.int .i64 (cfE x y)) ∧ ∃ q os', w' = grow (W.drewN q) os' := by
  obtain ⟨x1, x2⟩ := x
  obtain ⟨y1, y2⟩ := y
  have hcon := fun W' => Any.strings_Compare Tryd.lays106 (bs x1) (bs y1) W'
  change ∀ W', Calls Tryd.prog 61 _ _ _ at hcon
  have e : Lib.compareBytes (bs x1).data.toList (bs y1).data.toList = cfE (x1, x2) (y1, y2) := rfl
  rw [e] at hcon
  generalize cfE (x1, x2) (y1, y2) = r at hcon ⊢
  clear e
  unfold sv
  have HC := Lib.hid hcon
  clear hcon
  go_enter Tryd.func60, Tryd.ntmps60
  go_wp2_with fail
  refine (HC.out _).mono ?_
  rintro e w' ⟨rfl, rfl⟩
  go_wp2_with fail
  go_ret
  exact ⟨rfl, 0, _, by rw [alloc_eq_grow, alloc_eq_grow, grow_grow]; rfl⟩

theorem cmpLays_ent (blk off size : Nat) (w : World) : CmpLays Tryd.prog 60 #[] entC 2 cfE blk off size w := fun _ _ _ _ x y => cmpent_any x y _

theorem sortent_any (base : Nat) (A : Option Addr) (l : List Ent) (e : Ent) (c : Nat) (w : World) (ho : w.ownsRow base 56 2 (.slice A (l.length + 1) c) (l.length + 1) (erows (l ++ [e]))) (_hbase : base ≤ w.heap.size) (hn : l.length ≤ 1000000) (hr : Rises l) (hne : ∀ y ∈ l, y.1 ≠ e.1) :
    Calls Tryd.prog 59 #[.slice A (l.length + 1) c, .func (.func 60) #[] #[]] w fun r w' => r = .returned (.tuple #[]) ∧ Sees w' A (erows (insE l e)) ∧ Below base w w' ∧ w.heap.size ≤ w'.heap.size := by
  have hlen : (l ++ [e]).length = l.length + 1 := by simp
  rw [← hlen] at ho ⊢
  obtain ⟨g, rfl, hbg, hgl, hH, hback⟩ := own_sortK entC_len ho (by omega)
  have eg : ∀ args w, (callFunc 60 args).run Tryd.prog w = .ok (.enter 60 args) w := enters_of Tryd.func60 (by kernel_rfl) rfl
  have hcon := AnyQ.slices_SortFunc Tryd.sortEnt 2 Tryd.isAgg56 Tryd.sizeOf56 entC entC_len one_entC cfE (by rw [ltOf_cfE]; exact swo_lessE) 60 #[] g 0 c (l ++ [e]).toArray w eg (cmpLays_ent _ _ _ _) hH hgl (by simp; omega)
  rw [ltOf_cfE] at hcon
  change Calls Tryd.prog 59 #[.slice (some ⟨g, 0, none⟩) (l ++ [e]).length c, .func (.func 60) #[] #[]] w _ at hcon
  refine hcon.mono ?_
  rintro r w' ⟨rfl, d', n, os, hp, hs, rfl⟩
  have hd := sort_ins hr hne rfl hp hs
  obtain ⟨h1, h2⟩ := hback d' n os (by have := hp.1; simpa using this)
  rw [hd] at h1
  exact ⟨rfl, ownN_sees h1, ⟨h2.os, h2.tape, h2.output, h2.size, fun k hk => h2.block k (by omega) (fun e => by injection e with e; omega)⟩, h2.size⟩

end Go.Proofs.YtjilejmchaejiaaDoor
namespace Go.Proofs.YtjilejmchaejiaaDoor
open Go.RowKit Go.Cat Go.Cat.Dir

/-- Texts in new memory. -/
def ToldT (ls : List Txt) (w : World) (e : Ending) (w' : World) : Prop := ∃ A c, e = .returned (.slice A ls.length c) ∧ Texts w' A ls ∧ Below w.heap.size w w'

set_option maxRecDepth 100000 in
set_option maxHeartbeats 2000000 in
theorem dnames_any (A : Option Addr) (l : List Ent) (c : Nat) (w : World) (hs : Sees w A (erows l)) (hn : l.length ≤ 1000000) :
    Calls Tryd.prog 36 #[.slice A l.length c] w (ToldT (l.map (·.1)) w) := by
  obtain ⟨n, hnn⟩ : ∃ n, n = l.length := ⟨_, rfl⟩
  rw [← hnn] at hn ⊢
  have HN := Lib.hid hnn
  have HS := Lib.hid hs
  clear hnn hs
  go_enter Tryd.func36, Tryd.ntmps36
  go_wp2_with fail
  go_loopw [3, 8] (fun ov iv wr => ∃ (k : Nat) (A2 : Option Addr) (c2 : Nat), k ≤ n ∧ iv = .int .i64 k ∧ ov = .slice A2 k c2 ∧ Hid (wr.ownsRow w.heap.size 9 1 (.slice A2 k c2) k ((l.take k).map fun e => sv e.1)) ∧ Hid (Below w.heap.size w wr)) (fun _ iv _ => n - (intOf iv).toNat)
  case atStart => exact ⟨0, none, 0, Nat.zero_le _, rfl, rfl, World.ownsRow_nil _ _ _ _, Below.refl _ _⟩
  case round =>
    obtain ⟨k, A2, c2, hk, rfl, rfl, HO, HB⟩ := hrel
    by_cases hlt : k < n
    · have t1 : decide ((k : Int) < (n : Int)) = true := by simp; omega
      have hkl : k < l.length := by have := HN.out; omega
      obtain ⟨b, off, rfl, hbl, e0, e1⟩ := erows_at (HS.out.below HB.out) hkl
      have htk : (l.take (k + 1)).map (fun e => sv e.1) = (l.take k).map (fun e => sv e.1) ++ [sv l[k].1] := by rw [List.take_succ_eq_append_getElem hkl, List.map_append]; rfl
      obtain ⟨x, hx⟩ : ∃ x, x = l[k].1 := ⟨_, rfl⟩
      obtain ⟨y, hy⟩ : ∃ y, y = l[k].2 := ⟨_, rfl⟩
      rw [← hx] at e0 htk
      rw [← hy] at e1
      have hkI : (k : Int) < (n : Int) := by omega
      have hk0 : (0 : Int) ≤ (k : Int) := by omega
      have HTk := Lib.hid htk
      have hsz : w.heap.size ≤ ((wr.alloc (.cells #[.string (bs x), .int .i64 y] 56)).alloc (.cells #[.string (bs x)] 9)).heap.size := by have := HB.out.size; simp; omega
      have HSz := Lib.hid hsz
      have ho1 : ((wr.alloc (.cells #[.string (bs x), .int .i64 y] 56)).alloc (.cells #[.string (bs x)] 9)).ownsRow w.heap.size 9 1 (.slice A2 k c2) k ((l.take k).map fun e => sv e.1) := World.ownsRow.alloc (World.ownsRow.alloc HO.out _) _
      have HO1 := Lib.hid ho1
      have hsee := sees_new (wr.alloc (.cells #[.string (bs x), .int .i64 y] 56)) [.string (bs x)] 9
      rw [show (wr.alloc (.cells #[.string (bs x), .int .i64 y] 56)).heap.size = wr.heap.size + 1 by simp] at hsee
      have HSee := Lib.hid hsee
      clear hx hy htk hkl hsz hbl ho1 hsee
      go_wp2_with (at_builtin; refine wpList_app elem_str rfl _ _ rfl w.heap.size (.slice A2 k c2) k ((l.take k).map fun e => sv e.1) rfl HO1.out (some ⟨_, 0, none⟩) 1 1 [.string (bs x)] rfl HSee.out rfl (by intro u hu; simp at hu; subst hu; rfl) (by omega) HSz.out ?_; intro v2 w2 hown hgr _; obtain ⟨A4, c4, rfl, _, _⟩ := own_full hown)
      have ho2 : w2.ownsRow w.heap.size 9 1 (.slice A4 (k + 1) c4) (k + 1) ((l.take (k + 1)).map fun e => sv e.1) := by rw [HTk.out]; exact hown
      have hb2 : Below w.heap.size w w2 := ((HB.out.alloc HB.out.size _).alloc (by have := HB.out.size; simp; omega) _).own HO1.out hgr HSz.out (Nat.le_refl _)
      have HO2 := Lib.hid ho2
      have HB2 := Lib.hid hb2
      clear hown hgr ho2 hb2
      go_wp2_with fail
      go_roundw
      case rel => exact ⟨k + 1, A4, c4, by omega, by go_num, rfl, HO2.out, HB2.out⟩
      case measure => simp [intOf]; omega
    · obtain rfl : k = n := by omega
      have t1 : decide ((k : Int) < (k : Int)) = false := by simp
      have hall : l.take k = l := by rw [HN.out]; exact List.take_length
      rw [hall] at HO
      clear hall
      go_wp2_with fail
      go_ret
      refine ⟨A2, c2, by rw [List.length_map, ← HN.out]; rfl, ?_, HB.out⟩
      have := Sees.of_own HO.out
      unfold Texts
      rw [List.map_map]
      exact this
end Go.Proofs.YtjilejmchaejiaaDoor
