/- The walk of the law VersNil. Condition: numbers within their kinds. -/
import Derived.Test.YtobndboogafjpaaVersAwake
import Derived.Test.YtobndboogafjpaaVersTrim
import Derived.Test.YtobndboogafjpaaVersList
import Derived.Deep.RegionHeld3
namespace Go.Proofs.Ytobndboogafjpaa
open Go.RowKit Go.Cat Go.Cat.Vers

theorem small0 : Small [] := ⟨by simp, by simp⟩
theorem rising0 : Rising [] := fun i j _ hj => by simp at hj
theorem cleaned0 {k : Nat} {done : Int} (h : Cleaned [] done k) : k = 0 := by have := h.le; simpa using this
theorem picked0 {ver done : Int} {v : Ver} (h : Picked [] ver done v) : v = zero := by
  rcases h with ⟨h, _⟩ | ⟨_, k, hk, h | h⟩
  · simp at h
  · obtain rfl := cleaned0 hk
    rw [h.2]; exact atV_neg (by omega)
  · exact h.2
theorem blk0 (w : World) : Blk w none [] := .inl ⟨rfl, rfl⟩

theorem nil_last (w : World) : Calls Try.prog 12 #[.pointer none] w fun e w' => ∃ A c, e = .returned (vv zero A c) ∧ Below w.heap.size w w' := by
  refine (last_any none [] w (blk0 w) small0).mono ?_
  rintro e w' ⟨A, c, he, _, hB⟩
  rw [show atV [] ((([] : List Ver).length : Int) - 1) = zero from atV_neg (by simp)] at he
  exact ⟨A, c, he, hB⟩
theorem nil_clean (done : Int) (w : World) : Calls Try.prog 13 #[.pointer none, .int .u64 done] w fun e w' => ∃ A c, e = .returned (vv zero A c) ∧ Below w.heap.size w w' := by
  refine (cleanV_any none [] done w (blk0 w) small0 rising0).mono ?_
  rintro e w' ⟨k, hk, A, c, he, _, hB⟩
  obtain rfl := cleaned0 hk
  rw [show atV [] (((0 : Nat) : Int) - 1) = zero from atV_neg (by simp)] at he
  exact ⟨A, c, he, hB⟩
theorem nil_pick (ver done : Int) (w : World) : Calls Try.prog 25 #[.pointer none, .int .u64 ver, .int .u64 done] w fun e w' => ∃ A c, e = .returned (vv zero A c) ∧ Below w.heap.size w w' := by
  refine (pick_any none [] ver done w (blk0 w) small0 rising0 (by simp)).mono ?_
  rintro e w' ⟨v, hv, A, c, he, _, hB⟩
  obtain rfl := picked0 hv
  exact ⟨A, c, he, hB⟩
theorem nil_dirty (done : Int) (w : World) : Calls Try.prog 14 #[.pointer none, .int .u64 done] w fun e w' => e = .returned (.bool false) ∧ Below w.heap.size w w' := by
  refine (dirty_any none [] done w (blk0 w) small0).mono ?_
  rintro e w' ⟨he, hB⟩
  exact ⟨by rw [he]; rfl, hB⟩
theorem nil_list (w : World) : Calls Try.prog 20 #[.pointer none] w fun e w' => ∃ A c, e = .returned (.slice A 0 c) ∧ Below w.heap.size w w' := by
  refine (list_any none [] w (blk0 w) small0).mono ?_
  rintro e w' ⟨rs, A, c, he, _, _, _, hB⟩
  exact ⟨A, c, he, hB⟩
theorem nil_len (w : World) : Calls Try.prog 18 #[.pointer none] w fun e w' => e = .returned (.int .i64 0) ∧ Below w.heap.size w w' := by
  refine (len_any none [] w (blk0 w)).mono ?_
  rintro e w' ⟨he, rfl⟩
  exact ⟨he, Below.refl _ _⟩
theorem zero_like (A B : Option Addr) (c d : Nat) (w : World) : Calls Try.prog 21 #[vv zero A c, vv zero B d] w fun e w' => e = .returned (.bool true) ∧ Below w.heap.size w w' := by
  refine (like_any A B c d zero zero w Bytes.nil_ Bytes.nil_ (by decide) (by decide)).mono ?_
  rintro e w' ⟨he, hB⟩
  rw [sameV_self] at he
  exact ⟨he, hB⟩

/-- The cells of o and none, in a later world. -/
def NilS (H : Nat) (v : Ver) (A : Option Addr) (c : Nat) (ver done : Int) (w w' : World) : Prop :=
  w'.cell? ⟨H, 1, none⟩ = some (.int .u64 v.ver) ∧ w'.cell? ⟨H, 2, none⟩ = some (.int .u64 v.seq) ∧ w'.cell? ⟨H, 3, none⟩ = some (.slice A v.data.length c) ∧ w'.cell? ⟨H, 4, none⟩ = some (.int .u64 ver) ∧ w'.cell? ⟨H, 5, none⟩ = some (.int .u64 done) ∧
    w'.cell? ⟨H + 1, 0, none⟩ = some (.int .u64 0) ∧ w'.cell? ⟨H + 1, 1, none⟩ = some (.int .u64 0) ∧ w'.cell? ⟨H + 1, 2, none⟩ = some (.slice none 0 0) ∧ Below H w w'
theorem NilS.next {H : Nat} {v : Ver} {A : Option Addr} {c : Nat} {ver done : Int} {w w1 w2 : World} (h : NilS H v A c ver done w w1) (hB : Below w1.heap.size w1 w2) : NilS H v A c ver done w w2 := by
  obtain ⟨a1, a2, a3, a4, a5, a6, a7, a8, a9⟩ := h
  have g : H < w1.heap.size := World.block_lt_of_cell? _ _ a1
  have g' : H + 1 < w1.heap.size := World.block_lt_of_cell? _ _ a6
  exact ⟨(hB.cell g).trans a1, (hB.cell g).trans a2, (hB.cell g).trans a3, (hB.cell g).trans a4, (hB.cell g).trans a5, (hB.cell g').trans a6, (hB.cell g').trans a7, (hB.cell g').trans a8, a9.trans (hB.mono (by omega))⟩

set_option maxRecDepth 100000 in
set_option maxHeartbeats 4000000 in
theorem nil_walk (kind ver done : Int) (v : Ver) (A : Option Addr) (c : Nat) (w : World) :
    Calls Try.prog 6 #[.agg #[.int .i64 kind, .int .u64 v.ver, .int .u64 v.seq, .slice A v.data.length c, .int .u64 ver, .int .u64 done]] w fun e w' => e = .returned (.bool true) ∧ Below w.heap.size w w' := by
  obtain ⟨k0, k1, k2, k3, hsz, hB0⟩ := two_boxes (w := w) (a := #[.int .i64 kind, .int .u64 v.ver, .int .u64 v.seq, .slice A v.data.length c, .int .u64 ver, .int .u64 done]) (b := #[.int .u64 0, .int .u64 0, .slice none 0 0]) (t := 42) (u := 40) (Below.refl _ _)
  have hS : NilS w.heap.size v A c ver done w ((w.alloc (.cells #[.int .i64 kind, .int .u64 v.ver, .int .u64 v.seq, .slice A v.data.length c, .int .u64 ver, .int .u64 done] 42)).alloc (.cells #[.int .u64 0, .int .u64 0, .slice none 0 0] 40)) :=
    ⟨(k0 1).trans rfl, (k0 2).trans rfl, (k0 3).trans rfl, (k0 4).trans rfl, (k0 5).trans rfl, (k2 0).trans rfl, (k2 1).trans rfl, (k2 2).trans rfl, hB0⟩
  have HS := Lib.hid hS
  clear k0 k1 k2 k3 hsz hB0 hS
  go_enter Try.func6, Try.ntmps6
  go_wp2_with fail
  obtain ⟨w1, hw1⟩ : ∃ w1, w1 = ((w.alloc (.cells #[.int .i64 kind, .int .u64 v.ver, .int .u64 v.seq, .slice A v.data.length c, .int .u64 ver, .int .u64 done] 42)).alloc (.cells #[.int .u64 0, .int .u64 0, .slice none 0 0] 40)) := ⟨_, rfl⟩
  rw [← hw1] at HS ⊢
  clear hw1
  obtain ⟨H, hH⟩ : ∃ H, H = w.heap.size := ⟨_, rfl⟩
  rw [← hH] at HS ⊢
  have HH := Lib.hid hH
  clear hH
  go_region_held3 (fun w' => w'.cell? ⟨H, 1, none⟩ = some (.int .u64 v.ver) ∧ w'.cell? ⟨H, 2, none⟩ = some (.int .u64 v.seq) ∧ w'.cell? ⟨H, 3, none⟩ = some (.slice A v.data.length c) ∧ w'.cell? ⟨H, 4, none⟩ = some (.int .u64 ver) ∧ w'.cell? ⟨H, 5, none⟩ = some (.int .u64 done) ∧
    w'.cell? ⟨H + 1, 0, none⟩ = some (.int .u64 0) ∧ w'.cell? ⟨H + 1, 1, none⟩ = some (.int .u64 0) ∧ w'.cell? ⟨H + 1, 2, none⟩ = some (.slice none 0 0) ∧ Below H w w')
    (first | exact NilS.next HS.out ((Below.refl _ _).drew) | exact NilS.next (by assumption) hOurs | exact NilS.next (by assumption) hPut | exact NilS.next (by assumption) hLast | exact NilS.next (by assumption) hLike | exact NilS.next (by assumption) hClean | exact NilS.next (by assumption) hDirty | exact NilS.next (by assumption) hPick | exact NilS.next (by assumption) hTrim | exact NilS.next (by assumption) hLen | exact NilS.next (by assumption) hList | exact NilS.next (by assumption) hAw | fail)
    (first
      | (go_at_call 16; refine (ours_any A c v _).mono ?_; rintro e wOurs ⟨rfl, hOurs⟩)
      | (go_at_call 9; refine (put_nil v A c _).mono ?_; rintro e wPut ⟨rfl, hPut⟩)
      | (go_at_call 12; refine (nil_last _).mono ?_; rintro e wLast ⟨AL, cL, rfl, hLast⟩)
      | (go_at_call 21; refine (zero_like _ _ _ _ _).mono ?_; rintro e wLike ⟨rfl, hLike⟩)
      | (go_at_call 13; refine (nil_clean done _).mono ?_; rintro e wClean ⟨AC, cC, rfl, hClean⟩)
      | (go_at_call 14; refine (nil_dirty done _).mono ?_; rintro e wDirty ⟨rfl, hDirty⟩)
      | (go_at_call 25; refine (nil_pick ver done _).mono ?_; rintro e wPick ⟨AP, cP, rfl, hPick⟩)
      | (go_at_call 10; refine (trim_nil done _).mono ?_; rintro e wTrim ⟨rfl, hTrim⟩)
      | (go_at_call 18; refine (nil_len _).mono ?_; rintro e wLen ⟨rfl, hLen⟩)
      | (go_at_call 20; refine (nil_list _).mono ?_; rintro e wList ⟨AI, cI, rfl, hList⟩)
      | (go_at_call 7; refine (awake_any _).mono ?_; rintro e wAw ⟨rfl, hAw⟩))
  rename_i FS
  have hfin := FS.2.2.2.2.2.2.2.2
  clear FS
  rw [HH.out] at hfin
  go_wp2_with fail
  go_ret
  exact ⟨rfl, hfin⟩
end Go.Proofs.Ytobndboogafjpaa
