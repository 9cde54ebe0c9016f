/- One file in the root, plain: what putting, getting, renaming and unlinking it answer. No condition. -/
import Derived.Test.YtabecceojbeomaaGreatDoorTrBackV
namespace Go.Cat.Tree
open Go.RowKit Go.Cat Go.Cat.Dir
theorem do_ok {I J : Int} {m : TL} {c : CallV} {r : TL × AnsV} (ha : actV m c = r) (h0 : r.2.code = 0) (ho : overV I J r.1 = false) : doV I J m c = r := by
  unfold doV
  rw [ha, if_pos h0, ho, Bool.and_false, if_neg (by simp)]
theorem do_bad {I J : Int} {m : TL} {c : CallV} {e : Int} (ha : actV m c = (m, wrongV e)) (h0 : e ≠ 0) : doV I J m c = (m, wrongV e) := by
  unfold doV
  rw [ha]
  exact if_neg h0
theorem wrong_ne {m : TL} {e : Int} (h : e ≠ 0) : (m, wrongV e).2.code ≠ 0 := h
/-- A name in the root that is free. -/
structure One (l : TL) (n p : Txt) : Prop where
  inv : Inv l
  nm : Nms [n]
  hp : p = joinV [n]
  no : getT p l = none
theorem abv_one {n p : Txt} (h : Nms [n]) (hp : p = joinV [n]) : abv p = ([47], n) ∧ abe p = 0 := by
  rw [hp]
  exact above_join h (by simp)
theorem up_one {m : TL} (hi : Inv m) {n p : Txt} (h : Nms [n]) (hp : p = joinV [n]) : upV m p = (0, [47]) := by
  obtain ⟨h1, h2⟩ := abv_one h hp
  unfold upV
  rw [h1, if_pos h2, hi.find_some hi.root, if_pos rfl, if_pos rfl]
abbrev wf (l : TL) (p : Txt) (b : List UInt8) : TL := putT p ⟨false, b⟩ l
variable {l : TL} {n p : Txt} {b : List UInt8}
theorem One.get (h : One l n p) : getT p (wf l p b) = some ⟨false, b⟩ := by rw [get_put h.inv.rise, if_pos rfl]
theorem One.ok (h : One l n p) (hb : b.length ≤ 512) : Inv (wf l p b) := by
  have hn := h.no
  unfold wf
  rw [h.hp] at hn ⊢
  exact h.inv.put h.nm (by simp) ⟨_, h.inv.root, rfl⟩ (fun t ht _ => by rw [hn] at ht; cases ht) (fun e => by cases e) hb
theorem One.del (h : One l n p) : delT p l = l := by
  unfold delT
  exact List.filter_eq_self.2 fun y hy => by simpa using get_none.1 h.no y hy
theorem One.wt (h : One l n p) : wtL (wf l p b) = (b.length + 63) / 64 + 1 + wtL l := by
  unfold wf
  rw [wt_put h.inv.rise, h.del]
  rfl
theorem One.len (h : One l n p) : (wf l p b).length = l.length + 1 := by
  have := ((List.perm_ext_iff_of_nodup (rise_nodup (h.inv.rise.put p ⟨false, b⟩)) (List.nodup_cons.2 ⟨fun h => (del_mem.1 h).2 rfl, rise_nodup (h.inv.rise.del p)⟩)).2 fun y => by rw [put_mem, List.mem_cons, del_mem]).length_eq
  rw [h.del] at this
  exact this
theorem One.over (h : One l n p) (hb : b.length ≤ 512) {I J : Int} (hI : (l.length : Int) + 1 ≤ I) (hJ : (wtL l : Int) + 9 ≤ J) : overV I J (wf l p b) = false := by
  refine InvA.over ⟨h.ok hb, by rw [h.len]; omega, ?_⟩
  have := blocks_wt (h.ok hb)
  rw [h.wt] at this
  omega
theorem One.find (h : One l n p) (hb : b.length ≤ 512) : findV (wf l p b) p = (0, ⟨false, b⟩) := (h.ok hb).find_some h.get
theorem One.file (h : One l n p) (hb : b.length ≤ 512) : fileV (wf l p b) p = (0, ⟨false, b⟩) := by
  unfold fileV
  rw [h.find hb, if_pos rfl, if_neg (by simp)]
theorem put_put {p : Txt} {x y : Th} {l : TL} (hr : Rise l) : putT p x (putT p y l) = putT p x l := by
  refine rise_ext ((hr.put _ _).put _ _) (hr.put _ _) fun z => ?_
  rw [put_mem, put_mem, put_mem]
  constructor
  · rintro (h | ⟨h | h, h'⟩)
    · exact .inl h
    · exact absurd (by rw [h]) h'
    · exact .inr h
  · rintro (h | h)
    · exact .inl h
    · exact .inr ⟨.inr h, h.2⟩
/-- Putting. -/
theorem One.put (h : One l n p) (hb : b.length ≤ 512) {d : List UInt8} {off : Nat} (ho : off ≤ b.length) (hd : d.length ≤ 128) (hs : off + d.length ≤ 512) {I J : Int} (hI : (l.length : Int) + 1 ≤ I) (hJ : (wtL l : Int) + 9 ≤ J) {q : Txt} {m : Int} :
    doV I J (wf l p b) ⟨6, p, q, (off : Int), m, d⟩ = (wf l p (writeV b off d), {}) := by
  have hw : (writeV b off d).length ≤ 512 := by rw [write_len ho]; omega
  refine do_ok ?_ rfl (h.over hw hI hJ)
  show putV _ _ = _
  unfold putV
  simp only [h.file hb]
  rw [if_neg (by omega), if_pos trivial, if_neg (by omega), if_neg (by omega), put_put h.inv.rise, Int.toNat_natCast]
/-- Getting. -/
theorem One.got (h : One l n p) (hb : b.length ≤ 512) {off k : Nat} (ho : off ≤ b.length) (hk : k ≤ 128) {I J : Int} {q : Txt} {d : List UInt8} :
    doV I J (wf l p b) ⟨7, p, q, (off : Int), (k : Int), d⟩ = (wf l p b, { data := (b.drop off).take k }) := by
  have ha : actV (wf l p b) ⟨7, p, q, (off : Int), (k : Int), d⟩ = (wf l p b, { data := (b.drop off).take k }) := by
    show getV _ _ = _
    unfold getV
    simp only [h.file hb]
    rw [if_neg (by omega), if_pos trivial, if_neg (by omega), Int.toNat_natCast, Int.toNat_natCast]
  unfold doV
  rw [ha, if_pos rfl, show turnsV 7 = false from rfl, Bool.false_and, if_neg (by simp)]
/-- Unlinking. -/
theorem One.gone (h : One l n p) (hb : b.length ≤ 512) {I J : Int} (ho : overV I J l = false) {q : Txt} {x y : Int} {d : List UInt8} :
    doV I J (wf l p b) ⟨3, p, q, x, y, d⟩ = (l, {}) := by
  refine do_ok ?_ rfl ho
  show removeV _ _ = _
  unfold removeV
  simp only [h.find hb]
  have hd : delT p (wf l p b) = l := by
    refine rise_ext ((h.inv.rise.put _ _).del _) h.inv.rise fun z => ?_
    rw [del_mem, put_mem]
    constructor
    · rintro ⟨e | e, e'⟩
      · exact absurd (by rw [e]) e'
      · exact e.1
    · exact fun hz => ⟨.inr ⟨hz, get_none.1 h.no z hz⟩, get_none.1 h.no z hz⟩
  rw [if_pos (abv_one h.nm h.hp).2, if_pos trivial, if_neg (by simp), if_neg (by simp), (h.ok hb).names_file h.get rfl, if_neg (by simp), hd]
/-- Renaming in the root. -/
theorem One.moved (h : One l n p) {n' p' : Txt} (h' : One l n' p') (hne : p ≠ p') (hb : b.length ≤ 512) : moveV p p' (wf l p b) = wf l p' b := by
  have hM : MvOk (wf l p b) [n] [n'] ⟨false, b⟩ := by
    refine ⟨h.ok hb, h.nm, h'.nm, by simp, by simp, by rw [← h.hp]; exact h.get, fun e => (by cases e), fun e => (by cases e), ⟨_, (h.ok hb).root, rfl⟩, ?_⟩
    rw [← h'.hp, get_put h.inv.rise, if_neg (fun e => hne e.symm)]
    exact h'.no
  have hu : underV p p = true := by rw [h.hp]; exact (under_join h.nm h.nm).2 (List.prefix_refl _)
  obtain ⟨h1, h2⟩ := hM.move
  rw [← h.hp, ← h'.hp] at h1 h2
  have only : ∀ z ∈ wf l p b, underV z.1 p = true → z = (p, ⟨false, b⟩) ∧ goes p p' z.1 = p' := fun z hz hu => by
    rw [h.hp] at hu
    obtain ⟨r, e1, e2, _, _, e5⟩ := hM.goes_ hz hu
    rw [e5 rfl, List.append_nil, ← h.hp] at e1
    rw [e5 rfl, List.append_nil, ← h.hp, ← h'.hp] at e2
    rcases put_mem.1 hz with e | ⟨_, e⟩
    · exact ⟨e, e2⟩
    · exact absurd e1 e
  refine rise_ext h1 (h.inv.rise.put _ _) fun z => ?_
  rw [h2, show (z ∈ wf l p' b ↔ _) from put_mem]
  constructor
  · rintro (⟨hz, hn⟩ | ⟨y, hy, hv, rfl⟩)
    · rcases put_mem.1 hz with e | ⟨e, _⟩
      · rw [e] at hn; exact absurd hu hn
      · exact .inr ⟨e, get_none.1 h'.no z e⟩
    · obtain ⟨e1, e2⟩ := only y hy hv
      rw [e2, e1]
      exact .inl rfl
  · rintro (rfl | ⟨hz, _⟩)
    · obtain ⟨_, e2⟩ := only (p, ⟨false, b⟩) (put_mem.2 (.inl rfl)) hu
      exact .inr ⟨(p, ⟨false, b⟩), put_mem.2 (.inl rfl), hu, by rw [e2]⟩
    · have hz' : z ∈ wf l p b := put_mem.2 (.inr ⟨hz, get_none.1 h.no z hz⟩)
      refine .inl ⟨hz', fun hv => ?_⟩
      have := (only z hz' hv).1
      exact get_none.1 h.no z hz (by rw [this])
theorem One.rename (h : One l n p) {n' p' : Txt} (h' : One l n' p') (hne : p ≠ p') (hb : b.length ≤ 512) {I J : Int} (hI : (l.length : Int) + 1 ≤ I) (hJ : (wtL l : Int) + 9 ≤ J) {x y : Int} {d : List UInt8} :
    doV I J (wf l p b) ⟨5, p, p', x, y, d⟩ = (wf l p' b, {}) := by
  refine do_ok ?_ rfl (h'.over hb hI hJ)
  have hg : getT p' (wf l p b) = getT p' l := by rw [get_put h.inv.rise, if_neg (fun e => hne e.symm)]
  show renameV _ _ = _
  unfold renameV
  simp only [h.find hb, up_one (h.ok hb) h'.nm h'.hp, (abv_one h.nm h.hp).1, (abv_one h.nm h.hp).2, (abv_one h'.nm h'.hp).2]
  rw [if_pos ⟨trivial, trivial⟩, if_pos trivial, if_neg (by simp), if_neg (by simp), if_pos trivial, hg, h'.no, if_neg (by simp), if_neg (by simp), h.moved h' hne hb]
theorem One.there (h : One l n p) {n' p' : Txt} (hn : Nms [n']) (hp : p' = joinV [n']) (ht : (getT p' l).isSome = true) (hne : p ≠ p') (hb : b.length ≤ 512) {I J : Int} {x y : Int} {d : List UInt8} :
    doV I J (wf l p b) ⟨5, p, p', x, y, d⟩ = (wf l p b, wrongV 8) := by
  refine do_bad ?_ (by decide)
  have hg : getT p' (wf l p b) = getT p' l := by rw [get_put h.inv.rise, if_neg (fun e => hne e.symm)]
  show renameV _ _ = _
  unfold renameV
  simp only [h.find hb, up_one (h.ok hb) hn hp, (abv_one h.nm h.hp).1, (abv_one h.nm h.hp).2, (abv_one hn hp).2]
  rw [if_pos ⟨trivial, trivial⟩, if_pos trivial, if_neg (by simp), if_neg (by simp), if_pos trivial, hg, if_pos ht]
/-- What is renamed to a thing that is there stays. -/
theorem rename_there {m : TL} {I J : Int} {c : CallV} (hk : c.kind = 5) (ht : (getT c.to m).isSome = true) : (doV I J m c).2.code ≠ 0 := by
  have ha : (actV m c).2.code ≠ 0 := by
    unfold actV
    rw [hk]
    show (renameV m c).2.code ≠ 0
    unfold renameV
    split
    · split
      · split
        · exact wrong_ne (by decide)
        · split
          · exact wrong_ne (by decide)
          · split
            · exact wrong_ne (by decide)
            · rename_i e; exact e
      · rename_i e; exact e
    · exact wrong_ne (by decide)
  unfold doV
  rw [if_neg ha]
  exact ha
/-- Making. -/
theorem make_one {I J : Int} (hi : Inv l) {n p : Txt} (hn : Nms [n]) (hp : p = joinV [n]) {q : Txt} {x y : Int} {d : List UInt8} (h0 : (doV I J l ⟨1, p, q, x, y, d⟩).2.code = 0) :
    One l n p ∧ doV I J l ⟨1, p, q, x, y, d⟩ = (wf l p [], {}) ∧ overV I J (wf l p []) = false := by
  have ha : actV l ⟨1, p, q, x, y, d⟩ = if (getT p l).isSome then (l, wrongV 8) else if fullV l [47] then (l, wrongV 17) else (wf l p [], {}) := by
    show makeV _ _ = _
    unfold makeV
    simp only [up_one hi hn hp]
    rfl
  have hone : ∀ r, actV l ⟨1, p, q, x, y, d⟩ = r → (doV I J l ⟨1, p, q, x, y, d⟩).2.code = 0 → r.2.code = 0 ∧ overV I J r.1 = false ∧ doV I J l ⟨1, p, q, x, y, d⟩ = r := by
    rintro r rfl h0
    unfold doV at h0 ⊢
    split at h0
    · rename_i h1
      rw [if_pos h1]
      split at h0
      · exact absurd h0 (wrong_ne (by decide))
      · rename_i h2
        rw [if_neg h2]
        exact ⟨h1, by simpa [turnsV] using h2, rfl⟩
    · rename_i h1; exact absurd h0 h1
  obtain ⟨k1, k2, k3⟩ := hone _ ha h0
  split at k1
  · exact absurd k1 (wrong_ne (by decide))
  · rename_i h1
    rw [if_neg h1] at k2 k3
    split at k1
    · exact absurd k1 (wrong_ne (by decide))
    · rename_i h2
      rw [if_neg h2] at k2 k3
      exact ⟨⟨hi, hn, hp, by simpa using h1⟩, k3, k2⟩
/-- The law's two paths. -/
def zzT : Txt := [47, 122, 122]
def zyT : Txt := [47, 122, 121]
theorem nms_zz : Nms [[122, 122]] := ⟨by decide, fun l hl => by rw [List.mem_singleton.1 hl]; exact of_decide_eq_true (by kernel_rfl)⟩
theorem nms_zy : Nms [[122, 121]] := ⟨by decide, fun l hl => by rw [List.mem_singleton.1 hl]; exact of_decide_eq_true (by kernel_rfl)⟩
theorem zz_join : zzT = joinV [[122, 122]] := by kernel_rfl
theorem zy_join : zyT = joinV [[122, 121]] := by kernel_rfl
theorem zz_ne : zzT ≠ zyT := by decide
end Go.Cat.Tree
