/- What the loop of the law VersPlays keeps, and the two Puts and Trims side by side. Condition: at most 64 versions. -/
import Derived.Test.YtobndboogafjpaaVersRefTrim
import Derived.Test.YtobndboogafjpaaVersTwo
import Derived.Test.YtobndboogafjpaaVersList
import Derived.Test.YtobndboogafjpaaFrameV
namespace Go.Cat.Vers

def putL (l : List Ver) (v : Ver) : List Ver := if putErr l v = 0 then l ++ [v] else l
theorem putErr_long {l : List Ver} {v : Ver} (h : 2048 < v.data.length) : putErr l v = 6 := by unfold putErr; rw [if_pos h]
theorem putErr_arg {l : List Ver} {v : Ver} (h : v.data.length ≤ 2048) (h2 : v.ver = 0 ∨ v.seq = 0) : putErr l v = 1 := by unfold putErr; rw [if_neg (by omega), if_pos h2]
theorem putErr_state {l : List Ver} {v : Ver} (h : v.data.length ≤ 2048) (h2 : ¬ (v.ver = 0 ∨ v.seq = 0)) (h3 : 0 < l.length ∧ (v.ver - 1 ≠ (l.getLastD zero).ver ∨ v.seq ≤ (l.getLastD zero).seq)) : putErr l v = 12 := by
  unfold putErr; rw [if_neg (by omega), if_neg h2, if_pos h3]
theorem putErr_ok {l : List Ver} {v : Ver} (h : v.data.length ≤ 2048) (h2 : ¬ (v.ver = 0 ∨ v.seq = 0)) (h3 : ¬ (0 < l.length ∧ (v.ver - 1 ≠ (l.getLastD zero).ver ∨ v.seq ≤ (l.getLastD zero).seq))) : putErr l v = 0 := by
  unfold putErr; rw [if_neg (by omega), if_neg h2, if_neg h3]
theorem putL_ok {l : List Ver} {v : Ver} (h : putErr l v = 0) : putL l v = l ++ [v] := by unfold putL; rw [if_pos h]
theorem putL_no {l : List Ver} {v : Ver} (h : putErr l v ≠ 0) : putL l v = l := by unfold putL; rw [if_neg h]

/-- The versions that the law comes to. -/
structure Right (k : Nat) (l : List Ver) : Prop where
  rise : Rising l
  len : l.length ≤ k
  data : ∀ v ∈ l, v.data.length ≤ 2048
  pos : ∀ v ∈ l, 0 < v.ver ∧ 0 < v.seq
theorem Right.none : Right 0 [] := ⟨fun i j _ hj => by simp at hj, by simp, by simp, by simp⟩
theorem Right.small {k : Nat} {l : List Ver} (h : Right k l) (hk : k ≤ 64) : Small l := ⟨by have := h.len; omega, fun v hv => by have := h.data v hv; omega⟩
theorem Right.mono {k k' : Nat} {l : List Ver} (h : Right k l) (hk : k ≤ k') : Right k' l := ⟨h.rise, Nat.le_trans h.len hk, h.data, h.pos⟩
theorem Right.cut {k : Nat} {l : List Ver} (h : Right k l) (t : Nat) : Right (k + 1) (l.drop t) :=
  ⟨h.rise.cut t, by rw [List.length_drop]; have := h.len; omega, fun v hv => h.data v (List.mem_of_mem_drop hv), fun v hv => h.pos v (List.mem_of_mem_drop hv)⟩

theorem right_put {k : Nat} {l : List Ver} {v : Ver} (h : Right k l) (h0 : 0 ≤ v.ver) (h1 : 0 ≤ v.seq) : Right (k + 1) (putL l v) := by
  by_cases hl : 2048 < v.data.length
  · rw [putL_no (by rw [putErr_long hl]; omega)]; exact h.mono (Nat.le_succ _)
  by_cases ha : v.ver = 0 ∨ v.seq = 0
  · rw [putL_no (by rw [putErr_arg (by omega) ha]; omega)]; exact h.mono (Nat.le_succ _)
  by_cases hs : 0 < l.length ∧ (v.ver - 1 ≠ (l.getLastD zero).ver ∨ v.seq ≤ (l.getLastD zero).seq)
  · rw [putL_no (by rw [putErr_state (by omega) ha hs]; omega)]; exact h.mono (Nat.le_succ _)
  · rw [putL_ok (putErr_ok (by omega) ha hs)]
    refine ⟨h.rise.put fun h2 => ?_, by have := h.len; simp; omega, fun u hu => ?_, fun u hu => ?_⟩
    · omega
    · rcases List.mem_append.1 hu with hu | hu
      · exact h.data u hu
      · simp at hu; subst hu; omega
    · rcases List.mem_append.1 hu with hu | hu
      · exact h.pos u hu
      · simp at hu; subst hu; omega

theorem Picked.uniq {l : List Ver} {ver done : Int} {u v : Ver} (hr : Rising l) (h : Picked l ver done u) (h' : Picked l ver done v) : u = v := by
  have key : ∀ a b : Ver, a ∈ l → b ∈ l → a.ver = b.ver → a = b := by
    intro a b ha hb hab
    obtain ⟨i, hi, rfl⟩ := List.getElem_of_mem ha
    obtain ⟨j, hj, rfl⟩ := List.getElem_of_mem hb
    have e : ∀ m (hm : m < l.length), l.getD m zero = l[m] := fun m hm => by rw [List.getD_eq_getElem?_getD, List.getElem?_eq_getElem hm]; rfl
    rcases Nat.lt_trichotomy i j with h1 | h1 | h1
    · have := (hr i j h1 hj).2
      rw [e i hi, e j hj] at this
      omega
    · subst h1; rfl
    · have := (hr j i h1 hi).2
      rw [e i hi, e j hj] at this
      omega
  rcases h with ⟨h1, h2⟩ | ⟨h1, k, hk, h2⟩
  · rcases h' with ⟨h3, h4⟩ | ⟨h3, _⟩
    · exact key u v h1 h3 (by rw [h2, h4])
    · exact absurd h2 (h3 u h1)
  · rcases h' with ⟨h3, h4⟩ | ⟨_, k', hk', h3⟩
    · exact absurd h4 (h1 v h3)
    · obtain rfl := hk.uniq hk'
      rcases h2 with ⟨a, rfl⟩ | ⟨a, rfl⟩ <;> rcases h3 with ⟨b, rfl⟩ | ⟨b, rfl⟩
      · rfl
      · omega
      · omega
      · rfl
end Go.Cat.Vers
namespace Go.Proofs.Ytobndboogafjpaa
open Go.RowKit Go.Cat Go.Cat.Vers

/-- A row of the reference's, in w; its bytes lie in w0. -/
structure RRow (w0 : World) (base : Nat) (A : Option Addr) (c : Nat) (rs : List (Ver × Option Addr × Nat)) (l : List Ver) (w : World) : Prop where
  map : rs.map (·.1) = l
  row : w.ownsRow base 40 3 (.slice A l.length c) l.length (rows rs)
  bytes : ∀ r ∈ rs, Bytes w0 r.2.1 r.1.data
section
variable {w0 w w' : World} {base c : Nat} {A : Option Addr} {rs : List (Ver × Option Addr × Nat)} {l : List Ver} {R : Value}
theorem RRow.below (h : RRow w0 base A c rs l w) (hb : Below w.heap.size w w') : RRow w0 base A c rs l w' := ⟨h.map, own_below h.row hb, h.bytes⟩
theorem RRow.q (h : RRow w0 base A c rs l w) : VersQ w0 w A l := ⟨rs, h.map, ownN_sees h.row, h.bytes⟩
theorem RRow.touch {b g : Nat} {m : List Ver} (h : RRow w0 base A c rs l w) (hh : HoldV b g R w m) (ht : Tch (Mine g R) w w') : RRow w0 base A c rs l w' := by
  refine ⟨h.map, own_touch h.row ht fun k hk hm => ?_, h.bytes⟩
  obtain ⟨_, cs, e, fr, he, hte⟩ := hh.mine k hm
  rcases h.row.2 with ⟨hv, _⟩ | ⟨g', cap, cur, hv, _, hx, _⟩
  · rw [hv] at hk; cases hk
  · rw [hv] at hk
    simp only [Value.ownBlock, Option.some.injEq] at hk
    subst hk
    rw [hx] at he
    injection he with he
    injection he with _ he
    subst he
    rcases hte with h | h
    · exact absurd h (by decide)
    · exact absurd h (by decide)
end

theorem rput_all {w0 w : World} {base k : Nat} {A : Option Addr} {c : Nat} {rs : List (Ver × Option Addr × Nat)} {l : List Ver} (hR : RRow w0 base A c rs l w) (hl : Right k l) (hk : k ≤ 64) (v : Ver) (Av : Option Addr) (cv : Nat) (hv : VerIn v cv) (hb : Bytes w0 Av v.data) (hd : v.data.length ≤ 2100) (hbase : base ≤ w.heap.size) :
    Calls Try.prog 15 #[.slice A l.length c, vv v Av cv] w fun e w' => ∃ A' c' rs', e = .returned (.tuple #[.slice A' (putL l v).length c', .int .i64 (putErr l v)]) ∧ RRow w0 base A' c' rs' (putL l v) w' ∧ Below w.heap.size w w' := by
  have h64 : l.length ≤ 65536 := by have := hl.len; omega
  have v0 := hv.v0
  have v1 := hv.v1
  have s0 := hv.s0
  by_cases h1 : 2048 < v.data.length
  · have e := putErr_long (l := l) h1
    rw [e, putL_no (by rw [e]; omega)]
    exact (rput_long A l.length c v Av cv w h1 (by omega)).mono fun e w' ⟨he, hB⟩ => ⟨A, c, rs, he, hR.below hB, hB⟩
  by_cases h2 : v.ver = 0 ∨ v.seq = 0
  · have e := putErr_arg (l := l) (by omega) h2
    rw [e, putL_no (by rw [e]; omega)]
    exact (rput_arg A l.length c v Av cv w (by omega) h2).mono fun e w' ⟨he, hB⟩ => ⟨A, c, rs, he, hR.below hB, hB⟩
  by_cases h3 : 0 < l.length ∧ (v.ver - 1 ≠ (l.getLastD zero).ver ∨ v.seq ≤ (l.getLastD zero).seq)
  · have e := putErr_state (by omega) h2 h3
    rw [e, putL_no (by rw [e]; omega)]
    exact (rput_state A l c v Av cv w0 w hR.q h64 (by omega) (by omega) (by omega) (by omega) h3).mono fun e w' ⟨he, hB⟩ => ⟨A, c, rs, he, hR.below hB, hB⟩
  · have e := putErr_ok (by omega) h2 h3
    rw [e, putL_ok e]
    refine (rput_ok A rs l c v Av cv w0 w hR.map (ownN_sees hR.row) hR.bytes h64 (by omega) (by omega) (by omega) (by omega) (fun h => by omega)).mono ?_
    rintro e w' ⟨A', c', he, ho, hB⟩
    have hm : (rs ++ [(v, Av, cv)]).map (·.1) = l ++ [v] := by simp [hR.map]
    have hlen : (rs ++ [(v, Av, cv)]).length = (l ++ [v]).length := by rw [← hm]; simp
    rw [hlen] at he ho
    refine ⟨A', c', _, he, ⟨hm, own_mono ho hbase, fun r hr => ?_⟩, hB⟩
    rcases List.mem_append.1 hr with hr | hr
    · exact hR.bytes r hr
    · simp at hr; subst hr; exact hb

theorem put_all {w : World} {base g k : Nat} {R : Value} {l : List Ver} (hh : HoldV base g R w l) (hl : Right k l) (hk : k ≤ 64) (v : Ver) (Av : Option Addr) (cv : Nat) (hv : VerIn v cv) (hb : Bytes w Av v.data) (hd : v.data.length ≤ 2100) (hbase : base ≤ w.heap.size) :
    Calls Try.prog 9 #[.pointer (some ⟨g, 0, none⟩), vv v Av cv] w fun e w' => e = .returned (.int .i64 (putErr l v)) ∧ ∃ R', HoldV base g R' w' (putL l v) ∧ Tch (Mine g R) w w' := by
  have h64 : l.length ≤ 65536 := by have := hl.len; omega
  have v0 := hv.v0
  have v1 := hv.v1
  have s0 := hv.s0
  by_cases h1 : 2048 < v.data.length
  · have e := putErr_long (l := l) h1
    rw [e, putL_no (by rw [e]; omega)]
    exact (put_long _ (by simp) v Av cv w h1 (by omega)).mono fun e w' ⟨he, hB⟩ => ⟨he, R, hh.below hB, Tch.of_below hB⟩
  by_cases h2 : v.ver = 0 ∨ v.seq = 0
  · have e := putErr_arg (l := l) (by omega) h2
    rw [e, putL_no (by rw [e]; omega)]
    exact (put_arg _ (by simp) v Av cv w (by omega) h2).mono fun e w' ⟨he, hB⟩ => ⟨he, R, hh.below hB, Tch.of_below hB⟩
  by_cases h3 : 0 < l.length ∧ (v.ver - 1 ≠ (l.getLastD zero).ver ∨ v.seq ≤ (l.getLastD zero).seq)
  · have e := putErr_state (by omega) h2 h3
    rw [e, putL_no (by rw [e]; omega)]
    exact (put_state base g R l v Av cv w hh h64 (by omega) (by omega) (by omega) (by omega) h3).mono fun e w' ⟨he, hB⟩ => ⟨he, R, hh.below hB, Tch.of_below hB⟩
  · have e := putErr_ok (by omega) h2 h3
    rw [e, putL_ok e]
    exact (put_ok base g R l v Av cv w hh h64 (by omega) hb (by omega) (by omega) (by omega) (fun h => by omega) hbase).mono fun e w' ⟨he, R', h4, _, h5⟩ => ⟨he, R', h4, h5⟩
end Go.Proofs.Ytobndboogafjpaa
