/- What Get of entries calls: Left, Trim of zeros, a text out of bytes. No condition. -/
import Derived.Test.YtjilejmchaejiaaDoorEntGetV
import Derived.Test.YtjilejmchaejiaaDoorFixRaw
import Derived.Test.YtjilejmchaejiaaDoorDirShelf
import Derived.Shelf.Strings.Trim
import Derived.Laws.IdiomStrings
namespace Go.Cat
open Go.RowKit
theorem IS.next_take {s : IS} {n : Nat} (he : s.e = 0) (h : n ≤ s.b.length) : s.next n = (⟨s.b.drop n, 0⟩, s.b.take n, true) := by
  unfold IS.next
  rw [if_neg (by simpa using he), if_neg (by omega)]
theorem IS.upto_take {s : IS} {n : Nat} {most : Int} (he : s.e = 0) (h : n ≤ s.b.length) (hm : (num (s.b.take n) : Int) ≤ most) : s.upto n most = (⟨s.b.drop n, 0⟩, (num (s.b.take n) : Int)) := by
  unfold IS.upto
  rw [IS.next_take he h]
  simp only
  rw [if_neg (by simp), if_neg (by omega)]
end Go.Cat
namespace Go.Cat.Dir
open Go.RowKit Go.Cat
theorem drop_nil : ∀ l : Txt, l.dropWhile (fun y => y == 0) = [] ↔ ∀ x ∈ l, (x == 0) = true
  | [] => by simp
  | a :: l => by
    rw [List.dropWhile_cons]
    by_cases h : (a == 0) = true
    · rw [if_pos h, drop_nil l]
      constructor
      · intro h2 x hx
        rcases List.mem_cons.1 hx with rfl | hx
        · exact h
        · exact h2 x hx
      · exact fun h2 x hx => h2 x (List.mem_cons_of_mem _ hx)
    · rw [if_neg h]
      constructor
      · intro h2; cases h2
      · intro h2; exact absurd (h2 a List.mem_cons_self) h
theorem trim_nil (l : Txt) : Lib.trimB l 0 = [] ↔ l.all (fun x => x == 0) = true := by
  unfold Lib.trimB Lib.trimLeftB Lib.trimRightB
  constructor
  · intro h
    rw [drop_nil] at h
    rw [List.all_eq_true]
    intro x hx
    have hx' : x ∈ l.reverse := by simpa using hx
    rw [← List.takeWhile_append_dropWhile (p := fun y => y == 0) (l := l.reverse)] at hx'
    rcases List.mem_append.1 hx' with h1 | h1
    · exact List.all_eq_true.1 (List.all_takeWhile (p := fun y => y == 0) (l := l.reverse)) x h1
    · exact h x (by simpa using h1)
  · intro h
    have h1 : l.reverse.dropWhile (fun y => y == 0) = [] := by
      rw [drop_nil]
      intro x hx
      exact List.all_eq_true.1 h x (by simpa using hx)
    rw [h1]
    rfl
end Go.Cat.Dir
namespace Go.Proofs.YtjilejmchaejiaaDoor
open Go.RowKit Go.Cat Go.Cat.Dir

theorem left_any (g : Nat) (s : IS) (w : World) (h : InF g s w) :
    Calls Tryd.prog 51 #[.pointer (some ⟨g, 0, none⟩)] w fun e w' => e = .returned (.int .i64 (s.b.length : Int)) ∧ w = w' := by
  obtain ⟨A, c, h1, _⟩ := h.ex
  have c0 : w.cell? ⟨g, 0, none⟩ = some (.slice A s.b.length c) := cell_of_row w g 0 _ _ _ h1
  clear h h1
  go_enter Tryd.func51, Tryd.ntmps51
  go_wp2_with fail
  go_ret
  exact ⟨rfl, rfl⟩

theorem trim_any (x : Txt) (w : World) (hx : x.length ≤ 9223372036854775807) :
    Calls Tryd.prog 54 #[.string (bs x), .string ⟨#[0]⟩] w fun e w' => e = .returned (.string (bs (Lib.trimB x 0))) ∧ ∃ m, w' = w.drewN m :=
  (Go.Proofs.Any.strings_Trim_one Tryd.lays160 (bs x) 0 (by decide) w (by rw [bs_size]; exact hx)).mono fun e w' ⟨he, hw⟩ => by
    refine ⟨he, ?_⟩
    rcases hw with rfl | rfl
    · exact ⟨0, rfl⟩
    · exact ⟨1, rfl⟩
theorem trim_eq (x : Txt) : ((bs (Lib.trimB x 0)).toList == ([] : List UInt8)) = x.all (fun b => b == 0) := by
  rw [bs_toList]
  have := trim_nil x
  cases h : x.all (fun b => b == 0) with
  | true => rw [this.2 h]; rfl
  | false =>
    rw [beq_eq_false_iff_ne]
    intro h2
    rw [this.1 h2] at h
    cases h

theorem conv_text {P : Program} (w : World) {src dst e : TypeId} (A : Option Addr) (n c : Nat) (l : Txt) (hs : P.underlying src = some (.slice e)) (he : P.underlying e = some (.int .u8)) (hd : P.underlying dst = some .string) (h : Bytes w A l) (hn : n = l.length) (h0 : 0 < l.length) :
    (convert src dst (.slice A n c)).run P w = .ok (.string (bs l)) w := by
  subst hn
  rcases h with h | ⟨b, off, hA, hc⟩
  · have : l = [] := by simpa using h
    subst this
    cases h0
  · subst hA
    refine run_convert_bytes_back w src dst e _ c l hs he hd fun j hj => ?_
    have := hc j (by8 l[j]) (by rw [List.getElem?_map, List.getElem?_eq_getElem hj]; rfl)
    have ea : (⟨b, off, none⟩ : Addr).add j = ⟨b, off + j, none⟩ := by unfold Addr.add; split <;> simp_all
    rw [ea]
    exact this
end Go.Proofs.YtjilejmchaejiaaDoor
