/- The contract of the reference's rename. Conditions: the tree's invariant; at most 400 things; paths below 2^32 bytes; kind Rename. -/
import Derived.Test.YtabecceojbeomaaGreatDoorTrRRenA
import Derived.Test.YtabecceojbeomaaGreatDoorTrRRenF
import Derived.Test.YtabecceojbeomaaGreatDoorTrRRenN
namespace Go.Proofs.YtabecceojbeomaaGreatDoor
open Go.RowKit Go.Cat Go.Cat.Dir Go.Cat.Tree
theorem rren_any (I J : Int) (A : Option Addr) (es : List (Txt × El)) (ca : Nat) (c : CallV) (Ac : Option Addr) (cA : Nat) (w : World) (h : RT w A ca es) (hi : Inv (fullR es)) (hn : es.length ≤ 400) (hp : c.path.length < 4294967281) (hto : c.to.length < 4294967281) (hkd : c.kind = 5) :
    Calls Tryz.prog 42 #[.agg #[.int .i64 I, .int .i64 J, .slice A es.length ca], .agg (callC c Ac cA)] w (ToldRDo (doV I J (fullR es) c) I J w) := by
  by_cases hX : abe c.path = 0 ∧ abe c.to = 0 ∧ (findV (fullR es) c.path).1 = 0 ∧ lpB (findV (fullR es) c.path).2.dir c = false ∧ lgB (findV (fullR es) c.path).2.dir c = false
  case neg =>
    refine rren_early I J A es ca c Ac cA w h hi hn hp hto hkd fun h1 h2 h3 h4 => ?_
    cases h5 : lgB (findV (fullR es) c.path).2.dir c with
    | true => rfl
    | false => exact absurd ⟨h1, h2, h3, h4, h5⟩ hX
  case pos =>
    obtain ⟨h1, h2, hF, hl, hG⟩ := hX
    have hA : abe c.path = 0 ∧ abe c.to = 0 := ⟨h1, h2⟩
    by_cases hY : (upV (fullR es) c.to).1 = 0 ∧ (getR c.to es).isSome = false ∧ bgB (fullR es) c = false
    case neg =>
      have hX2 : (upV (fullR es) c.to).1 = 0 → (getR c.to es).isSome = false → bgB (fullR es) c = true := fun h1 h2 => by
        cases h5 : bgB (fullR es) c with
        | true => rfl
        | false => exact absurd ⟨h1, h2, h5⟩ hY
      cases hd : (findV (fullR es) c.path).2.dir with
      | false => exact rren_lateF I J A es ca c Ac cA w h hi hn hp hto hkd hA hF hd hG hX2
      | true =>
        by_cases hne : c.to = c.path
        · exact rren_lateS I J A es ca c Ac cA w h hi hn hp hto hkd hA hF hd hne hG hX2
        · have hun : underV c.to c.path = false := by
            unfold lpB at hl
            rw [hd] at hl
            simpa [hne] using hl
          exact rren_lateN I J A es ca c Ac cA w h hi hn hp hto hkd hA hF hd hne hun hG hX2
    case pos =>
      obtain ⟨hU, hM, hb⟩ := hY
      cases hd : (findV (fullR es) c.path).2.dir with
      | false =>
        exact rren_goodF I J A es ca c Ac cA w h hi hn hp hto hkd hA hF hd hG hU hM hb
      | true =>
        by_cases hne : c.to = c.path
        · have hf := hi.find_ok hF
          rw [← hne, full_get] at hf
          cases hg : getR c.to es with
          | none => rw [hg] at hf; cases hf
          | some q => rw [hg] at hM; cases hM
        · have hun : underV c.to c.path = false := by
            unfold lpB at hl
            rw [hd] at hl
            simpa [hne] using hl
          exact rren_goodN I J A es ca c Ac cA w h hi hn hp hto hkd hA hF hd hne hun hG hU hM hb
end Go.Proofs.YtabecceojbeomaaGreatDoor
