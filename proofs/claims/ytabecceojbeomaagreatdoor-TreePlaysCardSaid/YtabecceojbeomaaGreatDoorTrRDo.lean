/- The contract of the reference's Do, at all kinds. Conditions: the tree's invariant and bounds; at most 400 things; paths below 2^32 bytes. -/
import Derived.Test.YtabecceojbeomaaGreatDoorTrRC
import Derived.Test.YtabecceojbeomaaGreatDoorTrRDoM
import Derived.Test.YtabecceojbeomaaGreatDoorTrRBPut
import Derived.Test.YtabecceojbeomaaGreatDoorTrRRename
namespace Go.Proofs.YtabecceojbeomaaGreatDoor
open Go.RowKit Go.Cat Go.Cat.Dir Go.Cat.Tree
theorem rdo_any (I J : Int) (A : Option Addr) (es : List (Txt × El)) (ca : Nat) (c : CallV) (Ac : Option Addr) (cA : Nat) (w : World) (h : RT w A ca es) (hAc : Bytes w Ac c.data) (hcd : c.data.length ≤ 100000) (hi : InvA I J (fullR es)) (hn : es.length ≤ 400) (hp : c.path.length < 4294967281) (hto : c.to.length < 4294967281) :
    Calls Tryz.prog 21 #[.agg #[.int .i64 I, .int .i64 J, .slice A es.length ca], .agg (callC c Ac cA)] w (ToldRDo (doV I J (fullR es) c) I J w) := by
  have h1 : c.kind = 1 ∨ c.kind = 2 ∨ c.kind = 3 ∨ c.kind = 4 ∨ c.kind = 5 ∨ c.kind = 6 ∨ c.kind = 7 ∨ c.kind = 8 ∨ c.kind = 9 ∨ c.kind = 10 ∨ ¬ (1 ≤ c.kind ∧ c.kind ≤ 10) := by omega
  rcases h1 with k | k | k | k | k | k | k | k | k | k | k
  · exact rdomake_any I J A es ca c Ac cA w h hi.inv (by omega) hp k
  · exact rdodir_any I J A es ca c Ac cA w h hi.inv (by omega) hp k
  · exact rdo3_any I J A es ca c Ac cA w _ h k fun W hW => by rw [do_remove hi (.inl k)]; exact rremove_any I J A es ca c Ac cA W (h.below hW) hi.inv (by omega) hp (.inl k)
  · exact rdo4_any I J A es ca c Ac cA w _ h k fun W hW => by rw [do_remove hi (.inr k)]; exact rremove_any I J A es ca c Ac cA W (h.below hW) hi.inv (by omega) hp (.inr k)
  · exact rdo5_any I J A es ca c Ac cA w _ h k fun W hW => rren_any I J A es ca c Ac cA W (h.below hW) hi.inv hn hp hto k
  · exact rdo6_any I J A es ca c Ac cA w _ h k fun W hW => rbput_any I J A es ca c Ac cA W (h.below hW) (hAc.below hW) (by omega) hi.inv (by omega) hp k
  · exact rdo7_any I J A es ca c Ac cA w _ h k fun W hW => by rw [do_get k]; exact rget_any I J A es ca c Ac cA W (h.below hW) (hAc.below hW) (by omega) hi.inv (by omega) hp k
  · exact rdo8_any I J A es ca c Ac cA w _ h k fun W hW => by rw [do_trunc hi k]; exact rcut_any I J A es ca c Ac cA W (h.below hW) (hAc.below hW) (by omega) hi.inv (by omega) hp k
  · exact rdolist_any I J A es ca c Ac cA w h hi.inv (by omega) hp k
  · exact rdostat_any I J A es ca c Ac cA w h hi.inv (by omega) hp k
  · rw [do_other k]; exact rdo0_any I J A es ca c Ac cA w h k
end Go.Proofs.YtabecceojbeomaaGreatDoor
