/- The walk of the law VersOwn, whole. Condition: numbers within their kinds. -/
import Derived.Test.YtobndboogafjpaaVersOwnA1
import Derived.Test.YtobndboogafjpaaVersOwnA2
import Derived.Test.YtobndboogafjpaaVersOwnA3
import Derived.Test.YtobndboogafjpaaVersOwnB
namespace Go.Proofs.Ytobndboogafjpaa
open Go.RowKit Go.Cat Go.Cat.Vers
theorem own_walk (x y : Ver) (A B : Option Addr) (c d : Nat) (w : World) (hx : Bytes w A x.data) (hy : Bytes w B y.data) (ix : VerIn x c) (iy : VerIn y d) :
    Calls Try.prog 5 #[.agg #[.int .u64 x.ver, .int .u64 x.seq, .slice A x.data.length c], .agg #[.int .u64 y.ver, .int .u64 y.seq, .slice B y.data.length d]] w fun e w' => e = .returned (.bool true) ∧ Below w.heap.size w w' := by
  have hm := Nat.le_trans ix.cap ix.max
  have hn := Nat.le_trans iy.cap iy.max
  have h0 := ix.v0
  have h1 := ix.v1
  have h2 := ix.s0
  rcases Nat.lt_or_ge 2048 x.data.length with h | h
  · exact own_walk_a1 x y A B c d w hx hy hm hn h
  · by_cases hv : x.ver = 0
    · exact own_walk_a2 x y A B c d w hx hy hm hn h hv
    · by_cases hs : x.seq = 0
      · exact own_walk_a3 x y A B c d w hx hy hm hn h hv hs
      · exact own_walk_b x y A B c d w hx hy h (by omega) (by omega) (by omega) hn
end Go.Proofs.Ytobndboogafjpaa
