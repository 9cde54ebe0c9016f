/- Shelf contracts, laid at this seat by the kit, in plain words. Condition: as each says. -/
import Derived.Shelf.SlSortCmp.InsertionK
import Derived.Test.YtjdpljhhlmcbaaaProg
namespace Go.Proofs
open Go.Shelf
def Try.insPatch_ren : Go.Shelf.Ren := ⟨fun | 20 => 81 | n => n, fun | 24 => 80 | 22 => 37 | 3 => 3 | 25 => 99 | 4 => 4 | 0 => 0 | n => n, fun | n => n⟩
theorem Try.insPatch : Go.Proofs.SlLaysF0.n20 Try.prog Try.insPatch_ren := {
  mixed := by kernel_rfl
  f20 := ⟨Try.f81.name, by decide, Try.func81.trans (congrArg some (by kernel_rfl))⟩
  t0 := Try.underlying0
  a0 := Try.isAgg0
  z0 := Try.sizeOf0
  v0 := Try.zeroValue0
  t3 := Try.underlying3
  a3 := Try.isAgg3
  z3 := Try.sizeOf3
  v3 := Try.zeroValue3
  t4 := Try.underlying4
  a4 := Try.isAgg4
  z4 := Try.sizeOf4
  v4 := Try.zeroValue4
  t22 := Try.underlying37
  a22 := Try.isAgg37
  z22 := Try.sizeOf37
  v22 := Try.zeroValue37
  t25 := Try.underlying99
  a25 := Try.isAgg99
  z25 := Try.sizeOf99
  v25 := Try.zeroValue99 }
end Go.Proofs
