/- The programs' rows of the types of extents. No condition. -/
import Derived.Test.YtjdpljhhlmcbaaaInoExts
import Derived.Test.YtjdpljhhlmcbaaaElem
namespace Go.Proofs.Ytjdpljhhlmcbaaa
open Go.RowKit Go.Cat Go.Cat.Ino
theorem info_ext : (Try.prog.info? 69).map (fun i => (i.zero, i.size, i.bytes)) = some (some (.agg #[.int .i64 0, .int .i64 0]), 2, 16) := by kernel_rfl
theorem elem_ext : Elem Try.prog 57 69 (.agg #[.int .i64 0, .int .i64 0]) 2 16 := ⟨Try.underlying57, info_ext, rfl, by decide, by decide⟩
theorem info_rext : (Try.prog.info? 68).map (fun i => (i.zero, i.size, i.bytes)) = some (some (.agg #[.int .i64 0, .int .i64 0]), 2, 16) := by kernel_rfl
theorem elem_rext : Elem Try.prog 62 68 (.agg #[.int .i64 0, .int .i64 0]) 2 16 := ⟨Try.underlying62, info_rext, rfl, by decide, by decide⟩
end Go.Proofs.Ytjdpljhhlmcbaaa
