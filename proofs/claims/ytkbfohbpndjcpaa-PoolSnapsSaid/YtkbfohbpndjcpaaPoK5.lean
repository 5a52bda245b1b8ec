/- The table of numbers by which the library's contracts lie at this program: laidClone. -/
import Derived.Shelf.SlMaps.Clone
import Derived.Test.YtkbfohbpndjcpaaProg
namespace Go.Proofs.Ytkbfohbpndjcpaa
open Go.Shelf
set_option linter.unusedVariables false
def laidClone_ren : Go.Shelf.Ren := ⟨fun | 5 => 33 | 7 => 39 | n => n, fun | 23 => 57 | 25 => 9 | 3 => 54 | 4 => 4 | 20 => 20 | n => n, fun | n => n⟩
theorem laidClone : Go.Proofs.SlLaysW.n5 Try.prog laidClone_ren := {
  mixed := by kernel_rfl
  f5 := ⟨Try.f33.name, by decide, Try.func33.trans (congrArg some (by kernel_rfl))⟩
  f7 := Try.func39.trans (congrArg some (by kernel_rfl))
  t4 := Try.underlying4
  a4 := Try.isAgg4
  z4 := Try.sizeOf4
  v4 := Try.zeroValue4
  t20 := Try.underlying20
  a20 := Try.isAgg20
  z20 := Try.sizeOf20
  v20 := Try.zeroValue20
  t23 := Try.underlying57
  a23 := Try.isAgg57
  z23 := Try.sizeOf57
  v23 := Try.zeroValue57 }
end Go.Proofs.Ytkbfohbpndjcpaa
