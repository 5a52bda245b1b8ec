/- The table of numbers by which the library's contracts lie at this program: laidKeysO. -/
import Derived.Shelf.SlIter.Nil
import Derived.Test.YtkbfohbpndjcpaaProg
namespace Go.Proofs.Ytkbfohbpndjcpaa
open Go.Shelf
set_option linter.unusedVariables false
def laidKeysO_ren : Go.Shelf.Ren := ⟨fun | 7 => 30 | 10 => 37 | n => n, fun | 23 => 56 | 26 => 9 | 3 => 54 | 28 => 70 | 0 => 0 | 27 => 69 | 33 => 67 | 4 => 4 | n => n, fun | n => n⟩
theorem laidKeysO : Go.Proofs.SlLaysZ.n7 Try.prog laidKeysO_ren := {
  mixed := by kernel_rfl
  f7 := ⟨Try.f30.name, by decide, Try.func30.trans (congrArg some (by kernel_rfl))⟩
  f10 := ⟨Try.f37.name, by decide, Try.func37.trans (congrArg some (by kernel_rfl))⟩
  t0 := Try.underlying0
  a0 := Try.isAgg0
  z0 := Try.sizeOf0
  v0 := Try.zeroValue0
  t4 := Try.underlying4
  a4 := Try.isAgg4
  z4 := Try.sizeOf4
  v4 := Try.zeroValue4
  t23 := Try.underlying56
  a23 := Try.isAgg56
  z23 := Try.sizeOf56
  v23 := Try.zeroValue56
  t26 := Try.underlying9
  a26 := Try.isAgg9
  z26 := Try.sizeOf9
  v26 := Try.zeroValue9
  t27 := Try.underlying69
  a27 := Try.isAgg69
  z27 := Try.sizeOf69
  v27 := Try.zeroValue69
  t28 := Try.underlying70
  a28 := Try.isAgg70
  z28 := Try.sizeOf70
  v28 := Try.zeroValue70
  t33 := Try.underlying67
  a33 := Try.isAgg67
  z33 := Try.sizeOf67
  v33 := Try.zeroValue67 }
end Go.Proofs.Ytkbfohbpndjcpaa
