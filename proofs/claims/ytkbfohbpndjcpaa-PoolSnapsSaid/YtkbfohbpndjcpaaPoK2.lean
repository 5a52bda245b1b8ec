/- The table of numbers by which the library's contracts lie at this program: laidKeysS. -/
import Derived.Shelf.SlIter.Nil
import Derived.Test.YtkbfohbpndjcpaaProg
namespace Go.Proofs.Ytkbfohbpndjcpaa
open Go.Shelf
set_option linter.unusedVariables false
def laidKeysS_ren : Go.Shelf.Ren := ⟨fun | 7 => 31 | 10 => 38 | n => n, fun | 23 => 58 | 26 => 9 | 3 => 57 | 28 => 70 | 0 => 0 | 27 => 69 | 33 => 67 | 4 => 4 | n => n, fun | n => n⟩
theorem laidKeysS : Go.Proofs.SlLaysZ.n7 Try.prog laidKeysS_ren := {
  mixed := by kernel_rfl
  f7 := ⟨Try.f31.name, by decide, Try.func31.trans (congrArg some (by kernel_rfl))⟩
  f10 := ⟨Try.f38.name, by decide, Try.func38.trans (congrArg some (by kernel_rfl))⟩
  t0 := Try.underlying0
  a0 := Try.isAgg0
  z0 := Try.sizeOf0
  v0 := Try.zeroValue0
  t4 := Try.underlying4
  a4 := Try.isAgg4
  z4 := Try.sizeOf4
  v4 := Try.zeroValue4
  t23 := Try.underlying58
  a23 := Try.isAgg58
  z23 := Try.sizeOf58
  v23 := Try.zeroValue58
  t26 := Try.underlying9
  a26 := Try.isAgg9
  z26 := Try.sizeOf9
  v26 := Try.zeroValue9
  t27 := Try.underlying69
  a27 := Try.isAgg69
  z27 := Try.sizeOf69
  v27 := Try.zeroValue69
  t28 := Try.underlying70
  a28 := Try.isAgg70
  z28 := Try.sizeOf70
  v28 := Try.zeroValue70
  t33 := Try.underlying67
  a33 := Try.isAgg67
  z33 := Try.sizeOf67
  v33 := Try.zeroValue67 }
end Go.Proofs.Ytkbfohbpndjcpaa
