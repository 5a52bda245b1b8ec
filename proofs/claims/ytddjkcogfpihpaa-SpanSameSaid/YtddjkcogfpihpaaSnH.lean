/- The table of numbers by which the library's contracts lie at this program: laidSearch. -/
import Derived.Shelf.SlSorted.Search
import Derived.Test.YtddjkcogfpihpaaProg
namespace Go.Proofs.Ytddjkcogfpihpaa
open Go.Shelf
set_option linter.unusedVariables false
def laidSearch_ren : Go.Shelf.Ren := ⟨fun | 16 => 25 | n => n, fun | 3 => 3 | 35 => 48 | 4 => 4 | 38 => 54 | n => n, fun | n => n⟩
theorem laidSearch : Go.Proofs.SlLaysO.n16 Try.prog laidSearch_ren := {
  mixed := by kernel_rfl
  f16 := Try.func25.trans (congrArg some (by kernel_rfl))
  t3 := Try.underlying3
  a3 := Try.isAgg3
  z3 := Try.sizeOf3
  v3 := Try.zeroValue3
  t4 := Try.underlying4
  a4 := Try.isAgg4
  z4 := Try.sizeOf4
  v4 := Try.zeroValue4
  t35 := Try.underlying48
  a35 := Try.isAgg48
  z35 := Try.sizeOf48
  v35 := Try.zeroValue48
  t38 := Try.underlying54
  a38 := Try.isAgg54
  z38 := Try.sizeOf54
  v38 := Try.zeroValue54 }
end Go.Proofs.Ytddjkcogfpihpaa
