/- Bytes that came in. -/
import Derived.Test.YtkfjkdonbmjniaaOpen
namespace Go.Proofs.Ytkfjkdonbmjniaa
open Go.RowKit Go.ChangeShapes Go.WideShapes Go.Deep
set_option linter.unusedVariables false
theorem opens_bytes : Opens Try.prog 45 (Lay.int .u8).slice := opens_slice Try.underlying45 (opens_int Try.underlying5) (by kernel_rfl)
end Go.Proofs.Ytkfjkdonbmjniaa
