/- Orders that came in. -/
import Derived.Test.YtkbfohbpndjcpaaOpen
import Derived.Test.YtkbfohbpndjcpaaPoX
namespace Go.Proofs.Ytkbfohbpndjcpaa
open Go.RowKit Go.ChangeShapes Go.WideShapes Go.Deep
set_option linter.unusedVariables false
set_option maxRecDepth 100000

theorem opens_bytes : Opens Try.prog 28 (Lay.int .u8).slice := opens_slice Try.underlying28 (opens_int Try.underlying5) (by kernel_rfl)
theorem opens_order : Opens Try.prog 33 odL := by
  intro H enc w base spare held fuel cs x h
  obtain ⟨xs, n, _, _, hcl, hxl, hf⟩ := DataW.trod_struct Try.underlying33 h
  have hl6 : cs.length = 6 := hcl.trans (by kernel_rfl)
  have hx6 : xs.length = 6 := hxl
  obtain ⟨c0, c1, c2, c3, c4, c5, rfl⟩ : ∃ c0 c1 c2 c3 c4 c5, cs = [c0, c1, c2, c3, c4, c5] := by
    match cs, hl6 with
    | [a, b, c, d, e, f], _ => exact ⟨a, b, c, d, e, f, rfl⟩
  obtain ⟨x0, x1, x2, x3, x4, x5, rfl⟩ : ∃ x0 x1 x2 x3 x4 x5, xs = [x0, x1, x2, x3, x4, x5] := by
    match xs, hx6 with
    | [a, b, c, d, e, f], _ => exact ⟨a, b, c, d, e, f, rfl⟩
  have g0 : DataW.trod enc Try.prog w base spare held n 3 [c0] = some x0 := hf 0 _ rfl
  have g1 : DataW.trod enc Try.prog w base spare held n 3 [c1] = some x1 := hf 1 _ rfl
  have g2 : DataW.trod enc Try.prog w base spare held n 3 [c2] = some x2 := hf 2 _ rfl
  have g3 : DataW.trod enc Try.prog w base spare held n 3 [c3] = some x3 := hf 3 _ rfl
  have g4 : DataW.trod enc Try.prog w base spare held n 3 [c4] = some x4 := hf 4 _ rfl
  have g5 : DataW.trod enc Try.prog w base spare held n 28 [c5] = some x5 := hf 5 _ rfl
  obtain ⟨z0, e0, _⟩ := DataW.trod_int Try.underlying3 g0
  obtain ⟨z1, e1, _⟩ := DataW.trod_int Try.underlying3 g1
  obtain ⟨z2, e2, _⟩ := DataW.trod_int Try.underlying3 g2
  obtain ⟨z3, e3, _⟩ := DataW.trod_int Try.underlying3 g3
  obtain ⟨z4, e4, _⟩ := DataW.trod_int Try.underlying3 g4
  obtain ⟨d5, a, len, cap, e5, hd⟩ := opens_bytes g5
  refine ⟨⟨z0, z1, z2, z3, z4, d5⟩, [.int .i64 z0, .int .i64 z1, .int .i64 z2, .int .i64 z3, .int .i64 z4], [.slice a len cap], ?_, rfl, a, len, cap, rfl, hd⟩
  obtain rfl : c0 = .int .i64 z0 := by simpa using e0
  obtain rfl : c1 = .int .i64 z1 := by simpa using e1
  obtain rfl : c2 = .int .i64 z2 := by simpa using e2
  obtain rfl : c3 = .int .i64 z3 := by simpa using e3
  obtain rfl : c4 = .int .i64 z4 := by simpa using e4
  obtain rfl : c5 = .slice a len cap := by simpa using e5
  rfl
theorem opens_orders : Opens Try.prog 22 odL.slice := opens_slice Try.underlying22 opens_order (by kernel_rfl)
end Go.Proofs.Ytkbfohbpndjcpaa
