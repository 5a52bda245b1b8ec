/- Edits and bytes that came in. -/
import Derived.Test.YthjjfmnipemakaaOpen
import Derived.Test.YthjjfmnipemakaaTsB
namespace Go.Proofs.Ythjjfmnipemakaa
open Go.RowKit Go.ChangeShapes Go.WideShapes Go.Deep
set_option linter.unusedVariables false
set_option maxRecDepth 100000

theorem opens_bytes : Opens Try.prog 23 (Lay.int .u8).slice := opens_slice Try.underlying23 (opens_int Try.underlying5) (by kernel_rfl)
theorem opens_edit : Opens Try.prog 63 edL := by
  intro H enc w base spare held fuel cs x h
  obtain ⟨xs, n, _, _, hcl, hxl, hf⟩ := DataW.trod_struct Try.underlying63 h
  have hl4 : cs.length = 4 := hcl.trans (by kernel_rfl)
  have hx4 : xs.length = 4 := hxl
  obtain ⟨c0, c1, c2, c3, rfl⟩ : ∃ c0 c1 c2 c3, cs = [c0, c1, c2, c3] := by
    match cs, hl4 with
    | [a, b, c, d], _ => exact ⟨a, b, c, d, rfl⟩
  obtain ⟨x0, x1, x2, x3, rfl⟩ : ∃ x0 x1 x2 x3, xs = [x0, x1, x2, x3] := by
    match xs, hx4 with
    | [a, b, c, d], _ => exact ⟨a, b, c, d, rfl⟩
  have f0 := hf 0 _ rfl
  have f1 := hf 1 _ rfl
  have f2 := hf 2 _ rfl
  have f3 := hf 3 _ rfl
  have g0 : DataW.trod enc Try.prog w base spare held n 4 [c0] = some x0 := f0
  have g1 : DataW.trod enc Try.prog w base spare held n 3 [c1] = some x1 := f1
  have g2 : DataW.trod enc Try.prog w base spare held n 3 [c2] = some x2 := f2
  have g3 : DataW.trod enc Try.prog w base spare held n 23 [c3] = some x3 := f3
  obtain ⟨b0, e0, _⟩ := DataW.trod_bool Try.underlying4 g0
  obtain ⟨z1, e1, _⟩ := DataW.trod_int Try.underlying3 g1
  obtain ⟨z2, e2, _⟩ := DataW.trod_int Try.underlying3 g2
  obtain ⟨d3, a, len, cap, e3, hd⟩ := opens_bytes g3
  refine ⟨⟨b0, z1, z2, d3⟩, [.bool b0, .int .i64 z1, .int .i64 z2], [.slice a len cap], ?_, rfl, a, len, cap, rfl, hd⟩
  obtain rfl : c0 = .bool b0 := by simpa using e0
  obtain rfl : c1 = .int .i64 z1 := by simpa using e1
  obtain rfl : c2 = .int .i64 z2 := by simpa using e2
  obtain rfl : c3 = .slice a len cap := by simpa using e3
  rfl
theorem opens_edits : Opens Try.prog 22 edL.slice := opens_slice Try.underlying22 opens_edit (by kernel_rfl)
end Go.Proofs.Ythjjfmnipemakaa
