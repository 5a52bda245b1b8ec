/- Turns that came in. -/
import Derived.Test.YthjjfmnipemakaaOpen
import Derived.Test.YthjjfmnipemakaaKpG
namespace Go.Proofs.Ythjjfmnipemakaa
open Go.RowKit Go.ChangeShapes Go.WideShapes Go.Deep
set_option linter.unusedVariables false

theorem opens_turn : Opens Try.prog 85 turnL := by
  intro H enc w base spare held fuel cs x h
  obtain ⟨hl, hc⟩ := struct_ints Try.underlying85 (by kernel_rfl) (by kernel_rfl) (by
    intro j f hf
    have hj : j < 2 := (Array.getElem?_eq_some_iff.1 hf).1
    have : j = 0 ∨ j = 1 := by omega
    rcases this with rfl | rfl <;> (obtain rfl := Option.some.inj hf; exact Try.underlying3)) h
  obtain ⟨z0, h0⟩ := hc 0 (by show 0 < 2; omega)
  obtain ⟨z1, h1⟩ := hc 1 (by show 1 < 2; omega)
  refine ⟨(z0, z1), ?_⟩
  have hl3 : cs.length = 2 := hl
  match cs, hl3 with
  | [a, b], _ =>
    simp at h0 h1
    subst h0 h1
    rfl
theorem opens_turns : Opens Try.prog 49 turnL.slice := opens_slice Try.underlying49 opens_turn (by kernel_rfl)
end Go.Proofs.Ythjjfmnipemakaa
