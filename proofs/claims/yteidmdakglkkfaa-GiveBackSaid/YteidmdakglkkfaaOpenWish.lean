/- Wishes that came in. -/
import Derived.Test.YteidmdakglkkfaaOpen
import Derived.Test.YteidmdakglkkfaaSpE
namespace Go.Proofs.Yteidmdakglkkfaa
open Go.RowKit Go.ChangeShapes Go.WideShapes Go.Deep
set_option linter.unusedVariables false

instance : Inhabited Wish := ⟨⟨0, 0, 0⟩⟩
theorem opens_wish : Opens Try.prog 93 wishL := by
  intro H enc w base spare held fuel cs x h
  obtain ⟨hl, hc⟩ := struct_ints Try.underlying93 (by kernel_rfl) (by kernel_rfl) (by
    intro j f hf
    have hj : j < 3 := (Array.getElem?_eq_some_iff.1 hf).1
    have : j = 0 ∨ j = 1 ∨ j = 2 := by omega
    rcases this with rfl | rfl | rfl <;> (obtain rfl := Option.some.inj hf; exact Try.underlying3)) h
  obtain ⟨z0, h0⟩ := hc 0 (by show 0 < 3; omega)
  obtain ⟨z1, h1⟩ := hc 1 (by show 1 < 3; omega)
  obtain ⟨z2, h2⟩ := hc 2 (by show 2 < 3; omega)
  refine ⟨⟨z0, z1, z2⟩, ?_⟩
  have hl3 : cs.length = 3 := hl
  match cs, hl3 with
  | [a, b, c], _ =>
    simp at h0 h1 h2
    subst h0 h1 h2
    rfl
theorem opens_wishes : Opens Try.prog 22 wishL.slice := opens_slice Try.underlying22 opens_wish (by kernel_rfl)
end Go.Proofs.Yteidmdakglkkfaa
