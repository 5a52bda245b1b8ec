/- Numbers that came in. -/
import Derived.Test.YtddjkcogfpihpaaOpen
namespace Go.Proofs.Ytddjkcogfpihpaa
open Go.RowKit Go.ChangeShapes Go.WideShapes Go.Deep
set_option linter.unusedVariables false
theorem opens_intsS : Opens Try.prog 22 (Lay.int .i64).slice := opens_slice Try.underlying22 (opens_int Try.underlying3) (by kernel_rfl)
theorem SRow.intRow {k : IntKind} {w : World} {F : Nat → Prop} {a : Option Addr} {len cap : Nat} {xs : List Int} (h : SRow (Lay.int k) w F a len cap xs) : Row k w a len cap xs := by
  obtain ⟨hl, _, vss, hv, hp⟩ := h
  have e : vss.flatten = xs.map (.int k) ∧ ∀ x ∈ xs, (Lit.int k x).wf = true := by
    obtain ⟨h1, h2⟩ := hp
    clear hv hl
    induction xs generalizing vss with
    | nil => cases vss <;> simp_all
    | cons x xs ih =>
      cases vss with
      | nil => simp at h1
      | cons v vss =>
        have h0 := h2 0 x v rfl rfl
        obtain ⟨e1, e2⟩ := ih vss (by simpa using h1) (fun i y u hy hu => h2 (i + 1) y u (by simpa using hy) (by simpa using hu))
        refine ⟨by rw [List.flatten_cons, e1, h0.1]; rfl, fun y hy => ?_⟩
        rcases List.mem_cons.1 hy with rfl | hy
        · exact h0.2
        · exact e2 y hy
  rw [e.1] at hv
  exact hv.toRow e.2
end Go.Proofs.Ytddjkcogfpihpaa
