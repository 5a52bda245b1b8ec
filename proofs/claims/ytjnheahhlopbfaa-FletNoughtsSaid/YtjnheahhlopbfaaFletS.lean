/- The walk of 'sure', and the law FletChanged. -/
import Derived.Test.YtjnheahhlopbfaaFletX
namespace Go.Proofs.Ytjnheahhlopbfaa
open Go.RowKit
set_option linter.unusedVariables false

set_option maxHeartbeats 1000000 in
theorem sure (w : World) : Calls Try.prog 20 #[] w fun e w' => e = .returned (.bool true) ∧ Below w.heap.size w w' := by
  go_enter Try.func20, Try.ntmps20
  go_wp2_with fail
  refine (of_bytes _ _ _ [1, 0, 0, 0] _ ?_ (by omega)).mono ?_
  · refine ⟨rfl, Nat.le_refl _, by decide, fun h => by simp at h, ?_, .inr ⟨w.heap.size, 0, rfl, fun i hi => ?_⟩⟩
    · intro x hx
      simp at hx
      rcases hx with rfl | rfl <;> rfl
    · have hbx : Box (w.alloc (.cells #[.int .u8 1, .int .u8 0, .int .u8 0, .int .u8 0] 5)) w.heap.size #[.int .u8 1, .int .u8 0, .int .u8 0, .int .u8 0] 5 := Box.new rfl
      rw [Nat.zero_add, hbx.cell i]
      match i, hi with
      | 0, _ => rfl
      | 1, _ => rfl
      | 2, _ => rfl
      | 3, _ => rfl
  rintro e w1 ⟨a, b, c, d, hs, rfl, hb⟩
  have h1 : Four.zero.words (wordsOf [1, 0, 0, 0]) = ⟨1, 1, 1, 1⟩ := by
    simp [wordsOf, wordOf, Four.words, Four.word, Four.zero, wrap64]
  have h2 := hs.out
  rw [h1] at h2
  obtain ⟨rfl, rfl, rfl, rfl⟩ : 1 = a ∧ 1 = b ∧ 1 = c ∧ 1 = d := by simpa using h2
  clear h1 h2 hs
  have hB : Below w.heap.size w w1 := (Below_alloc1 _).trans (hb.mono (by simp))
  have HB := Lib.hid hB
  clear hb hB
  go_wp2
  go_ret
  exact ⟨by simp, HB.out.alloc HB.out.size _⟩
end Go.Proofs.Ytjnheahhlopbfaa
