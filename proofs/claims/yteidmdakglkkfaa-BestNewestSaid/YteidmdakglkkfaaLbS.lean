/- The walks of package label: small, sums. -/
import Derived.Test.YteidmdakglkkfaaLbN
namespace Go.Proofs.Yteidmdakglkkfaa
open Go.RowKit
set_option linter.unusedVariables false
set_option maxRecDepth 100000

set_option maxHeartbeats 1000000 in
theorem sums (h off : Nat) (w : World) :
    Calls Try.prog 44 #[.pointer (some ⟨h, off, none⟩)] w fun e w' => e = .returned (.agg #[.pointer (some ⟨h, off, none⟩), .pointer (some ⟨h, off + 1, none⟩), .pointer (some ⟨h, off + 2, none⟩), .pointer (some ⟨h, off + 3, none⟩)]) ∧ Below w.heap.size w w' := by
  go_enter Try.func44, Try.ntmps44
  go_wp2_with fail
  obtain ⟨V, hV⟩ : ∃ V, V = w.alloc (.cells #[.pointer none, .pointer none, .pointer none, .pointer none] 113) := ⟨_, rfl⟩
  have B0 : Box V w.heap.size #[.pointer none, .pointer none, .pointer none, .pointer none] 113 := by rw [hV]; exact Box.new rfl
  have L0 : Below w.heap.size w V := by rw [hV]; exact Below_alloc1 _
  rw [← hV]
  clear hV
  obtain ⟨g, hg⟩ : ∃ g, Hid (w.heap.size = g) := ⟨_, rfl⟩
  rw [hg.out] at B0 ⊢
  have BD := B0.drew
  have y0 : V.drew.cell? ⟨g, 0, none⟩ = some (.pointer none) := BD.cell 0
  have y1 : V.drew.cell? ⟨g, 1, none⟩ = some (.pointer none) := BD.cell 1
  have y2 : V.drew.cell? ⟨g, 2, none⟩ = some (.pointer none) := BD.cell 2
  have y3 : V.drew.cell? ⟨g, 3, none⟩ = some (.pointer none) := BD.cell 3
  have f0 := BD.free 0
  have f1 := BD.free 1
  have f2 := BD.free 2
  have f3 := BD.free 3
  obtain ⟨p0, hp0⟩ : ∃ p, Hid (Value.pointer (some ⟨h, off, none⟩) = p) := ⟨_, rfl⟩
  have HL := Lib.hid (((((L0.drew).setCell (p := ⟨g, 0, none⟩) (Nat.le_of_eq hg.out) (.pointer (some ⟨h, off, none⟩))).setCell (p := ⟨g, 1, none⟩) (Nat.le_of_eq hg.out) (.pointer (some ⟨h, off + 1, none⟩))).setCell (p := ⟨g, 2, none⟩) (Nat.le_of_eq hg.out) (.pointer (some ⟨h, off + 2, none⟩))).setCell (p := ⟨g, 3, none⟩) (Nat.le_of_eq hg.out) (.pointer (some ⟨h, off + 3, none⟩)))
  have HB := Lib.hid ((((BD.set 0 (.pointer (some ⟨h, off, none⟩))).set 1 (.pointer (some ⟨h, off + 1, none⟩))).set 2 (.pointer (some ⟨h, off + 2, none⟩))).set 3 (.pointer (some ⟨h, off + 3, none⟩)))
  clear B0 BD L0
  go_still_tail 13, (by kernel_rfl)
  change wpList _ _ _ _ _ V.drew
  obtain ⟨U, hU⟩ : ∃ U, U = V.drew := ⟨_, rfl⟩
  rw [← hU] at y0 y1 y2 y3 f0 f1 f2 f3 HL HB ⊢
  clear hU
  go_wp2_with fail
  generalize (((U.setCell ⟨g, 0, none⟩ (.pointer (some ⟨h, off, none⟩))).setCell ⟨g, 1, none⟩ (.pointer (some ⟨h, off + 1, none⟩))).setCell ⟨g, 2, none⟩ (.pointer (some ⟨h, off + 2, none⟩))).setCell ⟨g, 3, none⟩ (.pointer (some ⟨h, off + 3, none⟩)) = W at *
  have q0 : W.cell? ⟨g, 0, none⟩ = some (.pointer (some ⟨h, off, none⟩)) := HB.out.cell 0
  have q1 : W.cell? ⟨g, 1, none⟩ = some (.pointer (some ⟨h, off + 1, none⟩)) := HB.out.cell 1
  have q2 : W.cell? ⟨g, 2, none⟩ = some (.pointer (some ⟨h, off + 2, none⟩)) := HB.out.cell 2
  have q3 : W.cell? ⟨g, 3, none⟩ = some (.pointer (some ⟨h, off + 3, none⟩)) := HB.out.cell 3
  clear y0 y1 y2 y3 f0 f1 f2 f3
  refine bodyPost_ret (by simp [results, Try.results44, go_sem, q0, q1, q2, q3]) rfl ⟨rfl, ?_⟩
  exact HL.out
end Go.Proofs.Yteidmdakglkkfaa
