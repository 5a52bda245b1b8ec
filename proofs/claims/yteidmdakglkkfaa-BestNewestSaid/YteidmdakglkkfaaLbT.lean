/- The walk of package label: small. -/
import Derived.Test.YteidmdakglkkfaaLbS
namespace Go.Proofs.Yteidmdakglkkfaa
open Go.RowKit
set_option linter.unusedVariables false
set_option maxRecDepth 100000

set_option maxHeartbeats 2000000 in
theorem small (h : Nat) (w : World) :
    Calls Try.prog 42 #[.pointer (some ⟨h, 0, none⟩)] w fun e w' => e = .returned (.agg #[.pointer (some ⟨h, 0, none⟩), .pointer (some ⟨h, 1, none⟩), .pointer (some ⟨h, 2, none⟩), .pointer (some ⟨h, 3, none⟩), .pointer (some ⟨h, 4, none⟩), .pointer (some ⟨h, 5, none⟩), .pointer (some ⟨h, 6, none⟩), .pointer (some ⟨h, 7, none⟩), .pointer (some ⟨h, 8, none⟩)]) ∧ Below w.heap.size w w' := by
  go_enter Try.func42, Try.ntmps42
  go_wp2_with fail
  obtain ⟨V, hV⟩ : ∃ V, V = w.alloc (.cells #[Value.pointer none, Value.pointer none, Value.pointer none, Value.pointer none, Value.pointer none, Value.pointer none, Value.pointer none, Value.pointer none, Value.pointer none] 109) := ⟨_, rfl⟩
  have B0 : Box V w.heap.size #[Value.pointer none, Value.pointer none, Value.pointer none, Value.pointer none, Value.pointer none, Value.pointer none, Value.pointer none, Value.pointer none, Value.pointer none] 109 := by rw [hV]; exact Box.new rfl
  have L0 : Below w.heap.size w V := by rw [hV]; exact Below_alloc1 _
  rw [← hV]
  clear hV
  obtain ⟨g, hg⟩ : ∃ g, Hid (w.heap.size = g) := ⟨_, rfl⟩
  rw [hg.out] at B0 ⊢
  have BD := B0.drew
  have y0 : V.drew.cell? ⟨g, 0, none⟩ = some (.pointer none) := BD.cell 0
  have f0 := BD.free 0
  have y1 : V.drew.cell? ⟨g, 1, none⟩ = some (.pointer none) := BD.cell 1
  have f1 := BD.free 1
  have y2 : V.drew.cell? ⟨g, 2, none⟩ = some (.pointer none) := BD.cell 2
  have f2 := BD.free 2
  have y3 : V.drew.cell? ⟨g, 3, none⟩ = some (.pointer none) := BD.cell 3
  have f3 := BD.free 3
  have y4 : V.drew.cell? ⟨g, 4, none⟩ = some (.pointer none) := BD.cell 4
  have f4 := BD.free 4
  have y5 : V.drew.cell? ⟨g, 5, none⟩ = some (.pointer none) := BD.cell 5
  have f5 := BD.free 5
  have y6 : V.drew.cell? ⟨g, 6, none⟩ = some (.pointer none) := BD.cell 6
  have f6 := BD.free 6
  have y7 : V.drew.cell? ⟨g, 7, none⟩ = some (.pointer none) := BD.cell 7
  have f7 := BD.free 7
  have y8 : V.drew.cell? ⟨g, 8, none⟩ = some (.pointer none) := BD.cell 8
  have f8 := BD.free 8
  have B1 : Box (V.drew.setCell ⟨g, 0, none⟩ (.pointer (some ⟨h, 0, none⟩))) g #[.pointer (some ⟨h, 0, none⟩), .pointer none, .pointer none, .pointer none, .pointer none, .pointer none, .pointer none, .pointer none, .pointer none] 109 := BD.set 0 (.pointer (some ⟨h, 0, none⟩))
  have B2 : Box ((V.drew.setCell ⟨g, 0, none⟩ (.pointer (some ⟨h, 0, none⟩))).setCell ⟨g, 1, none⟩ (.pointer (some ⟨h, 1, none⟩))) g #[.pointer (some ⟨h, 0, none⟩), .pointer (some ⟨h, 1, none⟩), .pointer none, .pointer none, .pointer none, .pointer none, .pointer none, .pointer none, .pointer none] 109 := B1.set 1 (.pointer (some ⟨h, 1, none⟩))
  have B3 : Box (((V.drew.setCell ⟨g, 0, none⟩ (.pointer (some ⟨h, 0, none⟩))).setCell ⟨g, 1, none⟩ (.pointer (some ⟨h, 1, none⟩))).setCell ⟨g, 2, none⟩ (.pointer (some ⟨h, 2, none⟩))) g #[.pointer (some ⟨h, 0, none⟩), .pointer (some ⟨h, 1, none⟩), .pointer (some ⟨h, 2, none⟩), .pointer none, .pointer none, .pointer none, .pointer none, .pointer none, .pointer none] 109 := B2.set 2 (.pointer (some ⟨h, 2, none⟩))
  have B4 : Box ((((V.drew.setCell ⟨g, 0, none⟩ (.pointer (some ⟨h, 0, none⟩))).setCell ⟨g, 1, none⟩ (.pointer (some ⟨h, 1, none⟩))).setCell ⟨g, 2, none⟩ (.pointer (some ⟨h, 2, none⟩))).setCell ⟨g, 3, none⟩ (.pointer (some ⟨h, 3, none⟩))) g #[.pointer (some ⟨h, 0, none⟩), .pointer (some ⟨h, 1, none⟩), .pointer (some ⟨h, 2, none⟩), .pointer (some ⟨h, 3, none⟩), .pointer none, .pointer none, .pointer none, .pointer none, .pointer none] 109 := B3.set 3 (.pointer (some ⟨h, 3, none⟩))
  have B5 : Box (((((V.drew.setCell ⟨g, 0, none⟩ (.pointer (some ⟨h, 0, none⟩))).setCell ⟨g, 1, none⟩ (.pointer (some ⟨h, 1, none⟩))).setCell ⟨g, 2, none⟩ (.pointer (some ⟨h, 2, none⟩))).setCell ⟨g, 3, none⟩ (.pointer (some ⟨h, 3, none⟩))).setCell ⟨g, 4, none⟩ (.pointer (some ⟨h, 4, none⟩))) g #[.pointer (some ⟨h, 0, none⟩), .pointer (some ⟨h, 1, none⟩), .pointer (some ⟨h, 2, none⟩), .pointer (some ⟨h, 3, none⟩), .pointer (some ⟨h, 4, none⟩), .pointer none, .pointer none, .pointer none, .pointer none] 109 := B4.set 4 (.pointer (some ⟨h, 4, none⟩))
  have B6 : Box ((((((V.drew.setCell ⟨g, 0, none⟩ (.pointer (some ⟨h, 0, none⟩))).setCell ⟨g, 1, none⟩ (.pointer (some ⟨h, 1, none⟩))).setCell ⟨g, 2, none⟩ (.pointer (some ⟨h, 2, none⟩))).setCell ⟨g, 3, none⟩ (.pointer (some ⟨h, 3, none⟩))).setCell ⟨g, 4, none⟩ (.pointer (some ⟨h, 4, none⟩))).setCell ⟨g, 5, none⟩ (.pointer (some ⟨h, 5, none⟩))) g #[.pointer (some ⟨h, 0, none⟩), .pointer (some ⟨h, 1, none⟩), .pointer (some ⟨h, 2, none⟩), .pointer (some ⟨h, 3, none⟩), .pointer (some ⟨h, 4, none⟩), .pointer (some ⟨h, 5, none⟩), .pointer none, .pointer none, .pointer none] 109 := B5.set 5 (.pointer (some ⟨h, 5, none⟩))
  have B7 : Box (((((((V.drew.setCell ⟨g, 0, none⟩ (.pointer (some ⟨h, 0, none⟩))).setCell ⟨g, 1, none⟩ (.pointer (some ⟨h, 1, none⟩))).setCell ⟨g, 2, none⟩ (.pointer (some ⟨h, 2, none⟩))).setCell ⟨g, 3, none⟩ (.pointer (some ⟨h, 3, none⟩))).setCell ⟨g, 4, none⟩ (.pointer (some ⟨h, 4, none⟩))).setCell ⟨g, 5, none⟩ (.pointer (some ⟨h, 5, none⟩))).setCell ⟨g, 6, none⟩ (.pointer (some ⟨h, 6, none⟩))) g #[.pointer (some ⟨h, 0, none⟩), .pointer (some ⟨h, 1, none⟩), .pointer (some ⟨h, 2, none⟩), .pointer (some ⟨h, 3, none⟩), .pointer (some ⟨h, 4, none⟩), .pointer (some ⟨h, 5, none⟩), .pointer (some ⟨h, 6, none⟩), .pointer none, .pointer none] 109 := B6.set 6 (.pointer (some ⟨h, 6, none⟩))
  have B8 : Box ((((((((V.drew.setCell ⟨g, 0, none⟩ (.pointer (some ⟨h, 0, none⟩))).setCell ⟨g, 1, none⟩ (.pointer (some ⟨h, 1, none⟩))).setCell ⟨g, 2, none⟩ (.pointer (some ⟨h, 2, none⟩))).setCell ⟨g, 3, none⟩ (.pointer (some ⟨h, 3, none⟩))).setCell ⟨g, 4, none⟩ (.pointer (some ⟨h, 4, none⟩))).setCell ⟨g, 5, none⟩ (.pointer (some ⟨h, 5, none⟩))).setCell ⟨g, 6, none⟩ (.pointer (some ⟨h, 6, none⟩))).setCell ⟨g, 7, none⟩ (.pointer (some ⟨h, 7, none⟩))) g #[.pointer (some ⟨h, 0, none⟩), .pointer (some ⟨h, 1, none⟩), .pointer (some ⟨h, 2, none⟩), .pointer (some ⟨h, 3, none⟩), .pointer (some ⟨h, 4, none⟩), .pointer (some ⟨h, 5, none⟩), .pointer (some ⟨h, 6, none⟩), .pointer (some ⟨h, 7, none⟩), .pointer none] 109 := B7.set 7 (.pointer (some ⟨h, 7, none⟩))
  have B9 : Box (((((((((V.drew.setCell ⟨g, 0, none⟩ (.pointer (some ⟨h, 0, none⟩))).setCell ⟨g, 1, none⟩ (.pointer (some ⟨h, 1, none⟩))).setCell ⟨g, 2, none⟩ (.pointer (some ⟨h, 2, none⟩))).setCell ⟨g, 3, none⟩ (.pointer (some ⟨h, 3, none⟩))).setCell ⟨g, 4, none⟩ (.pointer (some ⟨h, 4, none⟩))).setCell ⟨g, 5, none⟩ (.pointer (some ⟨h, 5, none⟩))).setCell ⟨g, 6, none⟩ (.pointer (some ⟨h, 6, none⟩))).setCell ⟨g, 7, none⟩ (.pointer (some ⟨h, 7, none⟩))).setCell ⟨g, 8, none⟩ (.pointer (some ⟨h, 8, none⟩))) g #[.pointer (some ⟨h, 0, none⟩), .pointer (some ⟨h, 1, none⟩), .pointer (some ⟨h, 2, none⟩), .pointer (some ⟨h, 3, none⟩), .pointer (some ⟨h, 4, none⟩), .pointer (some ⟨h, 5, none⟩), .pointer (some ⟨h, 6, none⟩), .pointer (some ⟨h, 7, none⟩), .pointer (some ⟨h, 8, none⟩)] 109 := B8.set 8 (.pointer (some ⟨h, 8, none⟩))
  have HL := Lib.hid ((((((((((((((((((L0.drew).setCell (p := ⟨g, 0, none⟩) (Nat.le_of_eq hg.out) (.pointer (some ⟨h, 0, none⟩)))).setCell (p := ⟨g, 1, none⟩) (Nat.le_of_eq hg.out) (.pointer (some ⟨h, 1, none⟩)))).setCell (p := ⟨g, 2, none⟩) (Nat.le_of_eq hg.out) (.pointer (some ⟨h, 2, none⟩)))).setCell (p := ⟨g, 3, none⟩) (Nat.le_of_eq hg.out) (.pointer (some ⟨h, 3, none⟩)))).setCell (p := ⟨g, 4, none⟩) (Nat.le_of_eq hg.out) (.pointer (some ⟨h, 4, none⟩)))).setCell (p := ⟨g, 5, none⟩) (Nat.le_of_eq hg.out) (.pointer (some ⟨h, 5, none⟩)))).setCell (p := ⟨g, 6, none⟩) (Nat.le_of_eq hg.out) (.pointer (some ⟨h, 6, none⟩)))).setCell (p := ⟨g, 7, none⟩) (Nat.le_of_eq hg.out) (.pointer (some ⟨h, 7, none⟩)))).setCell (p := ⟨g, 8, none⟩) (Nat.le_of_eq hg.out) (.pointer (some ⟨h, 8, none⟩)))
  have HB := Lib.hid B9
  clear B0 BD L0 B1 B2 B3 B4 B5 B6 B7 B8 B9
  go_still_tail 32, (by kernel_rfl)
  change wpList _ _ _ _ _ V.drew
  obtain ⟨U, hU⟩ : ∃ U, U = V.drew := ⟨_, rfl⟩
  rw [← hU] at y0 f0 y1 f1 y2 f2 y3 f3 y4 f4 y5 f5 y6 f6 y7 f7 y8 f8 HL HB ⊢
  clear hU
  go_wp2_with fail
  generalize (((((((((U.setCell ⟨g, 0, none⟩ (.pointer (some ⟨h, 0, none⟩))).setCell ⟨g, 1, none⟩ (.pointer (some ⟨h, 1, none⟩))).setCell ⟨g, 2, none⟩ (.pointer (some ⟨h, 2, none⟩))).setCell ⟨g, 3, none⟩ (.pointer (some ⟨h, 3, none⟩))).setCell ⟨g, 4, none⟩ (.pointer (some ⟨h, 4, none⟩))).setCell ⟨g, 5, none⟩ (.pointer (some ⟨h, 5, none⟩))).setCell ⟨g, 6, none⟩ (.pointer (some ⟨h, 6, none⟩))).setCell ⟨g, 7, none⟩ (.pointer (some ⟨h, 7, none⟩))).setCell ⟨g, 8, none⟩ (.pointer (some ⟨h, 8, none⟩))) = W at *
  have q0 : W.cell? ⟨g, 0, none⟩ = some (.pointer (some ⟨h, 0, none⟩)) := HB.out.cell 0
  have q1 : W.cell? ⟨g, 1, none⟩ = some (.pointer (some ⟨h, 1, none⟩)) := HB.out.cell 1
  have q2 : W.cell? ⟨g, 2, none⟩ = some (.pointer (some ⟨h, 2, none⟩)) := HB.out.cell 2
  have q3 : W.cell? ⟨g, 3, none⟩ = some (.pointer (some ⟨h, 3, none⟩)) := HB.out.cell 3
  have q4 : W.cell? ⟨g, 4, none⟩ = some (.pointer (some ⟨h, 4, none⟩)) := HB.out.cell 4
  have q5 : W.cell? ⟨g, 5, none⟩ = some (.pointer (some ⟨h, 5, none⟩)) := HB.out.cell 5
  have q6 : W.cell? ⟨g, 6, none⟩ = some (.pointer (some ⟨h, 6, none⟩)) := HB.out.cell 6
  have q7 : W.cell? ⟨g, 7, none⟩ = some (.pointer (some ⟨h, 7, none⟩)) := HB.out.cell 7
  have q8 : W.cell? ⟨g, 8, none⟩ = some (.pointer (some ⟨h, 8, none⟩)) := HB.out.cell 8
  clear y0 f0 y1 f1 y2 f2 y3 f3 y4 f4 y5 f5 y6 f6 y7 f7 y8 f8
  refine bodyPost_ret (by simp [results, Try.results42, go_sem, q0, q1, q2, q3, q4, q5, q6, q7, q8]) rfl ⟨rfl, ?_⟩
  exact HL.out
end Go.Proofs.Yteidmdakglkkfaa
