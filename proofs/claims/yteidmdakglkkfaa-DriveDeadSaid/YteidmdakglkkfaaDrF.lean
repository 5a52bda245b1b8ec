/- The drive: fault, New. -/
import Derived.Test.YteidmdakglkkfaaDrS
import Derived.Test.YteidmdakglkkfaaOwnMake
import Derived.BigQuiet
namespace Go.Proofs.Yteidmdakglkkfaa
open Go.RowKit
set_option linter.unusedVariables false
set_option maxRecDepth 100000

/-- What is refused: all jobs of a dead drive but that of kind 8. -/
def faultOf (dead : Bool) (kind : Int) : Int := if dead = true ∧ kind ≠ 8 then 13 else 0
set_option maxHeartbeats 4000000 in
theorem faultD (hd gp cp : Nat) (aw : Option Addr) (lw cw : Nat) (dead : Bool) (w : World) (kind at_ keep : Int) (a : Option Addr) (l c : Nat) (hb : Box w hd #[.slice (some ⟨gp, 0, none⟩) 8 cp, .slice aw lw cw, .bool dead] 136)
    (hk : 1 ≤ kind ∧ kind ≤ 8) (ha : 0 ≤ at_ ∧ at_ < 8) (hl : kind = 1 ∨ kind = 6 → l = 128) :
    Calls Try.prog 57 #[.pointer (some ⟨hd, 0, none⟩), .agg #[.int .i64 kind, .int .i64 at_, .int .i64 keep, .slice a l c]] w fun e w' => e = .returned (.int .i64 (faultOf dead kind)) ∧ Below w.heap.size w w' := by
  obtain ⟨ha1, ha2⟩ := ha
  have LB : Hid (Below w.heap.size w (w.alloc (.cells #[.int .i64 kind, .int .i64 at_, .int .i64 keep, .slice a l c] 78))) := Below_alloc1 _
  have q2 : w.cell? ⟨hd, 2, none⟩ = some (.bool dead) := hb.cell 2
  have q0 : w.cell? ⟨hd, 0, none⟩ = some (.slice (some ⟨gp, 0, none⟩) 8 cp) := hb.cell 0
  have hlt := hb.lt
  have a1 : decide (at_ < 0) = false := decide_eq_false (by omega)
  have a2 : decide ((8 : Int) ≤ at_) = false := decide_eq_false (by omega)
  clear hb
  cases dead with
  | true =>
    by_cases h8 : kind = 8
    · subst h8
      go_enter Try.func57, Try.ntmps57
      go_wp2_with fail
      go_ret
      exact ⟨rfl, LB.out⟩
    · have e8 : (kind != 8) = true := by simp [h8]
      have hf : faultOf true kind = 13 := by unfold faultOf; rw [if_pos ⟨rfl, h8⟩]
      rw [hf]
      have k1 : decide (kind < 1) = false := decide_eq_false (by omega)
      have k2 : decide ((8 : Int) < kind) = false := decide_eq_false (by omega)
      go_enter Try.func57, Try.ntmps57
      go_wp2_with fail
      go_ret
      exact ⟨rfl, LB.out⟩
  | false =>
    have hf : faultOf false kind = 0 := by unfold faultOf; rw [if_neg (fun h => by cases h.1)]
    rw [hf]
    have hc : kind = 1 ∨ kind = 2 ∨ kind = 3 ∨ kind = 4 ∨ kind = 5 ∨ kind = 6 ∨ kind = 7 ∨ kind = 8 := by omega
    clear hf
    rcases hc with rfl | rfl | rfl | rfl | rfl | rfl | rfl | rfl
    · obtain rfl := hl (.inl rfl)
      go_enter Try.func57, Try.ntmps57
      go_wp2
      go_quiet (fail)
      go_wp2
      go_ret
      exact ⟨rfl, below_drewN LB.out nq⟩
    · clear hl
      go_enter Try.func57, Try.ntmps57
      go_wp2
      go_quiet (fail)
      go_wp2
      go_ret
      exact ⟨rfl, below_drewN LB.out nq⟩
    · clear hl
      go_enter Try.func57, Try.ntmps57
      go_wp2_with fail
      go_ret
      exact ⟨rfl, LB.out⟩
    · clear hl
      go_enter Try.func57, Try.ntmps57
      go_wp2_with fail
      go_ret
      exact ⟨rfl, LB.out⟩
    · clear hl
      go_enter Try.func57, Try.ntmps57
      go_wp2
      go_quiet (fail)
      go_wp2
      go_ret
      exact ⟨rfl, below_drewN LB.out nq⟩
    · obtain rfl := hl (.inr rfl)
      go_enter Try.func57, Try.ntmps57
      go_wp2
      go_quiet (fail)
      go_wp2
      go_ret
      exact ⟨rfl, below_drewN LB.out nq⟩
    · clear hl
      go_enter Try.func57, Try.ntmps57
      go_wp2_with fail
      go_ret
      exact ⟨rfl, LB.out⟩
    · clear hl
      go_enter Try.func57, Try.ntmps57
      go_wp2_with fail
      go_ret
      exact ⟨rfl, LB.out⟩
theorem info_sector : (Try.prog.info? 144).map (fun i => (i.zero, i.size, i.bytes)) = some (some (.agg #[.slice none 0 0, .bool false]), 2, 32) := by kernel_rfl
set_option maxHeartbeats 2000000 in
theorem newD (w : World) : Calls Try.prog 49 #[.int .i64 8] w fun e w' => ∃ hd, e = .returned (.pointer (some ⟨hd, 0, none⟩)) ∧ Dr w' w.heap.size hd DS.new ∧ Below w.heap.size w w' := by
  obtain ⟨i, hi0, hz, hsize, hby⟩ := info_parts info_sector
  go_enter Try.func49, Try.ntmps49
  go_wp2_with (refine wpList_make_full w rfl _ _ 133 rfl w.heap.size 144 i _ 2 Try.underlying133 hi0 hz hsize _ _ _ _ 8 rfl rfl rfl rfl (by rw [hby]; decide) (by unfold maxLen; decide) (Nat.le_refl _) ?_)
  intro w1 hown hg
  have hL : (madeCells #[Value.slice none 0 0, Value.bool false] 16).toList = (List.replicate 8 [Value.slice none 0 0, Value.bool false]).flatten := by kernel_rfl
  have hown2 : Own w1 w.heap.size 144 2 (some ⟨w.heap.size, 0, none⟩) 8 8 ((List.replicate 8 [Value.slice none 0 0, Value.bool false]).flatten) := by rw [← hL]; exact hown
  have hSO : SOwn secL w1 w.heap.size 144 (Kind w1 5) (some ⟨w.heap.size, 0, none⟩) 8 8 (List.replicate 8 ⟨none, false⟩) := by
    refine ⟨by simp, List.replicate 8 [Value.slice none 0 0, Value.bool false], fun _ => False, hown2, ⟨by simp, fun i x vs hx hv => ?_⟩, fun b hb => hb.elim⟩
    rw [List.getElem?_replicate] at hx hv
    split at hx
    · rw [if_pos (by assumption)] at hv
      injection hx with hx
      injection hv with hv
      subst hx hv
      exact ⟨none, 0, 0, rfl, .inl ⟨rfl, rfl, rfl, rfl⟩⟩
    · cases hx
  have LB1 : Hid (Below w.heap.size w w1) := (Below.refl _ _).grown hg (Nat.le_refl _) (fun k hk => by cases hk)
  have HS := Lib.hid hSO
  have hs1 := LB1.out.size
  clear hown hown2 hSO hg hL hi0 hz hsize hby
  go_wp2_with fail
  go_ret
  have XB : Box (w1.alloc (.cells #[.slice (some ⟨w.heap.size, 0, none⟩) 8 8, .slice none 0 0, .bool false] 136)) w1.heap.size #[.slice (some ⟨w.heap.size, 0, none⟩) 8 8, .slice none 0 0, .bool false] 136 := Box.new rfl
  exact ⟨w1.heap.size, rfl, ⟨w.heap.size, 8, none, 0, 0, hs1, XB, HS.out.keeps (Keeps.below [5, 144] (Below_alloc1 _)) (by simp) (by simp), SOwn.nil .., fun x hx => by cases hx⟩, stepB0 LB1.out (Nat.le_refl _) (Below_alloc1 _)⟩
end Go.Proofs.Yteidmdakglkkfaa
