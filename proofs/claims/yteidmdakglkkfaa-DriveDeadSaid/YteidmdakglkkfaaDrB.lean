/- slices.Backward over what waits: its contract, inside a fence. -/
import Derived.RangeFuncNested
import Derived.RangeFuncBound
import Derived.RangeFuncCalls
import Derived.RangeFuncLeaves
import Derived.Shelf.Abstract
import Derived.Shelf.RegionOpen
import Derived.OwnWalkIn
import Derived.TacticsInMore
import Derived.LoopNIn
import Derived.LoopIn
import Derived.Test.YteidmdakglkkfaaDrK
namespace Go.Proofs.Yteidmdakglkkfaa
open Go.RowKit Go.Shelf
set_option linter.unusedVariables false
set_option maxRecDepth 100000

attribute [local go_sem] Oper.semAt_some

/-- What the iterator hands on: a place, and the two cells of a wait. -/
abbrev PV (zs : List (Int × Value)) := {j : Nat // j < zs.length}
def pvs (zs : List (Int × Value)) (x : PV zs) : Array Value := #[.int .i64 (x.1 : Int), .agg #[.int .i64 (zs.getD x.1 (0, undef)).1, (zs.getD x.1 (0, undef)).2]]
def backTo (zs : List (Int × Value)) : Nat → List (PV zs)
  | 0 => []
  | k + 1 => if h : k < zs.length then backTo zs k ++ [⟨zs.length - 1 - k, by omega⟩] else backTo zs k
theorem backTo_succ (zs : List (Int × Value)) (k : Nat) (h : k < zs.length) : backTo zs (k + 1) = backTo zs k ++ [⟨zs.length - 1 - k, by omega⟩] := by
  show (if h : k < zs.length then _ else _) = _
  rw [dif_pos h]
theorem backTo_length (zs : List (Int × Value)) : ∀ k, k ≤ zs.length → (backTo zs k).length = k
  | 0, _ => rfl
  | k + 1, h => by rw [backTo_succ zs k (by omega), List.length_append, backTo_length zs k (by omega)]; rfl
set_option maxHeartbeats 2000000 in
theorem back1_in (F : Fence) (n : Nat) (hf : F.fn 68) (hro : F.round = none) (hn : 1 ≤ n) (l Bs n₀ b cap : Nat) (zs : List (Int × Value)) (hreach : zs.length ≤ 9223372036854775807) (hcap : zs.length ≤ cap ∧ cap ≤ maxLen) (hb : b < n₀) (hBs0 : Bs < n₀) (J Jx : List (PV zs) → World → Prop)
    (hY : ∀ pre x W, J pre W → pre.length < zs.length → YieldAt F (n - 1) Try.prog l (pvs zs x) W fun e W' =>
      (e = .returned (.bool true) ∧ J (pre ++ [x]) W' ∧ Below n₀ W W') ∨ (e = .returned (.bool false) ∧ Jx (pre ++ [x]) W'))
    (W : World) (hBs : W.cell? ⟨Bs, 0, none⟩ = some (.slice (some ⟨b, 0, none⟩) zs.length cap)) (hc : ∀ j, j < zs.length → W.cell? ⟨b, j * 2, none⟩ = some (.int .i64 (zs.getD j (0, undef)).1) ∧ W.cell? ⟨b, j * 2 + 1, none⟩ = some (zs.getD j (0, undef)).2) (h0 : J [] W) :
    CallsIn F n Try.prog 68 #[.func (.yield l) #[] #[], .pointer (some ⟨Bs, 0, none⟩)] W fun e W' => (∃ v, e = .returned v) ∧
      ((∃ ys, ys = backTo zs zs.length ∧ J ys W') ∨ (∃ pre, (∃ k, k ≤ zs.length ∧ pre = backTo zs k) ∧ Jx pre W')) := by
  obtain ⟨hc1, hc2⟩ := hcap
  unfold maxLen at hc2
  obtain ⟨len, hlen⟩ : ∃ len, zs.length = len := ⟨_, rfl⟩
  refine callsIn_of_wp Try.func68 rfl hf ?_ hro
  simp only [Try.ntmps68, List.size_toArray, List.length_cons, List.length_nil, Nat.reduceAdd, Nat.reduceSub, Array.replicate_succ, Array.replicate_zero, List.push_toArray, List.append_toArray, List.nil_append, List.cons_append]
  rw [hlen] at hBs hY hc hreach hc1 ⊢
  have w1 : IntKind.i64.wrap ((len : Int) - 1) = (len : Int) - 1 := IntWalk.i64_in _ (by omega)
  gi_wp2
  gi_loopw [3] (fun i wr => ∃ r : Nat, r ≤ len ∧ i = .int .i64 ((r : Int) - 1) ∧ J (backTo zs (len - r)) wr ∧ Below n₀ W wr)
    (fun i _ => (intOf i + 1).toNat)
  case atStart => exact ⟨len, Nat.le_refl _, rfl, by rw [Nat.sub_self]; exact h0, Below.refl _ _⟩
  case round =>
    obtain ⟨r, hr, rfl, hJs, hnx⟩ := hrel
    cases r with
    | zero =>
      rw [show (((0 : Nat) : Int) - 1) = -1 from rfl]
      gi_wp2
      go_end0
      exact ⟨⟨_, rfl⟩, .inl ⟨_, rfl, by rw [Nat.sub_zero] at hJs; exact hJs⟩⟩
    | succ r =>
      rw [show (((r + 1 : Nat) : Int) - 1) = (r : Int) by omega]
      obtain ⟨zx, hzx⟩ : ∃ z, zs.getD r (0, undef) = z := ⟨_, rfl⟩
      obtain ⟨hca, hcb⟩ := hc r (by omega)
      rw [hzx] at hca hcb
      have ca : wr.cell? ⟨b, r * 2, none⟩ = some (.int .i64 zx.1) := (hnx.cell (p := ⟨b, r * 2, none⟩) hb).trans hca
      have cb : wr.cell? ⟨b, r * 2 + 1, none⟩ = some zx.2 := (hnx.cell (p := ⟨b, r * 2 + 1, none⟩) hb).trans hcb
      have cs : wr.cell? ⟨Bs, 0, none⟩ = some (.slice (some ⟨b, 0, none⟩) len cap) := (hnx.cell (p := ⟨Bs, 0, none⟩) hBs0).trans hBs
      obtain ⟨fn, tmps, assign, body, hy, hR⟩ := hY _ ⟨r, by omega⟩ wr hJs (by rw [backTo_length zs _ (by omega)]; omega)
      have i1 : (r : Int) < (len : Int) := by omega
      have hnext : backTo zs (len - r) = backTo zs (len - (r + 1)) ++ [⟨r, by omega⟩] := by
        rw [show len - r = (len - (r + 1)) + 1 by omega, backTo_succ zs _ (by omega)]
        congr 2
        apply Subtype.ext
        show zs.length - 1 - (len - (r + 1)) = r
        omega
      have w2 : IntKind.i64.wrap ((r : Int) - 1) = (r : Int) - 1 := IntWalk.i64_in _ (by omega)
      dsimp only [pvs] at hy
      rw [hzx] at hy
      gi_wp2
      refine hR.mono ?_
      rintro e W3 (⟨rfl, hJ3, hk3⟩ | ⟨rfl, hJx3⟩)
      · gi_wp2
        go_roundw
        case rel => exact ⟨r, by omega, rfl, by rw [hnext]; exact hJ3, hnx.trans hk3⟩
        case measure => simp [intOf] <;> omega
      · gi_wp2
        refine bodyPost_ret (results_none rfl _ _ _) rfl ?_
        exact ⟨⟨_, rfl⟩, .inr ⟨_, ⟨len - r, by omega, hnext.symm⟩, hJx3⟩⟩
set_option maxHeartbeats 1000000 in
/-- .. at the nil slice: no round. -/
theorem back1_nil_in (F : Fence) (n : Nat) (hf : F.fn 68) (hro : F.round = none) (l Bs : Nat) (zs : List (Int × Value)) (J : List (PV zs) → World → Prop) (W : World) (a : Option Addr) (cap : Nat) (hBs : W.cell? ⟨Bs, 0, none⟩ = some (.slice a 0 cap)) (h0 : J [] W) :
    CallsIn F n Try.prog 68 #[.func (.yield l) #[] #[], .pointer (some ⟨Bs, 0, none⟩)] W fun e W' => (∃ v, e = .returned v) ∧ J [] W' := by
  refine callsIn_of_wp Try.func68 rfl hf ?_ hro
  simp only [Try.ntmps68, List.size_toArray, List.length_cons, List.length_nil, Nat.reduceAdd, Nat.reduceSub, Array.replicate_succ, Array.replicate_zero, List.push_toArray, List.append_toArray, List.nil_append, List.cons_append]
  gi_wp2
  gi_loopw [3] (fun i wr => i = .int .i64 (-1) ∧ J [] wr) (fun _ _ => 0)
  case atStart => exact ⟨rfl, h0⟩
  case round =>
    obtain ⟨rfl, hJs⟩ := hrel
    gi_wp2
    go_end0
    exact ⟨⟨_, rfl⟩, hJs⟩
theorem back_in (F : Fence) (n : Nat) (hf : F.fn 67) (hro : F.round = none) (a : Option Addr) (len cap : Nat) (w : World) :
    CallsIn F n Try.prog 67 #[.slice a len cap] w fun e w' => e = .returned (.func (.func 68) #[] #[.pointer (some ⟨w.heap.size, 0, none⟩)]) ∧ w' = w.alloc (.cells #[.slice a len cap] 134) := by
  refine callsIn_of_wp Try.func67 rfl hf ?_ hro
  simp only [Try.ntmps67, List.size_toArray, List.length_cons, List.length_nil, Nat.reduceAdd, Nat.reduceSub, Array.replicate_succ, Array.replicate_zero, List.push_toArray, List.append_toArray, List.nil_append, List.cons_append]
  gi_wp2
  go_ret
  exact ⟨rfl, rfl⟩
/-- What waits lies in memory as these pairs of cells. -/
def Pairs (n₀ : Nat) (w : World) (a : Option Addr) (cap : Nat) (zs : List (Int × Value)) : Prop :=
  zs = [] ∨ ∃ b, a = some ⟨b, 0, none⟩ ∧ b < n₀ ∧ (zs.length ≤ cap ∧ cap ≤ maxLen) ∧ zs.length ≤ 9223372036854775807 ∧ ∀ j, j < zs.length → w.cell? ⟨b, j * 2, none⟩ = some (.int .i64 (zs.getD j (0, undef)).1) ∧ w.cell? ⟨b, j * 2 + 1, none⟩ = some (zs.getD j (0, undef)).2
theorem Pairs.below {n₀ : Nat} {w w' : World} {a : Option Addr} {cap : Nat} {zs : List (Int × Value)} (h : Pairs n₀ w a cap zs) (hb : Below n₀ w w') : Pairs n₀ w' a cap zs := by
  rcases h with h | ⟨b, h1, h2, h3, h4, h5⟩
  · exact .inl h
  · exact .inr ⟨b, h1, h2, h3, h4, fun j hj => ⟨(hb.cell (p := ⟨b, j * 2, none⟩) h2).trans (h5 j hj).1, (hb.cell (p := ⟨b, j * 2 + 1, none⟩) h2).trans (h5 j hj).2⟩⟩
theorem back_stops (F : Fence) (n : Nat) (hf : F.fn 68) (hro : F.round = none) (hn : 1 ≤ n) (Bs n₀ : Nat) (a : Option Addr) (cap : Nat) (zs : List (Int × Value)) (w : World) (hBs : Bs < n₀) (hn₀ : n₀ ≤ w.heap.size)
    (hc : w.cell? ⟨Bs, 0, none⟩ = some (.slice a zs.length cap)) (hI : Pairs n₀ w a cap zs) :
    SeqStopsK F n Try.prog 68 #[.pointer (some ⟨Bs, 0, none⟩)] (pvs zs) (Below n₀) (fun ys => ys = backTo zs zs.length) (fun pre => ∃ k, k ≤ zs.length ∧ pre = backTo zs k) zs.length w := fun l J Jx W hW _ _ hY h0 => by
  have hc' := (hW.cell (p := ⟨Bs, 0, none⟩) (Nat.lt_of_lt_of_le hBs hn₀)).trans hc
  rcases hI.below (hW.mono hn₀) with rfl | ⟨b, rfl, hb, h3, h4, h5⟩
  · exact (back1_nil_in F n hf hro l Bs _ J W a cap hc' h0).mono fun e W' ⟨he, hj⟩ => ⟨he, .inl ⟨_, rfl, hj⟩⟩
  · exact back1_in F n hf hro hn l Bs n₀ b cap zs h4 h3 hb hBs J Jx hY W hc' h5 h0
end Go.Proofs.Yteidmdakglkkfaa
