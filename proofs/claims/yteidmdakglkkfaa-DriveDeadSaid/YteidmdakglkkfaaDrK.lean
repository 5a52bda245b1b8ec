/- The drive laws' own functions: SectorOf, sameLists. -/
import Derived.Test.YteidmdakglkkfaaDrF
import Derived.Test.YteidmdakglkkfaaGen
import Derived.StillTailTactics
namespace Go.Proofs.Yteidmdakglkkfaa
open Go.RowKit
set_option linter.unusedVariables false
set_option maxRecDepth 100000

def secAt (n : Int) (i : Nat) : Int := (n / 2 ^ (8 * (i % 8))) % 256
theorem secAt_bd (n : Int) (i : Nat) : 0 ≤ secAt n i ∧ secAt n i ≤ 255 := by unfold secAt; omega
def secN (n : Int) (k : Nat) : List Int := (List.range 128).map fun i => if i < k then secAt n i else 0
def secB (n : Int) : List Int := secN n 128
theorem secN_length (n : Int) (k : Nat) : (secN n k).length = 128 := by simp [secN]
theorem secN_set (n : Int) (k : Nat) (hk : k < 128) : (secN n k).set k (secAt n k) = secN n (k + 1) := by
  apply List.ext_getElem (by simp [secN])
  intro i h1 h2
  have hi : i < 128 := by simpa [secN] using h2
  rw [List.getElem_set]
  by_cases e : k = i
  · subst e; simp [secN]
  · rw [if_neg e]
    simp only [secN, List.getElem_map, List.getElem_range]
    by_cases hik : i < k
    · rw [if_pos hik, if_pos (by omega)]
    · rw [if_neg hik, if_neg (by omega)]
theorem secN_bytes (n : Int) (k : Nat) : Bytes0 (secN n k) := by
  intro v hv
  simp only [secN, List.mem_map, List.mem_range] at hv
  obtain ⟨i, _, rfl⟩ := hv
  split
  · exact secAt_bd n i
  · omega
def SecPost (n : Int) (w : World) (e : Ending) (w' : World) : Prop := ∃ g, e = .returned (.slice (some ⟨g, 0, none⟩) 128 128) ∧ Hid (Own w' w.heap.size 5 1 (some ⟨g, 0, none⟩) 128 128 ((secB n).map (.int .u8))) ∧ Hid (Below w.heap.size w w')
set_option maxHeartbeats 2000000 in
theorem sectorOf (n : Int) (w : World) : Calls Try.prog 33 #[.int .i64 n] w (SecPost n w) := by
  obtain ⟨B, hB⟩ : ∃ B, Hid (w.heap.size = B) := ⟨_, rfl⟩
  go_enter Try.func33, Try.ntmps33
  go_wp2_with (refine wpList_make_zeros rfl _ _ 59 rfl 5 _ 1 Try.underlying59 info_byte0 rfl _ _ _ _ 128 rfl rfl rfl rfl (by omega) (by unfold maxLen; omega) ?_)
  intro w1 ho hle1
  rw [hB.out] at ho hle1 ⊢
  have O1 := Lib.hid ho
  have L1 := Lib.hid hle1
  clear ho hle1
  go_wp2_with fail
  go_loopw [4] (fun iv wr => ∃ k : Nat, k ≤ 128 ∧ iv = .int .i64 k ∧ Hid (Own wr B 5 1 (some ⟨B, 0, none⟩) 128 128 ((secN n k).map (.int .u8))) ∧ Hid (Below B w wr)) (fun iv _ => 128 - (intOf iv).toNat)
  case atStart => exact ⟨0, by omega, rfl, by rw [show (secN n 0).map (Value.int .u8) = List.replicate 128 (Value.int .u8 0) by apply List.ext_getElem (by simp [secN]); intro i h1 h2; simp only [secN, List.getElem_map, List.getElem_range, List.getElem_replicate]; rw [if_neg (by omega)]]; exact O1, L1⟩
  case round =>
    obtain ⟨k, hk, rfl, hO, hL⟩ := hrel
    by_cases hlt : k < 128
    · have e2 : wr.cell? ⟨B, k, none⟩ = some (.int .u8 0) := by
        rw [World.ownsRow.cellAt hO.out k (by omega)]
        simp [secN, hlt]
      have f2 : wr.frozen? ⟨B, k, none⟩ = false := World.ownsRow.frozenAt hO.out _
      have i1 : (k : Int) < 128 := by omega
      have hst := World.ownsRow.stored hO.out k (.int .u8 (secAt n k))
      rw [← List.map_set, secN_set n k hlt] at hst
      have HST := Lib.hid hst.1
      clear hst
      go_wp2_with fail
      go_roundw
      case rel => exact ⟨k + 1, by omega, by go_num, HST, hL.out.setCell (p := ⟨B, k, none⟩) (Nat.le_refl _) _⟩
      case measure => simp [intOf]; omega
    · obtain rfl : k = 128 := by omega
      go_wp2_with fail
      go_ret
      exact ⟨B, rfl, by rw [hB.out]; exact hO, by rw [hB.out]; exact hL⟩
set_option maxHeartbeats 2000000 in
theorem sameLists (a : Option Addr) (la ca : Nat) (X : List (List Int)) (b : Option Addr) (lb cb : Nat) (Y : List (List Int)) (w : World) {F G : Nat → Prop} (ha : SRow (Lay.int .u8).slice w F a la ca X) (hb : SRow (Lay.int .u8).slice w G b lb cb Y) :
    Calls Try.prog 32 #[.slice a la ca, .slice b lb cb] w fun e w' => e = .returned (.bool (decide (X = Y))) ∧ ∃ q, w' = w.drewN q := by
  have hma := ha.hmax
  have hmb := hb.hmax
  have hla := ha.hle
  have hlb := hb.hle
  unfold maxLen at hma hmb
  have hxl := ha.1
  have hyl := hb.1
  have HA := Lib.hid ha
  have HB := Lib.hid hb
  clear ha hb
  by_cases hne : la = lb
  · subst hne
    have hrr : ((la : Int) != (la : Int)) = false := by simp
    go_enter Try.func32, Try.ntmps32
    go_wp2_with fail
    go_loopw [5] (fun iv wr => ∃ (i q : Nat), i ≤ la ∧ iv = .int .i64 i ∧ Hid (∀ j, j < i → X.getD j [] = Y.getD j []) ∧ wr = w.drewN q) (fun iv _ => la - (intOf iv).toNat)
    case atStart => exact ⟨0, 0, by omega, rfl, fun j hj => absurd hj (by omega), rfl⟩
    case round =>
      obtain ⟨i, q, hi, rfl, hs, hq0⟩ := hrel
      have HQ : Hid (wr = w.drewN q) := hq0
      have HAr : Hid (SRow (Lay.int .u8).slice wr F a la ca X) := by rw [hq0]; exact HA.out.drewN q
      have HBr : Hid (SRow (Lay.int .u8).slice wr G b la cb Y) := by rw [hq0]; exact HB.out.drewN q
      clear hq0
      by_cases hlt : i < la
      · obtain ⟨b1, o1, a1, l1, c1, rfl, e1, r1⟩ := elem0 HAr.out i hlt
        obtain ⟨b2, o2, a2, l2, c2, rfl, e2, r2⟩ := elem0 HBr.out i hlt
        have R1 := Lib.hid r1
        have R2 := Lib.hid r2
        clear r1 r2
        go_wp2_with fail
        go_still_tail 8, (by kernel_rfl)
        change wpList _ _ _ _ _ wr.drew
        obtain ⟨W, hW⟩ : ∃ W, W = wr.drew := ⟨_, rfl⟩
        rw [← hW]
        have HWQ : Hid (W = w.drewN (q + 1)) := by show _ = _; rw [hW, HQ.out]; rfl
        have R1W : Hid (Row .u8 W a1 l1 c1 (X.getD i [])) := by rw [hW]; exact R1.out.below (below_drewN (Below.refl _ _) 1)
        have R2W : Hid (Row .u8 W a2 l2 c2 (Y.getD i [])) := by rw [hW]; exact R2.out.below (below_drewN (Below.refl _ _) 1)
        clear hW
        go_wp2_with fail
        refine (sameBytes a1 l1 c1 _ a2 l2 c2 _ W R1W.out R2W.out).mono ?_
        rintro e w2 ⟨rfl, kq, rfl⟩
        by_cases hd0 : X.getD i [] = Y.getD i []
        · have hd : decide (X.getD i [] = Y.getD i []) = true := decide_eq_true hd0
          have hs2 : Hid (∀ j, j < i + 1 → X.getD j [] = Y.getD j []) := fun j hj => by
            by_cases h : j < i
            · exact hs.out j h
            · obtain rfl : j = i := by omega
              exact hd0
          rw [hd]
          clear hd hd0 hs
          go_wp2_with fail
          go_roundw
          case rel => exact ⟨i + 1, (q + 1) + kq, by omega, by go_num, hs2, by rw [HWQ.out]; exact World.drewN_drewN _ _ _⟩
          case measure => simp [intOf]; omega
        · have hd : decide (X.getD i [] = Y.getD i []) = false := decide_eq_false hd0
          have hxy : decide (X = Y) = false := decide_eq_false (fun h => hd0 (by rw [h]))
          rw [hd]
          have HXY := Lib.hid hxy
          clear hd hd0 hxy
          go_wp2_with fail
          go_ret
          exact ⟨by rw [HXY.out]; rfl, (q + 1) + kq, by rw [HWQ.out]; exact World.drewN_drewN _ _ _⟩
      · obtain rfl : i = la := by omega
        have hxy : X = Y := by
          apply List.ext_getElem (by omega)
          intro j h1 h2
          have := hs.out j (by omega)
          simpa [List.getD, h1, h2] using this
        have HXY := Lib.hid (decide_eq_true hxy)
        go_wp2_with fail
        go_ret
        exact ⟨by rw [HXY.out]; rfl, q, HQ.out⟩
  · have hb0 : ((la : Int) != (lb : Int)) = true := by simp; omega
    have hxy : decide (X = Y) = false := decide_eq_false (fun h => hne (by rw [← hxl, ← hyl, h]))
    have HXY := Lib.hid hxy
    clear hxy
    go_enter Try.func32, Try.ntmps32
    go_wp2_with fail
    go_ret
    exact ⟨by rw [HXY.out]; rfl, 0, rfl⟩
end Go.Proofs.Yteidmdakglkkfaa
