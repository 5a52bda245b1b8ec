/- The walk of 'Columns', as a list of columns. -/
import Derived.Test.YtjnheahhlopbfaaGeomW
namespace Go.Proofs.Ytjnheahhlopbfaa
open Go.RowKit

theorem info_col : (Try.prog.info? 36).map (fun i => (i.zero, i.size, i.bytes)) = some (some (.agg #[.int .i64 0, .int .i64 0, .int .i64 0, .bool false]), 4, 32) := by kernel_rfl

/-- one column -/
structure Col where
  drive : Int
  at' : Int
  count : Int
  parity : Bool
def Col.cells (c : Col) : List Value := [.int .i64 c.drive, .int .i64 c.at', .int .i64 c.count, .bool c.parity]
def colAt (D P a q L : Int) (k : Nat) : Col := ⟨(a + k) % D, (a + k) / D, if (k : Int) < L then q + 1 else q, decide ((k : Int) < P)⟩
def colCells (D P a q L : Int) (n : Nat) : List Value := (List.range n).flatMap fun k => (colAt D P a q L k).cells
theorem colCells_succ (D P a q L : Int) (n : Nat) : colCells D P a q L (n + 1) = colCells D P a q L n ++ (colAt D P a q L n).cells := by
  unfold colCells; rw [List.range_succ, List.flatMap_append]; simp
def longOf (r P : Int) : Int := if 0 < r then r + P else 0
def manyOf (q D L : Int) : Int := if q = 0 then L else D

def Cols (D P a c : Int) (w : World) (e : Ending) (w' : World) : Prop :=
  ∃ q r L N v, Hid (q = c / (D - P) ∧ r = c % (D - P) ∧ L = longOf r P ∧ N = manyOf q D L) ∧ 0 ≤ N ∧ N ≤ 11 ∧ e = .returned (.tuple #[v, .int .i64 0]) ∧
    w'.ownsRow w.heap.size 36 4 v N.toNat (colCells D P a q L N.toNat) ∧ Below w.heap.size w w'

set_option maxHeartbeats 1000000 in
theorem columns (D P a c : Int) (w : World) (h1 : 2 ≤ D) (h2 : D ≤ 8) (h3 : 1 ≤ P) (h4 : P ≤ 3) (h5 : P < D) (h6 : 1 ≤ c) (h7 : c ≤ 32) (h8 : 0 ≤ a) (h9 : a ≤ 65536) :
    Calls Try.prog 18 #[.int .i64 D, .int .i64 P, .int .i64 a, .int .i64 c] w (Cols D P a c w) := by
  have hw0 : (D - P == 0) = false := by simp; omega
  have hD0 : (D == 0) = false := by simp; omega
  obtain ⟨q, hq⟩ : ∃ q, Hid (q = c / (D - P)) := ⟨_, rfl⟩
  obtain ⟨r, hr⟩ : ∃ r, Hid (r = c % (D - P)) := ⟨_, rfl⟩
  obtain ⟨L, hL⟩ : ∃ L, Hid (L = longOf r P) := ⟨_, rfl⟩
  obtain ⟨N, hN⟩ : ∃ N, Hid (N = manyOf q D L) := ⟨_, rfl⟩
  have hq0 : 0 ≤ q := by rw [hq.out]; exact Int.ediv_nonneg (by omega) (by omega)
  have hq1 : q ≤ c := by rw [hq.out]; exact Int.ediv_le_self _ (by omega)
  have hr0 : 0 ≤ r := by rw [hr.out]; exact Int.emod_nonneg _ (by omega)
  have hr1 : r < D - P := by rw [hr.out]; exact Int.emod_lt_of_pos _ (by omega)
  have hL0 : 0 ≤ L ∧ L ≤ 11 := by rw [hL.out]; unfold longOf; split <;> omega
  have hN0 : 0 ≤ N ∧ N ≤ 11 := by rw [hN.out]; unfold manyOf; split <;> omega
  have hr2 : 0 ≤ c % (D - P) ∧ c % (D - P) < D - P := ⟨Int.emod_nonneg _ (by omega), Int.emod_lt_of_pos _ (by omega)⟩
  go_enter Try.func18, Try.ntmps18
  go_upto_if 45 with (first | (go_at_call 33; refine (may_yes _ _ _ (by omega) (by omega) (by omega) (by omega) (by omega)).mono ?_; rintro e w' ⟨rfl, rfl⟩) | (go_at_call 34; refine (counted_yes _ _ (by omega) (by omega)).mono ?_; rintro e w' ⟨rfl, rfl⟩) | (go_at_call 32; refine (addressed_yes _ _ (by omega) (by omega)).mono ?_; rintro e w' ⟨rfl, rfl⟩) | go_quiet (fail))
  go_cut [11, 12, 13] (fun v11 v12 v13 wx => v11 = .int .i64 q ∧ v12 = .int .i64 r ∧ v13 = .int .i64 L ∧ Below w.heap.size w wx)
  case first =>
    go_wp2
    all_goals go_meet
    · exact ⟨by rw [hq.out], by rw [hr.out], by rw [hL.out, hr.out, longOf, if_pos ‹_›], below_drewN (((Below.refl _ _).alloc (Nat.le_refl _) _).alloc (by simp) _) _⟩
    · exact ⟨by rw [hq.out], by rw [hr.out], by rw [hL.out, hr.out, longOf, if_neg (by omega)], below_drewN (((Below.refl _ _).alloc (Nat.le_refl _) _).alloc (by simp) _) _⟩
  case rest =>
  obtain ⟨rfl, rfl, rfl, hb⟩ := hcut
  clear hr1 hw0
  go_upto_if 51 with fail
  go_cut [14] (fun v14 wx => v14 = .int .i64 N ∧ Below w.heap.size w wx)
  case first =>
    by_cases h0 : q = 0
    · have hq0' : (q == 0) = true := by simp [h0]
      have HN : N = L := by rw [hN.out, manyOf, if_pos h0]
      clear h0
      have HN' := Lib.hid HN
      clear HN
      go_wp2
      all_goals go_meet
      exact ⟨by rw [HN'.out], hb⟩
    · have hq0' : (q == 0) = false := by simp [h0]
      have HN : N = D := by rw [hN.out, manyOf, if_neg h0]
      have HN' := Lib.hid HN
      clear HN
      go_wp2
      all_goals go_meet
      exact ⟨by rw [HN'.out], hb⟩
  case rest =>
  obtain ⟨rfl, hb1⟩ := hcut
  clear hb
  go_wp2_with fail
  obtain ⟨i0, hi, hz0, hz1, hz2⟩ := info_parts info_col
  go_loopw [15, 54] (fun v i wr => ∃ k : Nat, (k : Int) ≤ N ∧ i = .int .i64 k ∧ wr.ownsRow w.heap.size 36 4 v k (colCells D P a q L k) ∧ Below w.heap.size w wr) (fun _ i _ => (N - intOf i).toNat)
  case atStart => exact ⟨0, by omega, rfl, World.ownsRow_nil _ _ _ _, hb1⟩
  case round =>
    obtain ⟨k, hk, rfl, hown, hbr⟩ := hrel
    clear hb1
    have hsz := hbr.size
    by_cases hlt : (k : Int) < N
    · by_cases hkL : (k : Int) < L
      all_goals
        have hc : (colAt D P a q L k).cells = [.int .i64 ((a + k) % D), .int .i64 ((a + k) / D), .int .i64 (if (k : Int) < L then q + 1 else q), .bool (decide ((k : Int) < P))] := rfl
        first | rw [if_pos hkL] at hc | rw [if_neg hkL] at hc
        have hc' := Lib.hid hc
        clear hc
        go_wp2
        go_region
        go_wp2_with (at_builtin; refine wpList_append_own _ rfl (.tmp 79) (.tmp 81) 32 rfl w.heap.size 36 i0 _ 4 32 Try.underlying32 hi hz0 hz1 hz2 rfl (by decide) _ _ _ rfl (ownsRow_below hown (below_drewN (Below_alloc2 _ _) 1)) ⟨wr.heap.size + 1, 0, none⟩ 1 1 (colAt D P a q L k).cells rfl rfl ?_ ?_ ?_ ?_ ?_ ?_)
        · rw [hc'.out]; exact new_cells (wr.alloc _) _ _ _ (by simp) _ rfl
        · intro u hu; rw [hc'.out] at hu; simp at hu; rcases hu with rfl | rfl | rfl | rfl <;> rfl
        · unfold maxLen; omega
        · omega
        · simp; omega
        intro v' w1 hown' hgrow _
        go_wp2
        go_roundw
        case rel => exact ⟨k + 1, by omega, by go_num, by rw [colCells_succ]; exact hown', below_append hbr (below_drewN (Below_alloc2 _ _) 1) hown hgrow⟩
        case measure => simp [intOf]; omega
    · have hkN : N.toNat = k := by omega
      have hkN' := Lib.hid hkN
      clear hkN
      go_wp2
      go_ret2
      exact ⟨q, r, L, N, u15, ⟨hq.out, hr.out, hL.out, hN.out⟩, hN0.1, hN0.2, rfl, by rw [hkN'.out]; exact hown, hbr⟩
end Go.Proofs.Ytjnheahhlopbfaa
