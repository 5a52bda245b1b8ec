/- The walk of Name. -/
import Derived.Test.YtdonmdiebibabaaDoorMem
import Derived.Sort.EncStr
import Derived.Laws.IdiomStrings
namespace Go.Proofs.YtdonmdiebibabaaDoor
open Go.RowKit
set_option linter.unusedVariables false
set_option maxRecDepth 100000

abbrev Nm := List UInt8
def charOk (c : UInt8) : Bool := (97 ≤ c.toNat && c.toNat ≤ 122) || (48 ≤ c.toNat && c.toNat ≤ 57)
def nameOk (n : Nm) : Bool := n.all charOk && (1 ≤ n.length && n.length ≤ 8)
theorem convS (n : Nm) (w : World) : ∃ (c : Nat) (W : World), (convert 9 22 (.string ⟨n.toArray⟩)).run Tryd.prog w = .ok (.slice (some ⟨w.heap.size, 0, none⟩) n.length c) W ∧ n.length ≤ c ∧ Below w.heap.size w W ∧ ∀ i (h : i < n.length), W.cell? ⟨w.heap.size, i, none⟩ = some (.int .u8 (n[i].toNat : Int)) := by
  refine ⟨_, _, run_bytes_of_string w 9 22 5 ⟨n.toArray⟩ Tryd.underlying9 Tryd.underlying22 Tryd.underlying5, ?_, ?_, ?_⟩
  · exact grownCap_ge w n.length 0 5
  · exact ((Below.refl _ _).drew).alloc (Nat.le_refl _) _
  · intro i h
    show (w.drew.alloc _).cell? ⟨w.drew.heap.size, i, none⟩ = _
    rw [cell_of_row _ _ _ _ _ _ (heap_alloc_new w.drew _)]
    exact bytesRow_at ⟨n.toArray⟩ _ i (by simpa using h)
def zone (c : UInt8) : Prop := ((c.toNat : Int) < 48 ∧ (c.toNat : Int) < 97) ∨ (48 ≤ (c.toNat : Int) ∧ (c.toNat : Int) ≤ 57 ∧ (c.toNat : Int) < 97) ∨ (57 < (c.toNat : Int) ∧ (c.toNat : Int) < 97) ∨ (97 ≤ (c.toNat : Int) ∧ (c.toNat : Int) ≤ 122) ∨ (122 < (c.toNat : Int) ∧ 57 < (c.toNat : Int))
theorem zones (c : UInt8) : zone c := by unfold zone; omega
theorem nameOk_end (n : Nm) (h : ∀ j (hj : j < n.length), charOk n[j] = true) : nameOk n = (decide (1 ≤ n.length) && decide (n.length ≤ 8)) := by
  unfold nameOk
  have : n.all charOk = true := List.all_eq_true.2 (fun x hx => by
    obtain ⟨j, hj, rfl⟩ := List.getElem_of_mem hx
    exact h j hj)
  rw [this]; rfl
theorem nameOk_bad (n : Nm) (i : Nat) (hi : i < n.length) (h : charOk n[i] = false) : nameOk n = false := by
  unfold nameOk
  have : n.all charOk = false := by
    rw [List.all_eq_false]
    exact ⟨n[i], List.getElem_mem hi, by rw [h]; simp⟩
  rw [this]; rfl
theorem charOk_bad {c : UInt8} (h1 : (c.toNat : Int) < 97 ∨ 122 < (c.toNat : Int)) (h2 : (c.toNat : Int) < 48 ∨ 57 < (c.toNat : Int)) : charOk c = false := by
  unfold charOk
  simp only [Bool.or_eq_false_iff, Bool.and_eq_false_iff, decide_eq_false_iff_not]
  omega
theorem charOk_good {c : UInt8} (h : (97 ≤ (c.toNat : Int) ∧ (c.toNat : Int) ≤ 122) ∨ (48 ≤ (c.toNat : Int) ∧ (c.toNat : Int) ≤ 57)) : charOk c = true := by
  unfold charOk
  simp only [Bool.or_eq_true, Bool.and_eq_true, decide_eq_true_eq]
  omega
set_option maxHeartbeats 4000000 in
theorem nameWL (n : Nm) (w : World) (h : n.length ≤ 4000000) : Calls Tryd.prog 17 #[encStr n] w fun e w' => e = .returned (.bool (nameOk n)) ∧ Below w.heap.size w w' := by
  obtain ⟨c, W, hconv, hnc, hB, hcell⟩ := convS n w
  have HB := Lib.hid hB
  have HC := Lib.hid hcell
  obtain ⟨g, hg⟩ : ∃ g, w.heap.size = g := ⟨_, rfl⟩
  rw [hg] at hconv hcell
  have HG := Lib.hid hg
  obtain ⟨l, hl⟩ : ∃ l, n.length = l := ⟨_, rfl⟩
  rw [hl] at hconv hnc h
  have HL := Lib.hid hl
  have hsz : (ByteArray.mk n.toArray).size = l := by rw [← hl]; rfl
  clear hB hcell hg hl
  unfold encStr
  go_enter Tryd.func17, Tryd.ntmps17
  go_wp2_with fail
  go_loop [8] (fun iv => ∃ i : Nat, i ≤ l ∧ iv = .int .i64 (i : Int) ∧ ∀ j (hj : j < n.length), j < i → charOk n[j] = true) (fun iv => l - (intOf iv).toNat)
  case atStart => exact ⟨0, by omega, rfl, fun j _ hj => by omega⟩
  case round =>
    obtain ⟨i, hi, rfl, hall⟩ := hrel
    by_cases hil : i < l
    · have hin : i < n.length := by rw [HL.out]; exact hil
      have il : (i : Int) < (l : Int) := by omega
      have c0 : W.cell? ⟨g, i, none⟩ = some (.int .u8 (n[i].toNat : Int)) := by rw [← HG.out]; exact HC.out i hin
      obtain ⟨x, hx0⟩ : ∃ x, n[i] = x := ⟨_, rfl⟩
      have hx := Lib.hid hx0
      rw [hx0] at c0
      clear hx0
      have HALL := Lib.hid hall
      clear hall
      rcases zones x with ⟨z1, z2⟩ | ⟨z1, z2, z3⟩ | ⟨z1, z2⟩ | ⟨z1, z2⟩ | ⟨z1, z2⟩
      · obtain ⟨v, hv⟩ : ∃ v, Hid (x.toNat = v) := ⟨_, rfl⟩
        have hbad : Hid (nameOk n = false) := nameOk_bad n i hin (by rw [hx.out]; exact charOk_bad (by omega) (by omega))
        rw [hv.out] at c0 z1 z2
        go_wp2_with fail
        go_ret
        exact ⟨by rw [hbad.out]; rfl, HB.out⟩
      · obtain ⟨v, hv⟩ : ∃ v, Hid (x.toNat = v) := ⟨_, rfl⟩
        have hgood : Hid (charOk n[i] = true) := by show _ = _; rw [hx.out]; exact charOk_good (by omega)
        rw [hv.out] at c0 z1 z2
        rw [hv.out] at z3
        go_wp2_with fail
        go_round
        case rel =>
          refine ⟨i + 1, by omega, by go_num, fun j hj hji => ?_⟩
          by_cases e : j = i
          · subst e; exact hgood.out
          · exact HALL.out j hj (by omega)
        case measure => simp [intOf]; omega
      · obtain ⟨v, hv⟩ : ∃ v, Hid (x.toNat = v) := ⟨_, rfl⟩
        have hbad : Hid (nameOk n = false) := nameOk_bad n i hin (by rw [hx.out]; exact charOk_bad (by omega) (by omega))
        rw [hv.out] at c0 z1 z2
        go_wp2_with fail
        go_ret
        exact ⟨by rw [hbad.out]; rfl, HB.out⟩
      · obtain ⟨v, hv⟩ : ∃ v, Hid (x.toNat = v) := ⟨_, rfl⟩
        have hgood : Hid (charOk n[i] = true) := by show _ = _; rw [hx.out]; exact charOk_good (by omega)
        rw [hv.out] at c0 z1 z2
        go_wp2_with fail
        go_round
        case rel =>
          refine ⟨i + 1, by omega, by go_num, fun j hj hji => ?_⟩
          by_cases e : j = i
          · subst e; exact hgood.out
          · exact HALL.out j hj (by omega)
        case measure => simp [intOf]; omega
      · obtain ⟨v, hv⟩ : ∃ v, Hid (x.toNat = v) := ⟨_, rfl⟩
        have hbad : Hid (nameOk n = false) := nameOk_bad n i hin (by rw [hx.out]; exact charOk_bad (by omega) (by omega))
        rw [hv.out] at c0 z1 z2
        go_wp2_with fail
        go_ret
        exact ⟨by rw [hbad.out]; rfl, HB.out⟩
    · obtain rfl : i = l := by omega
      have hend : Hid (nameOk n = (decide (1 ≤ i) && decide (i ≤ 8))) := by
        have := nameOk_end n (fun j hj => hall j hj (by rw [HL.out] at hj; exact hj))
        rw [HL.out] at this; exact this
      clear hall
      by_cases h1 : 1 ≤ i
      · have q1 : (1 : Int) ≤ (i : Int) := by omega
        have q1' : ¬ ((i : Int) < 1) := by omega
        by_cases h2 : i ≤ 8
        · have q2 : (i : Int) ≤ 8 := by omega
          go_wp2_with fail
          go_ret
          exact ⟨by rw [hend.out]; simp [h1, h2], HB.out⟩
        · have q2 : ¬ ((i : Int) ≤ 8) := by omega
          go_wp2_with fail
          go_ret
          exact ⟨by rw [hend.out]; simp [h1, h2], HB.out⟩
      · obtain rfl : i = 0 := by omega
        go_wp2_with fail
        go_ret
        exact ⟨by rw [hend.out]; rfl, HB.out⟩
theorem nameW (n : Nm) (w : World) (h : n.length ≤ 100) : Calls Tryd.prog 17 #[encStr n] w fun e w' => e = .returned (.bool (nameOk n)) ∧ Below w.heap.size w w' := nameWL n w (by omega)
end Go.Proofs.YtdonmdiebibabaaDoor
