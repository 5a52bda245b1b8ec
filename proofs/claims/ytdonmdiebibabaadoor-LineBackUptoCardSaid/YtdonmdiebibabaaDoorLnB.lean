/- The walks of hex, unhex. -/
import Derived.Test.YtdonmdiebibabaaDoorLnA
namespace Go.Proofs.YtdonmdiebibabaaDoor
open Go.RowKit Go.Sort
set_option linter.unusedVariables false
set_option maxRecDepth 100000
set_option linter.unusedSimpArgs false

theorem pairs_take (xs : List Int) (i : Nat) (h : i < xs.length) : pairsP (xs.take (i + 1)) = pairsP (xs.take i) ++ [digP (xs[i] / 16)] ++ [digP (xs[i] % 16)] := by
  rw [List.take_succ_eq_append_getElem h]
  unfold pairsP
  rw [List.flatMap_append]
  simp [List.flatMap]
theorem byteCells_snoc (l : List UInt8) (c : UInt8) : Lib.byteCells (l ++ [c]) = Lib.byteCells l ++ [.int .u8 (c.toNat : Int)] := by
  unfold Lib.byteCells; rw [List.map_append]; rfl
theorem dig_elem (q : Int) (h : q.toNat < (⟨#[48, 49, 50, 51, 52, 53, 54, 55, 56, 57, 97, 98, 99, 100, 101, 102]⟩ : ByteArray).size) : (⟨#[48, 49, 50, 51, 52, 53, 54, 55, 56, 57, 97, 98, 99, 100, 101, 102]⟩ : ByteArray)[q.toNat] = digP q := by
  have h' : q.toNat < 16 := h
  unfold digP digsP
  rw [List.getD_eq_getElem?_getD, List.getElem?_eq_getElem (by simpa using h')]; rfl
set_option maxHeartbeats 4000000 in
theorem hexW (a : Option Addr) (len cap : Nat) (xs : List Int) (w : World) (ha : Row .u8 w a len cap xs) (hl : len ≤ 2000000) :
    Calls Tryd.prog 20 #[.slice a len cap] w fun e w' => e = .returned (encStr (hexP xs)) ∧ Hid (Below w.heap.size w w') := by
  have h1 := ha.hle
  have h2 := ha.hmax
  unfold maxLen at h2
  have hll := ha.hlen
  by_cases h0 : len = 0
  · have hx : Hid (hexP xs = [45]) := by show _ = _; unfold hexP; rw [if_pos (List.eq_nil_of_length_eq_zero (by omega))]
    subst h0
    clear ha hll
    rw [hx.out]
    go_enter Tryd.func20, Tryd.ntmps20
    go_wp2_with fail
    go_ret
    exact ⟨rfl, Below.refl _ _⟩
  · have hx : Hid (hexP xs = pairsP xs) := by show _ = _; unfold hexP; rw [if_neg (fun e => h0 (by rw [← hll, e]; rfl))]
    obtain ⟨b, off, rfl, hat⟩ : ∃ b off, a = some ⟨b, off, none⟩ ∧ ∀ i, i < len → w.cell? ⟨b, off + i, none⟩ = some (.int .u8 (xs.getD i 0)) := by
      rcases ha.hat with h | ⟨b, off, e, hc⟩
      · exact absurd h h0
      · exact ⟨b, off, e, hc⟩
    have HAT := Lib.hid hat
    have HWF := Lib.hid ha.hwf
    have HLL := Lib.hid hll
    have hz : ((len : Int) == 0) = false := by simp; omega
    rw [hx.out]
    obtain ⟨W, hW⟩ : ∃ W, W = w.alloc (.cells #[.pointer none, .slice none 0 0] 72) := ⟨_, rfl⟩
    obtain ⟨B, hB⟩ : ∃ B, Hid (w.heap.size = B) := ⟨_, rfl⟩
    have hBW : Hid (Below B w W) := by rw [hW, ← hB.out]; exact Below_alloc1 _
    have hIB : Hid (Lib.IsBuilder 72 5 B B (Lib.byteCells []) W) := by
      refine .inl ⟨Nat.le_refl _, .slice none 0 0, ?_, Own.nil .., by simp [Value.ownBlock]⟩
      rw [hW, ← hB.out]; exact heap_alloc_new w _
    clear ha hll h0 hat hx
    go_enter Tryd.func20, Tryd.ntmps20
    go_wp2_with fail
    rw [← hW]
    clear hW
    rw [hB.out]
    go_loopw [11] (fun iv wr => ∃ i : Nat, i ≤ len ∧ iv = .int .i64 i ∧ Hid (Lib.IsBuilder 72 5 B B (Lib.byteCells (pairsP (xs.take i))) wr) ∧ Hid (Below B w wr)) (fun iv _ => len - (intOf iv).toNat)
    case atStart => exact ⟨0, by omega, rfl, hIB, hBW⟩
    case round =>
      obtain ⟨i, hi, rfl, hIS, hBr⟩ := hrel
      by_cases hlt : i < len
      · have il : (i : Int) < len := by omega
        have c0w := HAT.out i hlt
        have c0 : wr.cell? ⟨b, off + i, none⟩ = some (.int .u8 (xs.getD i 0)) := (hBr.out.cell (by rw [← hB.out]; exact World.block_lt_of_cell? _ _ c0w)).trans c0w
        clear c0w
        obtain ⟨x, hx⟩ : ∃ x, Hid (xs.getD i 0 = x) := ⟨_, rfl⟩
        rw [hx.out] at c0
        have hxw : 0 ≤ x ∧ x < 256 := by
          have hm : x ∈ xs := by
            have := hx.out
            rw [List.getD_eq_getElem?_getD, List.getElem?_eq_getElem (by have := HLL.out; omega)] at this
            rw [← this]; exact List.getElem_mem _
          have := HWF.out x hm
          simp [Lit.wf, IntKind.min, IntKind.max, IntKind.signed, IntKind.bits] at this
          omega
        obtain ⟨hx0, hx1⟩ := hxw
        have q0 : 0 ≤ x / 16 := by omega
        have q1 : x / 16 < 16 := by omega
        have r0 : 0 ≤ x % 16 := by omega
        have r1 : x % 16 < 16 := by omega
        have hpl : (Lib.byteCells (pairsP (xs.take i))).length ≤ 4000000 := by
          unfold Lib.byteCells
          rw [List.length_map, pairs_length, List.length_take]; omega
        have hpt := pairs_take xs i (by have := HLL.out; omega)
        have hxe : xs[i]'(by have := HLL.out; omega) = x := by
          have := hx.out
          rwa [List.getD_eq_getElem?_getD, List.getElem?_eq_getElem (by have := HLL.out; omega)] at this
        rw [hxe] at hpt
        have HPT := Lib.hid hpt
        have hBr1 : B ≤ wr.heap.size := by have := hBr.out.size; have := hB.out; omega
        have HW1 := Lib.hid (fun c => Builder_WriteByte B B _ c wr hIS.out (by omega) hBr1)
        clear hpt hxe
        go_wp2_with fail
        refine (HW1.out _).mono ?_
        rintro e w1 ⟨rfl, hb1, hB1⟩
        rw [dig_elem] at hb1
        rw [← byteCells_snoc] at hb1
        have HB1 := Lib.hid hb1
        have hpl2 : (Lib.byteCells (pairsP (xs.take i) ++ [digP (x / 16)])).length ≤ 4000001 := by
          rw [byteCells_snoc, List.length_append]; simp only [List.length_cons, List.length_nil]; omega
        have hB1s : B ≤ w1.heap.size := by have := hB1.size; omega
        have HW2 := Lib.hid (fun c => Builder_WriteByte B B _ c w1 (.inr HB1.out) (by omega) hB1s)
        have HB1' := Lib.hid (hBr.out.trans hB1)
        clear hb1 hB1
        go_wp2_with fail
        refine (HW2.out _).mono ?_
        rintro e w2 ⟨rfl, hb2, hB2⟩
        rw [dig_elem] at hb2
        rw [← byteCells_snoc, ← HPT.out] at hb2
        have HB2 := Lib.hid hb2
        have HB2' := Lib.hid (HB1'.out.trans hB2)
        clear hb2 hB2
        go_wp2_with fail
        go_roundw
        case rel => exact ⟨i + 1, by omega, by go_num, .inr HB2.out, HB2'⟩
        case measure => (simp [intOf]; try omega)
      · obtain rfl : i = len := by omega
        have hBr1 : B ≤ wr.heap.size := by have := hBr.out.size; have := hB.out; omega
        rw [List.take_of_length_le (by have := HLL.out; omega)] at hIS
        go_wp2_with fail
        refine (Builder_String_any B B (pairsP xs) wr hIS.out hBr1).mono ?_
        rintro e w2 ⟨rfl, hB2⟩
        have HB2 : Hid (Below w.heap.size w w2) := by rw [hB.out]; exact hBr.out.trans hB2
        clear hB2
        go_wp2_with fail
        go_ret
        exact ⟨rfl, HB2⟩
end Go.Proofs.YtdonmdiebibabaaDoor
