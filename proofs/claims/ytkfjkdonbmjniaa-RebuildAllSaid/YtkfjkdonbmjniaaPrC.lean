/- The walk of ColumnsOf. -/
import Derived.Test.YtkfjkdonbmjniaaPrE
import Derived.Deep.DeepCutAuto
namespace Go.Proofs.Ytkfjkdonbmjniaa
open Go.RowKit
set_option linter.unusedVariables false
set_option maxRecDepth 100000

def colSize (len n : Nat) : Nat := min (len / n) 64
def colsN (xs : List Int) (size k : Nat) : List (List Int) := (List.range k).map fun i => (xs.drop (i * size)).take size
theorem colsN_succ (xs : List Int) (size k : Nat) : colsN xs size (k + 1) = colsN xs size k ++ [(xs.drop (k * size)).take size] := by simp [colsN, List.range_succ]
theorem colsN_length (xs : List Int) (size k : Nat) : (colsN xs size k).length = k := by simp [colsN]
theorem colSize_le (len n : Nat) (hn : 1 ≤ n) : n * colSize len n ≤ len := by
  have h1 : colSize len n ≤ len / n := Nat.min_le_left _ _
  calc n * colSize len n ≤ n * (len / n) := Nat.mul_le_mul_left _ h1
    _ ≤ len := Nat.mul_div_le _ _
theorem colsN_cols (xs : List Int) (n : Nat) (h1 : 1 ≤ n) (h2 : n ≤ 12) : Cols (colsN xs (colSize xs.length n) n) (colSize xs.length n) := by
  refine ⟨by rw [colsN_length]; exact h1, by rw [colsN_length]; exact h2, by unfold colSize; omega, ?_⟩
  intro c hc
  simp only [colsN, List.mem_map, List.mem_range] at hc
  obtain ⟨i, hi, rfl⟩ := hc
  rw [List.length_take, List.length_drop]
  have h3 := colSize_le xs.length n h1
  have h4 : (i + 1) * colSize xs.length n ≤ n * colSize xs.length n := Nat.mul_le_mul_right _ hi
  rw [Nat.add_mul] at h4
  omega
def ColsPost (xs : List Int) (n : Nat) (w : World) (e : Ending) (w' : World) : Prop :=
  ∃ a c, e = .returned (.slice a n c) ∧ Hid (SOwn (Lay.int .u8).slice w' w.heap.size 45 (fun b => w.heap.size ≤ b) a n c (colsN xs (colSize xs.length n) n)) ∧ Hid (Below w.heap.size w w')
set_option maxHeartbeats 2000000 in
theorem columnsOf (a : Option Addr) (len cap : Nat) (xs : List Int) (n : Nat) (w : World) (h : Row .u8 w a len cap xs) (h1 : 1 ≤ n) (h2 : n ≤ 12) :
    Calls Try.prog 32 #[.slice a len cap, .int .i64 n] w (ColsPost xs n w) := by
  have hle := h.hle
  have hmx := h.hmax
  have hln := h.hlen
  unfold maxLen at hmx
  have HR := Lib.hid h
  obtain ⟨size, hsz⟩ : ∃ s, Hid (colSize len n = s) := ⟨_, rfl⟩
  have hs0 : size = min (len / n) 64 := by rw [← hsz.out]; rfl
  have hsl : n * size ≤ len := by rw [← hsz.out]; exact colSize_le len n h1
  have hs64 : size ≤ 64 := by omega
  obtain ⟨q, hq⟩ : ∃ q, len / n = q := ⟨_, rfl⟩
  have hqi : (len : Int) / (n : Int) = (q : Int) := by rw [← hq]; rfl
  have hqm : q ≤ len := by rw [← hq]; exact Nat.div_le_self _ _
  rw [hq] at hs0
  obtain ⟨B, hB⟩ : ∃ B, Hid (w.heap.size = B) := ⟨_, rfl⟩
  go_enter Try.func32, Try.ntmps32
  go_upto_if 13 with fail
  obtain ⟨sz, hsz2⟩ : ∃ z : Int, Hid ((size : Int) = z) := ⟨_, rfl⟩
  go_cut [5] (fun v wx => v = .int .i64 sz ∧ wx = w)
  case first =>
    by_cases h64 : 64 < q
    · have e : size = 64 := by omega
      subst e
      go_wp2_with fail
      go_meet
      exact ⟨by first | (rw [← hsz2.out]; done) | (rw [← hsz2.out]; rfl), rfl⟩
    · have e : size = q := by omega
      subst e
      go_wp2_with fail
      go_meet
      exact ⟨by first | (rw [← hsz2.out]; done) | (rw [← hsz2.out]; rfl), rfl⟩
  case rest =>
    obtain ⟨rfl, rfl⟩ := hcut
    clear hq hqi hqm hs0 h
    go_wp2_with fail
    go_loopw [6, 7] (fun ov i wr => ∃ (k : Nat) (ao : Option Addr) (co : Nat), k ≤ n ∧ i = .int .i64 k ∧ ov = .slice ao k co ∧ Hid (SOwn (Lay.int .u8).slice wr B 45 (fun b => B ≤ b) ao k co (colsN xs size k)) ∧ Hid (Below B wc wr)) (fun _ i _ => n - (intOf i).toNat)
    case atStart => exact ⟨0, none, 0, by omega, rfl, rfl, SOwn.nil .., Below.refl _ _⟩
    case round =>
      obtain ⟨k, ao, co, hk, rfl, rfl, hO, hL⟩ := hrel
      by_cases hlt : k < n
      · obtain ⟨lo, hlo⟩ : ∃ lo, k * size = lo := ⟨_, rfl⟩
        have hhi : (k + 1) * size = lo + size := by rw [Nat.add_mul, hlo, Nat.one_mul]
        have hbd : lo + size ≤ len := by rw [← hhi]; exact Nat.le_trans (Nat.mul_le_mul_right _ hlt) hsl
        have i1 : (k : Int) * sz = (lo : Int) := by rw [← hsz2.out, ← Int.natCast_mul, hlo]
        have i2 : ((k : Int) + 1) * sz = (lo : Int) + (size : Int) := by rw [Int.add_mul, i1, Int.one_mul, hsz2.out]
        have w1 : IntKind.i64.wrap (lo : Int) = (lo : Int) := IntWalk.i64_in _ (by omega)
        have w2 : IntKind.i64.wrap ((lo : Int) + (size : Int)) = (lo : Int) + (size : Int) := IntWalk.i64_in _ (by omega)
        have hBr : B ≤ wr.heap.size := by have := hL.out.size; have := hB.out; omega
        have hp := (HR.out.below (by rw [hB.out]; exact hL.out)).toV.piece lo (lo + size) (by omega) hbd
        rw [Nat.mul_one, show lo + size - lo = size by omega, Nat.mul_one, ← List.map_drop, ← List.map_take] at hp
        have hwf : ∀ x ∈ (xs.drop lo).take size, (Lit.int .u8 x).wf = true := fun x hx => HR.out.hwf x (List.mem_of_mem_drop (List.mem_of_mem_take hx))
        have HW := Lib.hid hwf
        clear hwf
        by_cases hs00 : size = 0
        · subst hs00
          obtain rfl : lo = 0 := by omega
          have hn0 := HR.out.hnil
          clear hp
          by_cases hc0 : cap = 0
          · subst hc0
            rcases a with _ | z
            all_goals
             go_wp2_with (at_builtin; refine wpList_append_one (L := (Lay.int .u8).slice) rfl (.tmp 19) (.tmp 30) 46 rfl B 45 _ 24 Try.underlying46 info_bytes rfl (fun b => B ≤ b) ao k co _ rfl hO.out #[.slice none 0 0] [] rfl (fun b => False) ⟨_, _, _, rfl, SRow.nil _ _ _⟩ (fun b h => h.elim) (by unfold maxLen; omega) (by omega) hBr ?_)
             intro a7 c7 w7 hown7 hg7
             have L7 : Hid (Below B wc w7) := hO.out.grown hL.out (Nat.le_refl _) hBr hg7
             have O7 : Hid (SOwn (Lay.int .u8).slice w7 B 45 (fun b => B ≤ b) a7 (k + 1) c7 (colsN xs 0 (k + 1))) := by
               rw [colsN_succ, List.take_zero]; exact hown7
             clear hown7 hg7 hO hL
             go_wp2_with fail
             go_roundw
             case rel => exact ⟨k + 1, a7, c7, by omega, by go_num, rfl, O7, L7⟩
             case measure => simp [intOf]; omega
          · have hsome : ∃ z, a = some z := by cases a with | none => exact absurd (hn0 rfl) hc0 | some z => exact ⟨z, rfl⟩
            obtain ⟨z, rfl⟩ := hsome
            go_wp2_with (at_builtin; refine wpList_append_one (L := (Lay.int .u8).slice) rfl (.tmp 19) (.tmp 30) 46 rfl B 45 _ 24 Try.underlying46 info_bytes rfl (fun b => B ≤ b) ao k co _ rfl hO.out #[.slice none 0 0] [] rfl (fun b => False) ⟨_, _, _, rfl, SRow.nil _ _ _⟩ (fun b h => h.elim) (by unfold maxLen; omega) (by omega) hBr ?_)
            intro a7 c7 w7 hown7 hg7
            have L7 : Hid (Below B wc w7) := hO.out.grown hL.out (Nat.le_refl _) hBr hg7
            have O7 : Hid (SOwn (Lay.int .u8).slice w7 B 45 (fun b => B ≤ b) a7 (k + 1) c7 (colsN xs 0 (k + 1))) := by
              rw [colsN_succ, List.take_zero]; exact hown7
            clear hown7 hg7 hO hL
            go_wp2_with fail
            go_roundw
            case rel => exact ⟨k + 1, a7, c7, by omega, by go_num, rfl, O7, L7⟩
            case measure => simp [intOf]; omega
        · have hcl : ¬ cap = lo := by omega
          rw [if_neg hcl] at hp
          have HP := Lib.hid hp
          clear hp
          go_wp2_with (at_builtin; refine wpList_append_any rfl (.const (.slice none 0 0)) (.tmp 28) 45 rfl wr.heap.size 5 _ 1 1 Try.underlying45 info_byte rfl (by decide) none 0 0 [] rfl (Own.nil _ _ _ _) (a.map (·.add lo)) size (cap - lo) (((xs.drop lo).take size).map (.int .u8)) (by show Value.slice _ (lo + size - lo) _ = _; rw [Nat.add_sub_cancel_left]) HP.out (fun u hu => by obtain ⟨x, _, rfl⟩ := List.mem_map.1 hu; rfl) (by unfold maxLen; omega) (by omega) (Nat.le_refl _) ?_)
          intro a6 c6 w6 ho hg
          have LR6 : Below wr.heap.size wr w6 := Own.grown (Own.nil wr wr.heap.size 5 1) (Below.refl _ _) (Nat.le_refl _) (Nat.le_refl _) hg
          have ho' : Own w6 wr.heap.size 5 1 a6 size c6 (((xs.drop lo).take size).map (.int .u8)) := by simpa using ho
          have HO := Lib.hid (ho'.row.toRow HW.out)
          have hform : Hid (∀ x, a6 = some x → wr.heap.size ≤ x.block ∧ x.block < w6.heap.size) := by
            intro x hx
            rcases ho'.form with ⟨h0, _⟩ | ⟨g6, cur, hg6, hbg, hh, _⟩
            · rw [h0] at hx; cases hx
            · rw [hg6] at hx; cases hx; exact ⟨hbg, (Array.getElem?_eq_some_iff.1 hh).1⟩
          have O6 := Lib.hid (hO.out.below LR6)
          have L6 : Hid (Below B wc w6) := hL.out.trans (LR6.mono hBr)
          have hno : Hid (∀ z, (Value.slice ao k co).ownBlock = some z → z < wr.heap.size) := fun z hz => (hO.out.lt z hz).2
          have hBw6 : B ≤ w6.heap.size := by have := LR6.size; omega
          clear ho ho' hg LR6 hO hL HP HW
          go_wp2_with (at_builtin; refine wpList_append_one (L := (Lay.int .u8).slice) rfl (.tmp 19) (.tmp 30) 46 rfl B 45 _ 24 Try.underlying46 info_bytes rfl (fun b => B ≤ b) ao k co _ rfl O6.out #[.slice a6 size c6] ((xs.drop lo).take size) rfl (fun b => ∃ x, a6 = some x ∧ x.block = b) ⟨_, _, _, rfl, Row.toS HO.out (fun x hx _ => ⟨x, hx, rfl⟩)⟩ (fun b h => by obtain ⟨x, hx, rfl⟩ := h; have h3 := hform.out x hx; exact ⟨by omega, h3.2, fun e => by have := hno.out _ e; omega⟩) (by unfold maxLen; omega) (by omega) hBw6 ?_)
          intro a7 c7 w7 hown7 hg7
          have L7 : Hid (Below B wc w7) := O6.out.grown L6.out (Nat.le_refl _) hBw6 hg7
          have O7 : Hid (SOwn (Lay.int .u8).slice w7 B 45 (fun b => B ≤ b) a7 (k + 1) c7 (colsN xs size (k + 1))) := by
            rw [colsN_succ, hlo]; exact hown7
          clear hown7 hg7 O6 L6 HO hform hno
          go_wp2_with fail
          go_roundw
          case rel => exact ⟨k + 1, a7, c7, by omega, by go_num, rfl, O7, L7⟩
          case measure => simp [intOf]; omega
      · obtain rfl : k = n := by omega
        go_wp2_with fail
        go_ret
        exact ⟨ao, co, rfl, by rw [hB.out, hln, hsz.out]; exact hO, by rw [hB.out]; exact hL⟩
end Go.Proofs.Ytkfjkdonbmjniaa
