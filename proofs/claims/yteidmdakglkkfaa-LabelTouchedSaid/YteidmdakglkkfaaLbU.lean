/- The walk of LabelTouched. -/
import Derived.Test.YteidmdakglkkfaaLbZ
import Derived.Deep.RegionLaw
namespace Go.Proofs.Yteidmdakglkkfaa
open Go.RowKit Go.ChangeShapes Go.WideShapes Go.Deep
set_option linter.unusedVariables false
set_option maxRecDepth 100000

theorem xor_range8 {a b : Int} (ha : 0 ≤ a ∧ a ≤ 255) (hb : 0 ≤ b ∧ b ≤ 255) : 0 ≤ bits .xor .u8 a b ∧ bits .xor .u8 a b ≤ 255 := by
  rw [u8_xor a b ha.1 (by omega) hb.1 (by omega)]
  have : a.toNat ^^^ b.toNat < 2 ^ 8 := Nat.xor_lt_two_pow (by omega) (by omega)
  omega
set_option maxHeartbeats 4000000 in
theorem labelTouched (t : Tag) (at_ : Int) (b : Option Addr) (lenb capb : Nat) (ys : List Int) (w : World) (hok : t.ok) (hb : Row .u8 w b lenb capb ys) :
    Calls Try.prog 9 #[.agg t.cells, .int .i64 at_, .slice b lenb capb] w fun e w' => e = .returned (.bool true) ∧ Below w.heap.size w w' := by
  have RB := Lib.hid hb
  clear hb
  go_enter Try.func9, Try.ntmps9
  go_wp2_with (first | (refine wpList_load_box rfl 53 (.tmp 3) rfl w.heap.size rfl 53 t.cells (Box.new rfl) _ Try.underlying53 rfl (by kernel_rfl) ?_))
  obtain ⟨V, hV⟩ : ∃ V, V = w.alloc (.cells t.cells 53) := ⟨_, rfl⟩
  have LB0 : Hid (Below w.heap.size w V) := by rw [hV]; exact Below_alloc1 _
  rw [← hV]
  clear hV
  refine (labelOf t.pool t.drive t.drives t.parity t.time t.addr t.count t.bytes t.a t.b t.c t.d V).mono ?_
  rintro e w1 ⟨y, rfl, hm, ha, hb, hc, hd, hB⟩
  have hy := lab_ok hok hm ha hb hc hd
  have LB1 : Hid (Below w.heap.size w w1) := stepB LB0.out (Nat.le_refl _) hB
  have HM := Lib.hid hm
  clear ha hb hc hd hB LB0 hm
  go_wp2_with fail
  refine (encode y w1 HM hy).mono ?_
  rintro e w3 ⟨ge, rfl, hge, hbe, hle⟩
  have LB3 := Lib.hid (stepB LB1.out (Nat.le_refl _) hle.out)
  have hrow := room_row hbe.out (by rw [encB_length]; omega) (encB_bytes y)
  rw [encB_length] at hrow
  have R3 := Lib.hid hrow
  clear hle hbe hrow hge LB1
  obtain ⟨X, hX⟩ : ∃ X, Hid (encB y = X) := ⟨_, rfl⟩
  rw [hX.out] at R3
  have XL : Hid (X.length = 128) := by show _ = _; rw [← hX.out, encB_length]
  have XB : Hid (Bytes X) := by rw [← hX.out]; exact encB_Bytes y
  go_wp2_with (at_builtin; refine wpList_append_any rfl (.const (.slice none 0 0)) (.tmp 27) 59 rfl w3.heap.size 5 _ 1 1 Try.underlying59 info_byte rfl (by decide) none 0 0 [] rfl (Own.nil _ _ _ _) (some ⟨ge, 0, none⟩) 128 128 (X.map (.int .u8)) rfl R3.out.toV (one_bytes _) (by unfold maxLen; omega) (by omega) (Nat.le_refl _) ?_)
  intro a1 c1 w4 ho hg
  have hle4 : Below w3.heap.size w3 w4 := Own.grown (Own.nil w3 w3.heap.size 5 1) (Below.refl _ _) (Nat.le_refl _) (Nat.le_refl _) hg
  have ho' : Own w4 w3.heap.size 5 1 a1 128 c1 (X.map (.int .u8)) := by simpa using ho
  have hform := ho'.form
  have hgx : ∃ g, a1 = some ⟨g, 0, none⟩ ∧ w3.heap.size ≤ g := by
    rcases hform with ⟨_, h0'', _⟩ | ⟨g, cur, hg, hbg, _⟩
    · omega
    · exact ⟨g, hg, hbg⟩
  obtain ⟨g, rfl, hgb⟩ := hgx
  have HO := Lib.hid ho'
  have HL4 := Lib.hid hle4
  clear ho ho' hg hform hle4
  go_wp2_with fail
  refine (picked _ _ _ (by omega) (by omega)).mono ?_
  rintro e w' ⟨r, hr, hr0, hr1, rfl, rfl⟩
  obtain ⟨k, rfl⟩ := Int.eq_ofNat_of_zero_le hr0
  clear hr hr0
  have hk4 : k < 32 := by omega
  go_wp2_with fail
  go_loopw [11] (fun v wr => ∃ (m : Nat) (Y : List Int), m ≤ 4 ∧ v = .int .i64 m ∧ Hid (Y.length = X.length ∧ Bytes Y ∧ (∀ j, j < 4 * k → X.getD j 0 = Y.getD j 0) ∧ (∀ j, 4 * k + 4 ≤ j → X.getD j 0 = Y.getD j 0)) ∧
    Hid (Own wr w3.heap.size 5 1 (some ⟨g, 0, none⟩) 128 c1 (Y.map (.int .u8))) ∧ Hid (Below w3.heap.size w3 wr)) (fun v _ => 4 - (intOf v).toNat)
  case atStart => exact ⟨0, X, by omega, rfl, ⟨rfl, XB.out, fun _ _ => rfl, fun _ _ => rfl⟩, HO, HL4⟩
  case round =>
    obtain ⟨m, Y, hm, rfl, hY, hOY, hbr⟩ := hrel
    have hYl : Y.length = 128 := by rw [hY.out.1, XL.out]
    by_cases hlt : m < 4 ∧ m < lenb
    · obtain ⟨hlt, hlb⟩ := hlt
      rcases RB.out.hat with h0'' | ⟨b1, o1, rfl, hc1⟩
      · omega
      have e1 := hc1 m hlb
      have hblk : b1 < w.heap.size := World.block_lt_of_cell? _ _ e1
      have e1' : wr.cell? ⟨b1, o1 + m, none⟩ = some (.int .u8 (ys.getD m 0)) := ((hbr.out.cell (p := ⟨b1, o1 + m, none⟩) (by show b1 < _; have := LB3.out.size; omega)).trans (LB3.out.cell (p := ⟨b1, o1 + m, none⟩) hblk)).trans e1
      obtain ⟨v, hv⟩ : ∃ v, Hid (ys.getD m 0 = v) := ⟨_, rfl⟩
      rw [hv.out] at e1'
      have hvb : 0 ≤ v ∧ v ≤ 255 := by rw [← hv.out]; exact RB.out.byte m
      obtain ⟨u, hu⟩ : ∃ u, Hid (Y.getD (4 * k + m) 0 = u) := ⟨_, rfl⟩
      have hub : 0 ≤ u ∧ u ≤ 255 := by rw [← hu.out]; exact (hY.out.2.1).getD _
      have e2 : wr.cell? ⟨g, 4 * k + m, none⟩ = some (.int .u8 u) := by
        rw [World.ownsRow.cellAt hOY.out (4 * k + m) (by omega), ← hu.out]
        simp [List.getD, List.getElem?_eq_getElem (show 4 * k + m < Y.length by omega)]
      have f2 : wr.frozen? ⟨g, 4 * k + m, none⟩ = false := World.ownsRow.frozenAt hOY.out _
      have hst := World.ownsRow.stored hOY.out (4 * k + m) (.int .u8 (bits .xor .u8 u v))
      rw [← List.map_set] at hst
      have HST := Lib.hid hst
      have HYL := Lib.hid hYl
      have hxr := xor_range8 hub hvb
      have hgr := hbr.out.size
      clear hst hYl e1 hc1
      have i1 : (m : Int) < (lenb : Int) := by omega
      have i2 : 4 * (k : Int) + (m : Int) < 128 := by omega
      go_wp2
      go_region
      go_wp2
      go_roundw
      case rel =>
        refine ⟨m + 1, Y.set (4 * k + m) (bits .xor .u8 u v), by omega, by go_num, ⟨by rw [List.length_set]; exact hY.out.1, ?_, ?_, ?_⟩, HST.out.1, (hbr.out.setCell (p := ⟨g, 4 * k + m, none⟩) (show w3.heap.size ≤ g by omega) _).drew⟩
        · intro x hx
          rcases List.mem_or_eq_of_mem_set hx with h | h
          · exact hY.out.2.1 x h
          · rw [h]; exact hxr
        · intro j hj
          rw [hY.out.2.2.1 j hj]
          simp [List.getD, show ¬ 4 * k + m = j by omega]
        · intro j hj
          rw [hY.out.2.2.2 j hj]
          simp [List.getD, show ¬ 4 * k + m = j by omega]
      case measure => simp [intOf]; omega
    · have hends : (¬ m < 4) ∨ (m < 4 ∧ ¬ m < lenb) := by omega
      clear hlt
      have HYL := Lib.hid hYl
      have YR := Lib.hid (hOY.out.row.toRow (wf_bytes hY.out.2.1))
      clear hYl
      have hdec : (X = Y ∧ dec Y = (y, 0)) ∨ (X ≠ Y ∧ dec Y = (Lab.none, 11)) := by
        by_cases h : X = Y
        · left; exact ⟨h, by rw [← h, ← hX.out]; exact dec_enc y HM.out hy⟩
        · right
          have hX' := hX.out
          subst hX'
          exact ⟨h, dec_touched y Y HYL.out hY.out.2.1 k hk4 hY.out.2.2.1 hY.out.2.2.2 h⟩
      have HD := Lib.hid hdec
      have LBR : Hid (Below w.heap.size w wr) := LB3.out.trans (hbr.out.mono LB3.out.size)
      have XR : Hid (Row .u8 wr (some ⟨ge, 0, none⟩) 128 128 X) := R3.out.below hbr.out
      clear hdec hbr hOY HL4 HO R3
      rcases hends with hn | ⟨hn1, hn2⟩
      all_goals
        go_wp2_with fail
        refine (decode_any _ _ _ Y wr YR.out).mono ?_
        rintro e w5 ⟨rfl, hle⟩
        have LB5 := Lib.hid (stepB LBR.out (Nat.le_refl _) hle)
        have XR5 := Lib.hid (XR.out.below hle)
        have YR5 := Lib.hid (YR.out.below hle)
        clear hle LBR XR YR
        rcases HD.out with ⟨hxy, hdy⟩ | ⟨hxy, hdy⟩
        · rw [hdy]
          have hq : decide (X = Y) = true := decide_eq_true hxy
          have HXY := Lib.hid hxy
          clear hxy hdy HD
          go_wp2_with (refine wpList_store_box rfl 57 (.tmp 12) (.tmp 57) rfl w5.heap.size y.cells rfl rfl 57 _ (Box.new rfl) (by kernel_rfl) rfl rfl ?_)
          intro w6 hb6 hg6
          have hw5 := LB5.out.size
          have LB6 : Hid (Below w.heap.size w w6) := stepG (LB5.out.alloc hw5 _) (Nat.le_refl _) hg6 hw5
          have XR6 := Lib.hid (XR5.out.below (stepG (Below_alloc1 _) (Nat.le_refl _) hg6 (Nat.le_refl _)))
          have YR6 := Lib.hid (YR5.out.below (stepG (Below_alloc1 _) (Nat.le_refl _) hg6 (Nat.le_refl _)))
          clear hb6 hg6 LB5 XR5 YR5
          go_wp2_with fail
          refine (sameBytes _ _ _ X _ _ _ Y w6 XR6.out YR6.out).mono ?_
          rintro e w7 ⟨rfl, kd, rfl⟩
          have LB7 := Lib.hid (below_drewN LB6.out kd)
          rw [hq]
          clear XR6 YR6 hq
          go_wp2_with fail
          go_ret
          exact ⟨rfl, LB7.out⟩
        · rw [hdy]
          have hq : decide (X = Y) = false := decide_eq_false hxy
          have HXY := Lib.hid hxy
          clear hxy hdy HD
          go_wp2_with (refine wpList_store_box rfl 57 (.tmp 12) (.tmp 57) rfl w5.heap.size Lab.none.cells rfl rfl 57 _ (Box.new rfl) (by kernel_rfl) rfl rfl ?_)
          intro w6 hb6 hg6
          have hw5 := LB5.out.size
          have LB6 : Hid (Below w.heap.size w w6) := stepG (LB5.out.alloc hw5 _) (Nat.le_refl _) hg6 hw5
          have XR6 := Lib.hid (XR5.out.below (stepG (Below_alloc1 _) (Nat.le_refl _) hg6 (Nat.le_refl _)))
          have YR6 := Lib.hid (YR5.out.below (stepG (Below_alloc1 _) (Nat.le_refl _) hg6 (Nat.le_refl _)))
          have B6 := Lib.hid hb6
          obtain ⟨gn, hgn⟩ : ∃ g, w5.heap.size = g := ⟨_, rfl⟩
          rw [hgn] at hw5 B6 ⊢
          clear hb6 hg6 LB5 XR5 YR5 hgn
          go_wp2_with fail
          refine (sameBytes _ _ _ X _ _ _ Y w6 XR6.out YR6.out).mono ?_
          rintro e w7 ⟨rfl, kd, rfl⟩
          have LB7 := Lib.hid (below_drewN LB6.out kd)
          have B7 := Lib.hid (B6.out.drewN kd)
          rw [hq]
          clear XR6 YR6 hq B6
          have qE := eql_lab Lab.none
          have qG : ∀ (w : World) (a b : Operand), (eqGuard .eql 57 a b (.agg Lab.none.cells) (.agg Lab.none.cells)).run Try.prog w = .ok () w := fun w a b => run_eqGuard_agg w _ _ _ _ _ _ (by kernel_rfl)
          simp only [Lab.cells, Lab.none] at qE qG
          go_wp2_with (first | (refine wpList_load_box_w (by first | rfl | simp [Region.wanted, yielded]) 57 (.tmp 12) rfl gn rfl 57 #[.int .i64 0, .int .i64 0, .int .i64 0, .int .i64 0, .int .i64 0, .int .i64 0, .int .i64 0, .int .i64 0, .int .i64 0, .int .i64 0, .int .i64 0, .int .i64 0, .int .i64 0] B7.out _ Try.underlying57 rfl (by kernel_rfl) ?_))
          go_ret
          exact ⟨rfl, LB7.out⟩
theorem labelTouchedSaid (cs : Array Value) (x : Tag) (at_ : Int) (b : Option Addr) (lenb capb : Nat) (ys : List Int) (w : World) {F : Nat → Prop} (h : tagL.at_ w F x cs.toList) (hb : Row .u8 w b lenb capb ys) :
    Calls Try.prog 9 #[.agg cs, .int .i64 at_, .slice b lenb capb] w fun e w' => e = .returned (.bool true) ∧ Below w.heap.size w w' := by
  rw [(tag_cells h).1]
  exact labelTouched x at_ b lenb capb ys w (tag_cells h).2 hb
end Go.Proofs.Yteidmdakglkkfaa
