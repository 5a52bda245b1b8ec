/- The law FletChanged, walked. -/
import Derived.Test.YtjnheahhlopbfaaFletS
import Derived.Test.YtjnheahhlopbfaaFletR
namespace Go.Proofs.Ytjnheahhlopbfaa
open Go.RowKit
set_option linter.unusedVariables false

theorem bytes_of_row {w : World} {a : Option Addr} {len cap : Nat} {xs : List Int} (h : Row .u8 w a len cap xs) : Bytes xs := fun x hx => byte_range (h.hwf x hx)
theorem wf_of_bytes {xs : List Int} (h : Bytes xs) : ∀ x ∈ xs, (Lit.int .u8 x).wf = true := fun x hx => WalkArith.wf_u8 (h x hx)
theorem Bytes.take {xs : List Int} (h : Bytes xs) (n : Nat) : Bytes (xs.take n) := fun x hx => h x (List.mem_of_mem_take hx)
theorem u8_xor_range {a b : Int} (ha : 0 ≤ a ∧ a ≤ 255) (hb : 0 ≤ b ∧ b ≤ 255) : 0 ≤ bits .xor .u8 a b ∧ bits .xor .u8 a b ≤ 255 := by
  rw [u8_xor a b ha.1 (by omega) hb.1 (by omega)]
  have : a.toNat ^^^ b.toNat < 2 ^ 8 := Nat.xor_lt_two_pow (by omega) (by omega)
  omega
theorem whole_le (n : Nat) : wholeTo n 400 ≤ n ∧ wholeTo n 400 ≤ 400 ∧ wholeTo n 400 % 4 = 0 := by unfold wholeTo; omega

/-- what the last statement reads: two sums in their boxes -/
def TwoSums (V : World) (gs gt : Nat) (sa sb sc sd ta tb tc td : Int) (w : World) : Prop :=
  Below V.heap.size V w ∧ w.cell? ⟨gs, 0, none⟩ = some (.int .i64 sa) ∧ w.cell? ⟨gs, 1, none⟩ = some (.int .i64 sb) ∧ w.cell? ⟨gs, 2, none⟩ = some (.int .i64 sc) ∧ w.cell? ⟨gs, 3, none⟩ = some (.int .i64 sd) ∧
    w.cell? ⟨gt, 0, none⟩ = some (.int .i64 ta) ∧ w.cell? ⟨gt, 1, none⟩ = some (.int .i64 tb) ∧ w.cell? ⟨gt, 2, none⟩ = some (.int .i64 tc) ∧ w.cell? ⟨gt, 3, none⟩ = some (.int .i64 td)
theorem TwoSums.next {V : World} {gs gt : Nat} {sa sb sc sd ta tb tc td : Int} {w w' : World} (h : TwoSums V gs gt sa sb sc sd ta tb tc td w) (hb : Below w.heap.size w w') : TwoSums V gs gt sa sb sc sd ta tb tc td w' := by
  obtain ⟨h0, h1, h2, h3, h4, h5, h6, h7, h8⟩ := h
  have k : ∀ {a : Addr} {v : Value}, w.cell? a = some v → w'.cell? a = some v := fun h => (hb.cell (World.block_lt_of_cell? _ _ h)).trans h
  exact ⟨h0.trans (hb.mono h0.size), k h1, k h2, k h3, k h4, k h5, k h6, k h7, k h8⟩
theorem sure_keeps {V : World} {gs gt : Nat} {sa sb sc sd ta tb tc td : Int} (w : World) (h : TwoSums V gs gt sa sb sc sd ta tb tc td w) :
    Calls Try.prog 20 #[] w fun e w' => e = .returned (.bool true) ∧ TwoSums V gs gt sa sb sc sd ta tb tc td w' :=
  (sure w).mono fun _ _ ⟨he, hb⟩ => ⟨he, h.next hb⟩

set_option maxHeartbeats 2000000 in
theorem fletChanged (a : Option Addr) (len cap : Nat) (zs : List Int) (at_ : Int) (b : Option Addr) (lenb capb : Nat) (ys : List Int) (w : World) (ha : Row .u8 w a len cap zs) (hb : Row .u8 w b lenb capb ys) :
    Calls Try.prog 7 #[.slice a len cap, .int .i64 at_, .slice b lenb capb] w fun e w' => e = .returned (.bool true) ∧ Below w.heap.size w w' := by
  have hwl := whole_le len
  have hlz := ha.hlen
  obtain ⟨X, hX⟩ : ∃ X, Hid (zs.take (wholeTo len 400) = X) := ⟨_, rfl⟩
  have hXl : X.length = wholeTo len 400 := by rw [← hX.out, List.length_take]; omega
  have hXb : Bytes X := by rw [← hX.out]; exact (bytes_of_row ha).take _
  go_enter Try.func7, Try.ntmps7
  go_wp2_with fail
  refine (words_copy a len cap zs w ha).mono ?_
  rintro e w1 ⟨ax, lx, cx, rfl, hox, hb1⟩
  rw [hX.out] at hox
  have hlx : lx = wholeTo len 400 := by have := hox.1; rw [List.length_map, hXl] at this; omega
  have HOX := Lib.hid hox
  have HXL := Lib.hid hXl
  have HXB := Lib.hid hXb
  have HLX := Lib.hid hlx
  have l1 : lx ≤ 400 := by omega
  have l2 : lx % 4 = 0 := by rw [hlx]; exact hwl.2.2
  have L2 := Lib.hid l2
  clear hox hXl hXb hlx hwl hlz l2
  by_cases h0 : lx = 0
  · have h0' : ((lx : Int) == 0) = true := by simp [h0]
    clear h0
    go_wp2_with fail
    refine (sure _).mono ?_
    rintro e w2 ⟨rfl, hb2⟩
    go_wp2_with fail
    go_ret
    exact ⟨rfl, Below_next hb1 hb2⟩
  · have h0' : ((lx : Int) == 0) = false := by simp [h0]
    have hone : ∀ u ∈ X.map (Value.int .u8), u.oneCell' = true := fun u hu => by obtain ⟨x, _, rfl⟩ := List.mem_map.1 hu; rfl
    have HONE := Lib.hid hone
    clear hone
    go_wp2_with (at_builtin; refine wpList_append_any rfl (.const (.slice none 0 0)) (.tmp 21) 37 rfl w1.heap.size 5 _ 1 1 Try.underlying37 info_u8 rfl (by decide) none 0 0 [] rfl (Own.nil _ _ _ _) ax lx cx (X.map (.int .u8)) rfl HOX.out.row HONE.out (by unfold maxLen; omega) (by omega) (Nat.le_refl _) ?_)
    intro ay cy w2 hoy hg2
    have hb2 : Below w1.heap.size w1 w2 := Own.grown (Own.nil w1 w1.heap.size 5 1) (Below.refl _ _) (Nat.le_refl _) (Nat.le_refl _) hg2
    have hoy' : Own w2 w1.heap.size 5 1 ay lx cy (X.map (.int .u8)) := by simpa using hoy
    have HOY := Lib.hid hoy'
    clear hoy hoy' hg2
    have h04 : 0 < lx / 4 := by have := L2.out; omega
    have l3 : (lx : Int) / 4 ≤ 100 := by omega
    have l4 : (0 : Int) < (lx : Int) / 4 := by omega
    go_wp2_with fail
    refine (picked _ _ _ (by omega) (by omega)).mono ?_
    rintro e w' ⟨r, hr, hr0, hr1, rfl, rfl⟩
    obtain ⟨k, rfl⟩ := Int.eq_ofNat_of_zero_le hr0
    clear hr hr0
    have hk4 : 4 * k + 4 ≤ lx := by omega
    have hform := HOY.out.form
    have hg : ∃ g, ay = some ⟨g, 0, none⟩ ∧ w1.heap.size ≤ g := by
      rcases hform with ⟨_, h0'', _⟩ | ⟨g, cur, hg, hbg, _⟩
      · omega
      · exact ⟨g, hg, hbg⟩
    obtain ⟨g, rfl, hgb⟩ := hg
    clear hform
    have hb12 := Below_next hb1 hb2
    go_wp2_with fail
    go_loopw [10] (fun v wr => ∃ (m : Nat) (Y : List Int), m ≤ 4 ∧ v = .int .i64 m ∧ Hid (Y.length = X.length ∧ Bytes Y ∧ (∀ j, j < 4 * k → X.getD j 0 = Y.getD j 0) ∧ (∀ j, 4 * k + 4 ≤ j → X.getD j 0 = Y.getD j 0)) ∧
      Hid (Own wr w1.heap.size 5 1 (some ⟨g, 0, none⟩) lx cy (Y.map (.int .u8))) ∧ Below w1.heap.size w1 wr) (fun v _ => 4 - (intOf v).toNat)
    case atStart => exact ⟨0, X, by omega, rfl, ⟨rfl, HXB.out, fun _ _ => rfl, fun _ _ => rfl⟩, HOY.out, hb2⟩
    case round =>
      obtain ⟨m, Y, hm, rfl, hY, hOY, hbr⟩ := hrel
      by_cases hlt : m < 4 ∧ m < lenb
      · obtain ⟨hlt, hlb⟩ := hlt
        rcases hb.hat with h0'' | ⟨b1, o1, rfl, hc1⟩
        · omega
        have e1 := hc1 m hlb
        have hblk : b1 < w.heap.size := World.block_lt_of_cell? _ _ e1
        have e1' : wr.cell? ⟨b1, o1 + m, none⟩ = some (.int .u8 (ys.getD m 0)) := ((hbr.cell (p := ⟨b1, o1 + m, none⟩) (by show b1 < _; have := hb1.size; omega)).trans (hb1.cell (p := ⟨b1, o1 + m, none⟩) hblk)).trans e1
        obtain ⟨v, hv⟩ : ∃ v, Hid (ys.getD m 0 = v) := ⟨_, rfl⟩
        rw [hv.out] at e1'
        have hvb : 0 ≤ v ∧ v ≤ 255 := by rw [← hv.out]; exact hb.byte m
        obtain ⟨u, hu⟩ : ∃ u, Hid (Y.getD (4 * k + m) 0 = u) := ⟨_, rfl⟩
        have hub : 0 ≤ u ∧ u ≤ 255 := by rw [← hu.out]; exact (hY.out.2.1).getD _
        have hYl : Y.length = lx := by rw [hY.out.1, HXL.out, HLX.out]
        have e2 : wr.cell? ⟨g, 4 * k + m, none⟩ = some (.int .u8 u) := by
          rw [World.ownsRow.cellAt hOY.out (4 * k + m) (by omega), ← hu.out]
          simp [List.getD, List.getElem?_eq_getElem (show 4 * k + m < Y.length by omega)]
        have f2 : wr.frozen? ⟨g, 4 * k + m, none⟩ = false := World.ownsRow.frozenAt hOY.out _
        have hst := World.ownsRow.stored hOY.out (4 * k + m) (.int .u8 (bits .xor .u8 u v))
        rw [← List.map_set] at hst
        have HST := Lib.hid hst
        have HYL := Lib.hid hYl
        have hxr := u8_xor_range hub hvb
        have hgr := hbr.size
        clear hst hYl e1 hc1
        have i1 : (m : Int) < (lenb : Int) := by omega
        have i2 : 4 * (k : Int) + (m : Int) < (lx : Int) := by omega
        go_wp2
        go_region
        go_wp2
        go_roundw
        case rel =>
          refine ⟨m + 1, Y.set (4 * k + m) (bits .xor .u8 u v), by omega, by go_num, ⟨by rw [List.length_set]; exact hY.out.1, ?_, ?_, ?_⟩, HST.out.1, (hbr.setCell (p := ⟨g, 4 * k + m, none⟩) (show w1.heap.size ≤ g by omega) _).drew⟩
          · intro x hx
            rcases List.mem_or_eq_of_mem_set hx with h | h
            · exact hY.out.2.1 x h
            · rw [h]; exact hxr
          · intro j hj
            rw [hY.out.2.2.1 j hj]
            simp [List.getD, show ¬ 4 * k + m = j by omega]
          · intro j hj
            rw [hY.out.2.2.2 j hj]
            simp [List.getD, show ¬ 4 * k + m = j by omega]
        case measure => simp [intOf]; omega
      · have hends : (¬ m < 4) ∨ (m < 4 ∧ ¬ m < lenb) := by omega
        clear hlt
        have hgr := hbr.size
        rcases hends with hn | ⟨hn1, hn2⟩
        all_goals
          go_wp2_with fail
          refine (of_bytes _ _ _ X _ ((Own.below HOX.out (hbr)).row.toRow (wf_of_bytes HXB.out)) L2.out).mono ?_
          rintro e w3 ⟨sa, sb, sc, sd, hs, rfl, hb3⟩
          have hoy3 : Own (w3.alloc (.cells #[.int .i64 sa, .int .i64 sb, .int .i64 sc, .int .i64 sd] 41)) w1.heap.size 5 1 (some ⟨g, 0, none⟩) lx cy (Y.map (.int .u8)) := (Own.below hOY.out hb3).alloc _
          have HOY3 := Lib.hid hoy3
          clear hoy3
          go_wp2_with fail
          refine (of_bytes _ _ _ Y _ (HOY3.out.row.toRow (wf_of_bytes hY.out.2.1)) L2.out).mono ?_
          rintro e w4 ⟨ta, tb, tc, td, ht, rfl, hb4⟩
          have hsx : Hid (Box w4 w3.heap.size #[.int .i64 sa, .int .i64 sb, .int .i64 sc, .int .i64 sd] 41) := Box.below (Box.new rfl) hb4 (by simp)
          have hb34 : Below wr.heap.size wr w4 := (hb3.alloc hb3.size _).trans (hb4.mono (by simp; exact Nat.le_succ_of_le hb3.size))
          go_wp2_with fail
          have hV : ∃ V, V = w4.alloc (.cells #[.int .i64 ta, .int .i64 tb, .int .i64 tc, .int .i64 td] 41) := ⟨_, rfl⟩
          obtain ⟨V, hV⟩ := hV
          rw [← hV]
          have hBs : Box V w3.heap.size #[.int .i64 sa, .int .i64 sb, .int .i64 sc, .int .i64 sd] 41 := by rw [hV]; exact hsx.out.alloc _
          have hBt : Box V w4.heap.size #[.int .i64 ta, .int .i64 tb, .int .i64 tc, .int .i64 td] 41 := by rw [hV]; exact Box.new rfl
          have hbV : Below wr.heap.size wr V := by rw [hV]; exact hb34.alloc hb34.size _
          have HRX : Hid (Row .u8 V ax lx cx X) := ((Own.below HOX.out hbr).row.toRow (wf_of_bytes HXB.out)).below hbV
          have HRY : Hid (Row .u8 V (some ⟨g, 0, none⟩) lx cy Y) := (hOY.out.row.toRow (wf_of_bytes hY.out.2.1)).below hbV
          obtain ⟨gs, hgs⟩ : ∃ gs, Hid (w3.heap.size = gs) := ⟨_, rfl⟩
          obtain ⟨gt, hgt⟩ : ∃ gt, Hid (w4.heap.size = gt) := ⟨_, rfl⟩
          rw [hgs.out] at hBs
          rw [hgt.out] at hBt
          rw [hgs.out, hgt.out]
          have c0 : V.cell? ⟨gs, 0, none⟩ = some (.int .i64 sa) := hBs.cell 0
          have c1 : V.cell? ⟨gs, 1, none⟩ = some (.int .i64 sb) := hBs.cell 1
          have c2 : V.cell? ⟨gs, 2, none⟩ = some (.int .i64 sc) := hBs.cell 2
          have c3 : V.cell? ⟨gs, 3, none⟩ = some (.int .i64 sd) := hBs.cell 3
          have d0 : V.cell? ⟨gt, 0, none⟩ = some (.int .i64 ta) := hBt.cell 0
          have d1 : V.cell? ⟨gt, 1, none⟩ = some (.int .i64 tb) := hBt.cell 1
          have d2 : V.cell? ⟨gt, 2, none⟩ = some (.int .i64 tc) := hBt.cell 2
          have d3 : V.cell? ⟨gt, 3, none⟩ = some (.int .i64 td) := hBt.cell 3
          have hbW : Below w.heap.size w V := (hb1.trans (hbr.mono hb1.size)).trans (hbV.mono (Nat.le_trans hb1.size hgr))
          have HBW := Lib.hid hbW
          have hB0 : Below V.heap.size V V.drew := (Below.refl _ _).drew
          clear hV hBs hBt hsx hb3 hb4 hb34 hbV hbW
          have hdec : (X = Y ∧ sa = ta ∧ sb = tb ∧ sc = tc ∧ sd = td) ∨ (¬ X = Y ∧ ¬ sa = ta) := by
            by_cases h : X = Y
            · left
              have e : (⟨sa, sb, sc, sd⟩ : Four) = ⟨ta, tb, tc, td⟩ := by rw [← hs.out, ← ht.out, h]
              exact ⟨h, by simpa using e⟩
            · right
              refine ⟨h, fun e => h (changed_a hY.out.1.symm (by rw [HXL.out, ← HLX.out]; exact L2.out) HXB.out hY.out.2.1 k (by rw [HXL.out, ← HLX.out]; exact hk4) hY.out.2.2.1 hY.out.2.2.2 (by rw [hs.out, ht.out]; exact e))⟩
          rcases hdec with ⟨hXY, h1, h2, h3, h4⟩ | ⟨hXY, h1⟩
          · have hd : decide (X = Y) = true := decide_eq_true hXY
            subst h1 h2 h3 h4
            have HXY := Lib.hid hXY
            clear hXY
            go_region_held3 (fun w' => Below V.heap.size V w' ∧ w'.cell? ⟨gs, 0, none⟩ = some (.int .i64 sa) ∧ w'.cell? ⟨gs, 1, none⟩ = some (.int .i64 sb) ∧ w'.cell? ⟨gs, 2, none⟩ = some (.int .i64 sc) ∧ w'.cell? ⟨gs, 3, none⟩ = some (.int .i64 sd) ∧ w'.cell? ⟨gt, 0, none⟩ = some (.int .i64 sa) ∧ w'.cell? ⟨gt, 1, none⟩ = some (.int .i64 sb) ∧ w'.cell? ⟨gt, 2, none⟩ = some (.int .i64 sc) ∧ w'.cell? ⟨gt, 3, none⟩ = some (.int .i64 sd))
              (first | exact hS2 | exact ⟨below_drewN hS2.1 _, hS2.2⟩ | exact ⟨hB0, c0, c1, c2, c3, d0, d1, d2, d3⟩ | (go_keep; done))
              (first
                | (go_at_call 20; refine (sure_keeps (V := V) (gs := gs) (gt := gt) (sa := sa) (sb := sb) (sc := sc) (sd := sd) (ta := sa) (tb := sb) (tc := sc) (td := sd) _ ?_).mono ?_; (exact ⟨hB0, c0, c1, c2, c3, d0, d1, d2, d3⟩); rintro e w' ⟨rfl, hS2⟩)
                | (go_at_call 22; refine (sameBytes _ _ _ X _ _ _ Y _ (HRX.out.below ?_) (HRY.out.below ?_)).mono ?_; exact hS2.1; exact hS2.1; rintro e w' ⟨rfl, k9, rfl⟩))
            all_goals go_wp2
            all_goals go_ret
            all_goals exact ⟨rfl, HBW.out.trans ((below_drewN hS2.1 _).mono HBW.out.size)⟩
          · have hd : decide (X = Y) = false := decide_eq_false hXY
            have hq : (sa == ta) = false := by simp [h1]
            have HXY := Lib.hid hXY
            clear hXY h1
            go_region_held3 (fun w' => Below V.heap.size V w' ∧ w'.cell? ⟨gs, 0, none⟩ = some (.int .i64 sa) ∧ w'.cell? ⟨gs, 1, none⟩ = some (.int .i64 sb) ∧ w'.cell? ⟨gs, 2, none⟩ = some (.int .i64 sc) ∧ w'.cell? ⟨gs, 3, none⟩ = some (.int .i64 sd) ∧ w'.cell? ⟨gt, 0, none⟩ = some (.int .i64 ta) ∧ w'.cell? ⟨gt, 1, none⟩ = some (.int .i64 tb) ∧ w'.cell? ⟨gt, 2, none⟩ = some (.int .i64 tc) ∧ w'.cell? ⟨gt, 3, none⟩ = some (.int .i64 td))
              (first | exact hS2 | exact ⟨below_drewN hS2.1 _, hS2.2⟩ | exact ⟨hB0, c0, c1, c2, c3, d0, d1, d2, d3⟩ | (go_keep; done))
              (first
                | (go_at_call 20; refine (sure_keeps (V := V) (gs := gs) (gt := gt) (sa := sa) (sb := sb) (sc := sc) (sd := sd) (ta := ta) (tb := tb) (tc := tc) (td := td) _ ?_).mono ?_; (exact ⟨hB0, c0, c1, c2, c3, d0, d1, d2, d3⟩); rintro e w' ⟨rfl, hS2⟩)
                | (go_at_call 22; refine (sameBytes _ _ _ X _ _ _ Y _ (HRX.out.below ?_) (HRY.out.below ?_)).mono ?_; exact hS2.1; exact hS2.1; rintro e w' ⟨rfl, k9, rfl⟩))
            all_goals go_wp2
            all_goals go_ret
            all_goals exact ⟨rfl, HBW.out.trans ((below_drewN hS2.1 _).mono HBW.out.size)⟩
end Go.Proofs.Ytjnheahhlopbfaa
