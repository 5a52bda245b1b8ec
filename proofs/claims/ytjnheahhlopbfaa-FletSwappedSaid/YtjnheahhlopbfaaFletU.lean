/- The law FletSwapped, walked. -/
import Derived.Test.YtjnheahhlopbfaaFletT
import Derived.Test.YtjnheahhlopbfaaFletV
import Derived.Test.YtjnheahhlopbfaaOwnStep
namespace Go.Proofs.Ytjnheahhlopbfaa
open Go.RowKit
set_option linter.unusedVariables false

theorem Own.drew {w : World} {base : Nat} {e : TypeId} {size : Nat} {a : Option Addr} {len cap : Nat} {vs : List Value} (h : Own w base e size a len cap vs) : Own w.drew base e size a len cap vs := h
theorem VRow.drew {w : World} {size : Nat} {a : Option Addr} {len cap : Nat} {vs : List Value} (h : VRow w size a len cap vs) : VRow w.drew size a len cap vs := ⟨h.hlen, h.hle, h.hmax, h.hnil, h.hat⟩
set_option maxHeartbeats 4000000 in
theorem fletSwapped (a : Option Addr) (len cap : Nat) (zs : List Int) (at_ : Int) (w : World) (ha : Row .u8 w a len cap zs) :
    Calls Try.prog 8 #[.slice a len cap, .int .i64 at_] w fun e w' => e = .returned (.bool true) ∧ Below w.heap.size w w' := by
  have hwl := whole_le len
  have hlz := ha.hlen
  obtain ⟨X, hX⟩ : ∃ X, Hid (zs.take (wholeTo len 400) = X) := ⟨_, rfl⟩
  have hXl : X.length = wholeTo len 400 := by rw [← hX.out, List.length_take]; omega
  have hXb : Bytes X := by rw [← hX.out]; exact (bytes_of_row ha).take _
  go_enter Try.func8, Try.ntmps8
  go_wp2_with fail
  refine (words_copy a len cap zs w ha).mono ?_
  rintro e w1 ⟨ax, lx, cx, rfl, hox, hb1⟩
  rw [hX.out] at hox
  have hlx : lx = wholeTo len 400 := by have := hox.1; rw [List.length_map, hXl] at this; omega
  have HOX := Lib.hid hox
  have HXL : Hid (X.length = lx) := by rw [hlx]; exact hXl
  have HXB := Lib.hid hXb
  have l1 : lx ≤ 400 := by omega
  have l2 : lx % 4 = 0 := by rw [hlx]; exact hwl.2.2
  have L2 := Lib.hid l2
  clear hox hXl hXb hlx hwl hlz l2
  by_cases h0 : lx < 8
  · go_wp2_with fail
    refine (sure _).mono ?_
    rintro e w2 ⟨rfl, hb2⟩
    go_wp2_with fail
    go_ret
    exact ⟨rfl, Below_next hb1 hb2⟩
  · have hone : ∀ (l : List Int), ∀ u ∈ l.map (Value.int .u8), u.oneCell' = true := fun l u hu => by obtain ⟨x, _, rfl⟩ := List.mem_map.1 hu; rfl
    have HONE := Lib.hid hone
    clear hone
    have hform := HOX.out.form
    have hg : ∃ g, ax = some ⟨g, 0, none⟩ := by
      rcases hform with ⟨_, h0'', _⟩ | ⟨g, cur, hg, hbg, _⟩
      · omega
      · exact ⟨g, hg⟩
    obtain ⟨gx, rfl⟩ := hg
    have hcx : lx ≤ cx ∧ cx ≤ 9223372036854775807 := by
      have h1 := HOX.out.row.hle
      have h2 := HOX.out.row.hmax
      unfold maxLen at h2
      omega
    clear hform
    have h04 : 1 ≤ lx / 4 - 1 := by omega
    have h05 : (0 : Int) < (lx : Int) / 4 - 1 := by omega
    go_wp2_with fail
    refine (picked _ _ _ (by omega) (by omega)).mono ?_
    rintro e w' ⟨r, hr, hr0, hr1, rfl, rfl⟩
    obtain ⟨k, rfl⟩ := Int.eq_ofNat_of_zero_le hr0
    clear hr hr0
    have hk8 : 4 * k + 8 ≤ lx := by omega
    have hV0 : VRow w1 1 (some ⟨gx, 0, none⟩) (4 * k) cx ((X.take (4 * k)).map (.int .u8)) := by
      have := HOX.out.row.cut 0 (4 * k) (Nat.zero_le _) (by omega) (by omega)
      simpa [List.map_take] using this
    have HV0 := Lib.hid hV0
    clear hV0
    go_wp2_with (at_builtin; refine wpList_append_any rfl (.const (.slice none 0 0)) (.tmp 27) 37 rfl w1.heap.size 5 _ 1 1 Try.underlying37 info_u8 rfl (by decide) none 0 0 [] rfl (Own.nil _ _ _ _) (some ⟨gx, 0, none⟩) (4 * k) cx ((X.take (4 * k)).map (.int .u8)) rfl HV0.out (HONE.out _) (by unfold maxLen; omega) (by omega) (Nat.le_refl _) ?_)
    intro ay cy w2 hoy hg2
    have hb2 : Below w1.heap.size w1 w2 := Own.grown (Own.nil w1 w1.heap.size 5 1) (Below.refl _ _) (Nat.le_refl _) (Nat.le_refl _) hg2
    have hoy' : Own w2 w1.heap.size 5 1 ay (4 * k) cy ((X.take (4 * k)).map (.int .u8)) := by simpa [List.map_take] using hoy
    have HOY := Lib.hid hoy'
    clear hoy hoy' hg2 HV0
    have hrow2 : VRow w1 1 (some ⟨gx, 0, none⟩) lx cx (X.map (.int .u8)) := HOX.out.row
    have HV1 : Hid (VRow w1 1 (some ⟨gx, 4 * k + 4, none⟩) 4 (cx - (4 * k + 4)) (((X.drop (4 * k + 4)).take 4).map (.int .u8))) := by
      have := hrow2.cut (4 * k + 4) (4 * k + 8) (by omega) (by omega) (by omega)
      rw [show 4 * k + 8 - (4 * k + 4) = 4 by omega] at this
      simpa [List.map_take, List.map_drop, Hid] using this
    have HV2 : Hid (VRow w1 1 (some ⟨gx, 4 * k, none⟩) 4 (cx - 4 * k) (((X.drop (4 * k)).take 4).map (.int .u8))) := by
      have := hrow2.cut (4 * k) (4 * k + 4) (by omega) (by omega) (by omega)
      rw [show 4 * k + 4 - 4 * k = 4 by omega] at this
      simpa [List.map_take, List.map_drop, Hid] using this
    have HV3 : Hid (VRow w1 1 (if cx = 4 * k + 8 then some ⟨gx, 0, none⟩ else some ⟨gx, 4 * k + 8, none⟩) (lx - (4 * k + 8)) (cx - (4 * k + 8)) ((X.drop (4 * k + 8)).map (.int .u8))) := by
      have := hrow2.piece (4 * k + 8) lx (by omega) (Nat.le_refl _)
      have hl : ((X.map (Value.int .u8)).drop (4 * k + 8)).length = lx - (4 * k + 8) := by rw [List.length_drop, List.length_map, HXL.out]
      rw [Nat.mul_one, Nat.mul_one, List.take_of_length_le (by omega)] at this
      simpa [Addr.add, List.map_drop, Hid] using this
    clear hrow2
    go_wp2_with fail
    have hgr2 := hb2.size
    have hb2d : Below w1.heap.size w1 w2.drew := hb2.drew
    go_cut [7] (fun v7 wx => ∃ ay' cy', v7 = .slice ay' lx cy' ∧ Hid (Own wx w1.heap.size 5 1 ay' lx cy' ((swapped X (4 * k)).map (.int .u8))) ∧ Below w1.heap.size w1 wx)
    case first =>
      have s1 : IntKind.i64.wrap (4 * (k : Int) + 4) = 4 * (k : Int) + 4 := IntWalk.i64_in _ (by omega)
      have s2 : IntKind.i64.wrap (4 * (k : Int) + 8) = 4 * (k : Int) + 8 := IntWalk.i64_in _ (by omega)
      have s3 : (0 : Int) ≤ 4 * (k : Int) + 4 := by omega
      have s4 : (0 : Int) ≤ 4 * (k : Int) + 8 := by omega
      have s5 : (0 : Int) ≤ 4 * (k : Int) := by omega
      have s6 : 4 * (k : Int) + 8 ≤ (cx : Int) := by omega
      have s7 : 4 * (k : Int) + 4 ≤ 4 * (k : Int) + 8 := by omega
      have s8 : 4 * (k : Int) + 4 ≤ (cx : Int) := by omega
      have s9 : 4 * (k : Int) ≤ 4 * (k : Int) + 4 := by omega
      have t1 : (4 * (k : Int) + 4).toNat = 4 * k + 4 := by omega
      have t2 : (4 * (k : Int) + 8).toNat = 4 * k + 8 := by omega
      have t3 : (4 * (k : Int)).toNat = 4 * k := by omega
      have t4 : 4 * (k : Int) + 8 ≤ (lx : Int) := by omega
      have t5 : ¬ cx = 4 * k + 4 := by omega
      have t6 : ¬ cx = 4 * k := by omega
      have t7 : 4 * k + 8 - (4 * k + 4) = 4 := by omega
      have t8 : 4 * k + 4 - 4 * k = 4 := by omega
      go_region_law (first
        | (refine step_append_any rfl (.tmp 29) (.tmp 35) 37 rfl w1.heap.size 5 _ 1 1 Try.underlying37 info_u8 rfl (by decide) ay (4 * k) cy ((X.take (4 * k)).map (.int .u8)) (by simp [Act.eval, Act.put]) (Own.drew HOY.out) (some ⟨gx, 4 * k + 4, none⟩) 4 (cx - (4 * k + 4)) (((X.drop (4 * k + 4)).take 4).map (.int .u8)) (by simp [Act.eval, Act.put]) (HV1.out.below hb2d) (HONE.out _) (by unfold maxLen; omega) (by omega) hgr2 ?_; intro a3 c3 w3 hown3 hg3; have hb3 : Below w1.heap.size w1 w3 := Own.grown (Own.drew HOY.out) hb2d (Nat.le_refl _) hgr2 hg3; have hgr3 := hb3.size; have HOWN3 := Lib.hid hown3; clear hown3 hg3)
        | (refine step_append_any rfl (.tmp 36) (.tmp 41) 37 rfl w1.heap.size 5 _ 1 1 Try.underlying37 info_u8 rfl (by decide) a3 (4 * k + 4) c3 _ (by simp [Act.eval]) HOWN3.out (some ⟨gx, 4 * k, none⟩) 4 (cx - 4 * k) (((X.drop (4 * k)).take 4).map (.int .u8)) (by simp [Act.eval]) (HV2.out.below hb3) (HONE.out _) (by unfold maxLen; omega) (by omega) hgr3 ?_; intro a4 c4 w4 hown4 hg4; have hb4 : Below w1.heap.size w1 w4 := Own.grown HOWN3.out hb3 (Nat.le_refl _) hgr3 hg4; have hgr4 := hb4.size; have HOWN4 := Lib.hid hown4; clear hown4 hg4)
        | (refine step_append_any rfl (.tmp 42) (.tmp 46) 37 rfl w1.heap.size 5 _ 1 1 Try.underlying37 info_u8 rfl (by decide) a4 (4 * k + 4 + 4) c4 _ (by simp [Act.eval]) HOWN4.out (if cx = 4 * k + 8 then some ⟨gx, 0, none⟩ else some ⟨gx, 4 * k + 8, none⟩) (lx - (4 * k + 8)) (cx - (4 * k + 8)) ((X.drop (4 * k + 8)).map (.int .u8)) (by simp [Act.eval]) (HV3.out.below hb4) (HONE.out _) (by unfold maxLen; omega) (by omega) hgr4 ?_; intro a5 c5 w5 hown5 hg5; have hb5 : Below w1.heap.size w1 w5 := Own.grown HOWN4.out hb4 (Nat.le_refl _) hgr4 hg5; have HOWN5 := Lib.hid hown5; clear hown5 hg5))
      simp only [Exit.then]
      apply_assumption
      go_meet
      have elen : 4 * k + 4 + 4 + (lx - (4 * k + 8)) = lx := by omega
      refine ⟨a5, c5, rfl, ?_, hb5⟩
      have := HOWN5.out
      rw [elen] at this
      simpa [swapped, Hid] using this
    case rest =>
      obtain ⟨ay', cy', rfl, hOY, hbr⟩ := hcut
      obtain ⟨Y, HY⟩ : ∃ Y, Hid (swapped X (4 * k) = Y) := ⟨_, rfl⟩
      rw [HY.out] at hOY
      have HYB : Hid (Bytes Y) := by
        rw [← HY.out]
        intro x hx
        simp only [swapped, List.mem_append] at hx
        rcases hx with h | h | h | h
        · exact HXB.out x (List.mem_of_mem_take h)
        · exact HXB.out x (List.mem_of_mem_drop (List.mem_of_mem_take h))
        · exact HXB.out x (List.mem_of_mem_drop (List.mem_of_mem_take h))
        · exact HXB.out x (List.mem_of_mem_drop h)
      obtain ⟨wr, rfl⟩ : ∃ wr : World, wr = wc := ⟨_, rfl⟩
      clear hb2
      go_wp2_with fail
      refine (of_bytes _ _ _ X _ ((Own.below HOX.out hbr).row.toRow (wf_of_bytes HXB.out)) L2.out).mono ?_
      rintro e w3 ⟨sa, sb, sc, sd, hs, rfl, hb3⟩
      have hoy3 : Own (w3.alloc (.cells #[.int .i64 sa, .int .i64 sb, .int .i64 sc, .int .i64 sd] 41)) w1.heap.size 5 1 ay' lx cy' (Y.map (.int .u8)) := (Own.below hOY.out hb3).alloc _
      have HOY3 := Lib.hid hoy3
      clear hoy3
      go_wp2_with fail
      refine (of_bytes _ _ _ Y _ (HOY3.out.row.toRow (wf_of_bytes HYB.out)) L2.out).mono ?_
      rintro e w4 ⟨ta, tb, tc, td, ht, rfl, hb4⟩
      have hsx : Hid (Box w4 w3.heap.size #[.int .i64 sa, .int .i64 sb, .int .i64 sc, .int .i64 sd] 41) := Box.below (Box.new rfl) hb4 (by simp)
      have hb34 : Below wr.heap.size wr w4 := (hb3.alloc hb3.size _).trans (hb4.mono (by simp; exact Nat.le_succ_of_le hb3.size))
      go_wp2_with fail
      have hV : ∃ V, V = w4.alloc (.cells #[.int .i64 ta, .int .i64 tb, .int .i64 tc, .int .i64 td] 41) := ⟨_, rfl⟩
      obtain ⟨V, hV⟩ := hV
      rw [← hV]
      have hBs : Box V w3.heap.size #[.int .i64 sa, .int .i64 sb, .int .i64 sc, .int .i64 sd] 41 := by rw [hV]; exact hsx.out.alloc _
      have hBt : Box V w4.heap.size #[.int .i64 ta, .int .i64 tb, .int .i64 tc, .int .i64 td] 41 := by rw [hV]; exact Box.new rfl
      have hbV : Below wr.heap.size wr V := by rw [hV]; exact hb34.alloc hb34.size _
      have HRX : Hid (Row .u8 V (some ⟨gx, 0, none⟩) lx cx X) := ((Own.below HOX.out hbr).row.toRow (wf_of_bytes HXB.out)).below hbV
      have HRY : Hid (Row .u8 V ay' lx cy' Y) := (hOY.out.row.toRow (wf_of_bytes HYB.out)).below hbV
      obtain ⟨gs, hgs⟩ : ∃ gs, Hid (w3.heap.size = gs) := ⟨_, rfl⟩
      obtain ⟨gt, hgt⟩ : ∃ gt, Hid (w4.heap.size = gt) := ⟨_, rfl⟩
      rw [hgs.out] at hBs
      rw [hgt.out] at hBt
      rw [hgs.out, hgt.out]
      have c0 : V.cell? ⟨gs, 0, none⟩ = some (.int .i64 sa) := hBs.cell 0
      have c1 : V.cell? ⟨gs, 1, none⟩ = some (.int .i64 sb) := hBs.cell 1
      have c2 : V.cell? ⟨gs, 2, none⟩ = some (.int .i64 sc) := hBs.cell 2
      have c3 : V.cell? ⟨gs, 3, none⟩ = some (.int .i64 sd) := hBs.cell 3
      have d0 : V.cell? ⟨gt, 0, none⟩ = some (.int .i64 ta) := hBt.cell 0
      have d1 : V.cell? ⟨gt, 1, none⟩ = some (.int .i64 tb) := hBt.cell 1
      have d2 : V.cell? ⟨gt, 2, none⟩ = some (.int .i64 tc) := hBt.cell 2
      have d3 : V.cell? ⟨gt, 3, none⟩ = some (.int .i64 td) := hBt.cell 3
      have hbW : Below w.heap.size w V := (hb1.trans (hbr.mono hb1.size)).trans (hbV.mono (Nat.le_trans hb1.size hbr.size))
      have HBW := Lib.hid hbW
      have hB0 : Below V.heap.size V V.drew := (Below.refl _ _).drew
      clear hV hBs hBt hsx hb3 hb4 hb34 hbV hbW
      have hdec : (X = Y ∧ sa = ta ∧ sb = tb ∧ sc = tc ∧ sd = td) ∨ (¬ X = Y ∧ sa = ta ∧ ¬ sb = tb) := by
        have hsw := swapped_law HXB.out k (by rw [HXL.out]; exact hk8)
        rw [HY.out, hs.out, ht.out] at hsw
        by_cases h : X = Y
        · left
          have e : (⟨sa, sb, sc, sd⟩ : Four) = ⟨ta, tb, tc, td⟩ := by rw [← hs.out, ← ht.out, h]
          exact ⟨h, by simpa using e⟩
        · exact .inr ⟨h, hsw.1, fun e => h (hsw.2 e)⟩
      rcases hdec with ⟨hXY, h1, h2, h3, h4⟩ | ⟨hXY, h1, h2⟩
      · have hd : decide (X = Y) = true := decide_eq_true hXY
        subst h1 h2 h3 h4
        have HXY := Lib.hid hXY
        clear hXY
        go_region_held3 (fun w' => Below V.heap.size V w' ∧ w'.cell? ⟨gs, 0, none⟩ = some (.int .i64 sa) ∧ w'.cell? ⟨gs, 1, none⟩ = some (.int .i64 sb) ∧ w'.cell? ⟨gs, 2, none⟩ = some (.int .i64 sc) ∧ w'.cell? ⟨gs, 3, none⟩ = some (.int .i64 sd) ∧ w'.cell? ⟨gt, 0, none⟩ = some (.int .i64 sa) ∧ w'.cell? ⟨gt, 1, none⟩ = some (.int .i64 sb) ∧ w'.cell? ⟨gt, 2, none⟩ = some (.int .i64 sc) ∧ w'.cell? ⟨gt, 3, none⟩ = some (.int .i64 sd))
          (first | exact hS2 | exact ⟨below_drewN hS2.1 _, hS2.2⟩ | exact ⟨hB0, c0, c1, c2, c3, d0, d1, d2, d3⟩ | (go_keep; done))
          (first
            | (go_at_call 20; refine (sure_keeps (V := V) (gs := gs) (gt := gt) (sa := sa) (sb := sb) (sc := sc) (sd := sd) (ta := sa) (tb := sb) (tc := sc) (td := sd) _ ?_).mono ?_; (exact ⟨hB0, c0, c1, c2, c3, d0, d1, d2, d3⟩); rintro e w' ⟨rfl, hS2⟩)
            | (go_at_call 22; refine (sameBytes _ _ _ X _ _ _ Y _ (HRX.out.below ?_) (HRY.out.below ?_)).mono ?_; exact hS2.1; exact hS2.1; rintro e w' ⟨rfl, k9, rfl⟩))
        all_goals go_wp2
        all_goals go_ret
        all_goals exact ⟨rfl, HBW.out.trans ((below_drewN hS2.1 _).mono HBW.out.size)⟩
      · have hd : decide (X = Y) = false := decide_eq_false hXY
        have hq : (sb == tb) = false := by simp [h2]
        subst h1
        have HXY := Lib.hid hXY
        clear hXY h2
        go_region_held3 (fun w' => Below V.heap.size V w' ∧ w'.cell? ⟨gs, 0, none⟩ = some (.int .i64 sa) ∧ w'.cell? ⟨gs, 1, none⟩ = some (.int .i64 sb) ∧ w'.cell? ⟨gs, 2, none⟩ = some (.int .i64 sc) ∧ w'.cell? ⟨gs, 3, none⟩ = some (.int .i64 sd) ∧ w'.cell? ⟨gt, 0, none⟩ = some (.int .i64 sa) ∧ w'.cell? ⟨gt, 1, none⟩ = some (.int .i64 tb) ∧ w'.cell? ⟨gt, 2, none⟩ = some (.int .i64 tc) ∧ w'.cell? ⟨gt, 3, none⟩ = some (.int .i64 td))
          (first | exact hS2 | exact ⟨below_drewN hS2.1 _, hS2.2⟩ | exact ⟨hB0, c0, c1, c2, c3, d0, d1, d2, d3⟩ | (go_keep; done))
          (first
            | (go_at_call 20; refine (sure_keeps (V := V) (gs := gs) (gt := gt) (sa := sa) (sb := sb) (sc := sc) (sd := sd) (ta := sa) (tb := tb) (tc := tc) (td := td) _ ?_).mono ?_; (exact ⟨hB0, c0, c1, c2, c3, d0, d1, d2, d3⟩); rintro e w' ⟨rfl, hS2⟩)
            | (go_at_call 22; refine (sameBytes _ _ _ X _ _ _ Y _ (HRX.out.below ?_) (HRY.out.below ?_)).mono ?_; exact hS2.1; exact hS2.1; rintro e w' ⟨rfl, k9, rfl⟩))
        all_goals go_wp2
        all_goals go_ret
        all_goals exact ⟨rfl, HBW.out.trans ((below_drewN hS2.1 _).mono HBW.out.size)⟩
end Go.Proofs.Ytjnheahhlopbfaa
