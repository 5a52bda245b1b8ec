/- The walk of BestNewest, joined. -/
import Derived.Test.YteidmdakglkkfaaLbJ
namespace Go.Proofs.Yteidmdakglkkfaa
open Go.RowKit Go.ChangeShapes Go.WideShapes Go.Deep
set_option linter.unusedVariables false
set_option maxRecDepth 100000

set_option maxHeartbeats 8000000 in
theorem bestNewest (a0 : Option Addr) (len0 cap0 : Nat) (x0 : List Tag) (a1 : Option Addr) (len1 cap1 : Nat) (x1 : List Bool) (a2 : Option Addr) (len2 cap2 : Nat) (x2 : List (List Int)) (w : World)
    (h0 : SRow tagL w (fun _ => True) a0 len0 cap0 x0) (h1 : SRow Lay.bool w (fun _ => True) a1 len1 cap1 x1) (h2 : SRow byteL w (fun _ => True) a2 len2 cap2 x2) :
    Calls Try.prog 10 #[.slice a0 len0 cap0, .slice a1 len1 cap1, .slice a2 len2 cap2] w fun e w' => e = .returned (.bool true) ∧ Below w.heap.size w w' := by
  have m0 := h0.hmax
  have m1 := h1.hmax
  have m2 := h2.hmax
  have n0 := h0.hle
  have n1 := h1.hle
  have n2 := h2.hle
  unfold maxLen at m0 m1 m2
  have H0 := Lib.hid h0
  have H1 := Lib.hid h1
  have H2 := Lib.hid h2
  clear h0 h1 h2
  obtain ⟨B, hBB⟩ : ∃ B, Hid (w.heap.size = B) := ⟨_, rfl⟩
  go_enter Try.func10, Try.ntmps10
  go_wp2_with fail
  go_loopw [7, 8, 9, 10] (fun bv tv av iv wr => ∃ (n : Nat) (L : List (List Int)) (a : Option Addr) (l c : Nat), n ≤ 12 ∧ l ≤ 2 * n ∧ iv = .int .i64 n ∧ bv = .slice a l c ∧ tv = .int .i64 (bestOf L).1.time ∧ av = .int .i64 (bestOf L).2 ∧
    Hid (SOwn (Lay.int .u8).slice wr B 59 (fun b => B ≤ b) a l c L) ∧ Hid (Below B w wr)) (fun _ _ _ iv _ => 12 - (intOf iv).toNat)
  case atStart => exact ⟨0, [], none, 0, 0, by omega, by omega, rfl, rfl, rfl, rfl, SOwn.nil .., Below.refl _ _⟩
  case round =>
    obtain ⟨n, L, a, l, c, hn12, hl2, rfl, rfl, rfl, rfl, hown, hbl⟩ := hrel
    have hLl := hown.out.1
    obtain ⟨bt, hbt⟩ : ∃ z, Hid ((bestOf L).1.time = z) := ⟨_, rfl⟩
    obtain ⟨ba, hba⟩ : ∃ z, Hid ((bestOf L).2 = z) := ⟨_, rfl⟩
    rw [hbt.out, hba.out]
    by_cases hlt : n < len0 ∧ n < 12
    · obtain ⟨hlt, hlt2⟩ := hlt
      obtain ⟨b, off, vs, rfl, _, hbw, hat, hcell⟩ := H0.out.get n hlt
      obtain ⟨tg, hx⟩ : ∃ x, x0[n]? = some x := ⟨_, List.getElem?_eq_getElem (by rw [H0.out.1]; exact hlt)⟩
      obtain ⟨hvs, htok⟩ : vs = tg.cells.toList ∧ tg.ok := hat _ hx
      subst hvs
      have hbB : b < B := by have := hBB.out; omega
      have e0 : wr.cell? ⟨b, off + n * 12, none⟩ = some (.int .i64 tg.pool) := (hbl.out.cell (p := ⟨b, off + n * 12, none⟩) hbB).trans (hcell 0 (by decide))
      have e1 : wr.cell? ⟨b, off + n * 12 + 1, none⟩ = some (.int .i64 tg.drive) := (hbl.out.cell (p := ⟨b, off + n * 12 + 1, none⟩) hbB).trans (hcell 1 (by decide))
      have e2 : wr.cell? ⟨b, off + n * 12 + 2, none⟩ = some (.int .i64 tg.drives) := (hbl.out.cell (p := ⟨b, off + n * 12 + 2, none⟩) hbB).trans (hcell 2 (by decide))
      have e3 : wr.cell? ⟨b, off + n * 12 + 3, none⟩ = some (.int .i64 tg.parity) := (hbl.out.cell (p := ⟨b, off + n * 12 + 3, none⟩) hbB).trans (hcell 3 (by decide))
      have e4 : wr.cell? ⟨b, off + n * 12 + 4, none⟩ = some (.int .i64 tg.time) := (hbl.out.cell (p := ⟨b, off + n * 12 + 4, none⟩) hbB).trans (hcell 4 (by decide))
      have e5 : wr.cell? ⟨b, off + n * 12 + 5, none⟩ = some (.int .i64 tg.addr) := (hbl.out.cell (p := ⟨b, off + n * 12 + 5, none⟩) hbB).trans (hcell 5 (by decide))
      have e6 : wr.cell? ⟨b, off + n * 12 + 6, none⟩ = some (.int .i64 tg.count) := (hbl.out.cell (p := ⟨b, off + n * 12 + 6, none⟩) hbB).trans (hcell 6 (by decide))
      have e7 : wr.cell? ⟨b, off + n * 12 + 7, none⟩ = some (.int .i64 tg.bytes) := (hbl.out.cell (p := ⟨b, off + n * 12 + 7, none⟩) hbB).trans (hcell 7 (by decide))
      have e8 : wr.cell? ⟨b, off + n * 12 + 8, none⟩ = some (.int .i64 tg.a) := (hbl.out.cell (p := ⟨b, off + n * 12 + 8, none⟩) hbB).trans (hcell 8 (by decide))
      have e9 : wr.cell? ⟨b, off + n * 12 + 9, none⟩ = some (.int .i64 tg.b) := (hbl.out.cell (p := ⟨b, off + n * 12 + 9, none⟩) hbB).trans (hcell 9 (by decide))
      have e10 : wr.cell? ⟨b, off + n * 12 + 10, none⟩ = some (.int .i64 tg.c) := (hbl.out.cell (p := ⟨b, off + n * 12 + 10, none⟩) hbB).trans (hcell 10 (by decide))
      have e11 : wr.cell? ⟨b, off + n * 12 + 11, none⟩ = some (.int .i64 tg.d) := (hbl.out.cell (p := ⟨b, off + n * 12 + 11, none⟩) hbB).trans (hcell 11 (by decide))
      clear hcell hat hx
      go_wp2_with fail
      refine (labelOf tg.pool tg.drive tg.drives tg.parity tg.time tg.addr tg.count tg.bytes tg.a tg.b tg.c tg.d wr).mono ?_
      rintro e w1 ⟨y, rfl, hm, ha, hb, hc, hd, hB1⟩
      have hy := lab_ok htok hm ha hb hc hd
      have hwr : B ≤ wr.heap.size := by have := hbl.out.size; have := hBB.out; omega
      have LR1 : Hid (Below wr.heap.size wr w1) := hB1
      have HM := Lib.hid hm
      clear ha hb hc hd hB1 hm e0 e1 e2 e3 e4 e5 e6 e7 e8 e9 e10 e11
      go_wp2_with (refine wpList_store_box rfl 57 (.tmp 11) (.tmp 31) rfl w1.heap.size y.cells rfl rfl 57 _ (Box.new rfl) (by kernel_rfl) rfl rfl ?_)
      intro w2 hb2 hg2
      have hw1 := LR1.out.size
      have B2 := Lib.hid hb2
      have LR2 : Hid (Below wr.heap.size wr w2) := stepG (LR1.out.alloc hw1 _) (Nat.le_refl _) hg2 hw1
      obtain ⟨g, hg⟩ : ∃ g, w1.heap.size = g := ⟨_, rfl⟩
      rw [hg] at hw1 B2 ⊢
      clear hb2 hg2 LR1 hg
      go_wp2_with (refine wpList_load_box rfl 57 (.tmp 11) rfl g rfl 57 y.cells B2.out _ Try.underlying57 rfl (by kernel_rfl) ?_)
      refine (encode y w2 HM hy).mono ?_
      rintro e w3 ⟨ge, rfl, hge, hbe, hle⟩
      have B3 := Lib.hid (B2.out.below hle.out B2.out.lt)
      have LR3 := Lib.hid (stepB LR2.out (Nat.le_refl _) hle.out)
      have hgge : g ≠ ge := by have := B2.out.lt; omega
      have hwge : wr.heap.size ≤ ge := by have := LR2.out.size; omega
      clear hle B2 LR2 hge
      obtain ⟨X, hX⟩ : ∃ X, Hid (encB y = X) := ⟨_, rfl⟩
      rw [hX.out] at hbe
      have XL : Hid (X.length = 128) := by show _ = _; rw [← hX.out, encB_length]
      have XB : Hid (Bytes X) := by rw [← hX.out]; exact encB_Bytes y
      go_upto_region 11 with fail
      obtain ⟨tb, htb⟩ : ∃ t, Hid ((decide (n < len1) && x1.getD n false) = t) := ⟨_, rfl⟩
      go_cut [53] (fun v wx => v = .bool tb ∧ wx = w3)
      case first =>
        by_cases hn1 : n < len1
        · obtain ⟨b1, off1, rfl, hb1w, hc1⟩ := bool_elem H1.out n hn1
          have hb1B : b1 < B := by have := hBB.out; omega
          have e1 : w3.cell? ⟨b1, off1 + n, none⟩ = some (.bool (x1.getD n false)) := (LR3.out.cell (p := ⟨b1, off1 + n, none⟩) (by show b1 < _; omega)).trans ((hbl.out.cell (p := ⟨b1, off1 + n, none⟩) hb1B).trans hc1)
          have ht2 : x1.getD n false = tb := by rw [← htb.out, decide_eq_true hn1, Bool.true_and]
          rw [ht2] at e1
          clear hc1
          go_wp2_with fail
          go_meet
          exact ⟨rfl, rfl⟩
        · have ht2 : tb = false := by rw [← htb.out, decide_eq_false hn1, Bool.false_and]
          subst ht2
          go_wp2_with fail
          go_meet
          exact ⟨rfl, rfl⟩
      case rest =>
        obtain ⟨rfl, rfl⟩ := hcut
        clear htb
        go_upto_if 53 with fail
        go_cut [8, 9] (fun v8 v9 wx => ∃ Y : List Int, v8 = .int .i64 (bestOf (L ++ [Y])).1.time ∧ v9 = .int .i64 (bestOf (L ++ [Y])).2 ∧ Hid (Y.length = 128) ∧ Hid (Bytes Y) ∧ Hid (Box wx ge (room Y) 5) ∧ Hid (Below wr.heap.size wr wx))
        case first =>
          cases tb with
          | true =>
            have q5 : wc.cell? ⟨g, 5, none⟩ = some (.int .i64 y.addr) := B3.out.cell 5
            go_wp2_with fail
            refine (picked _ _ _ (by omega) (by omega)).mono ?_
            rintro e w' ⟨r, hr, hr0, hr1, rfl, rfl⟩
            obtain ⟨p, rfl⟩ := Int.eq_ofNat_of_zero_le hr0
            clear hr hr0 q5
            have hp : p < 96 := by omega
            obtain ⟨v, hv⟩ : ∃ v, Hid (X.getD p 0 = v) := ⟨_, rfl⟩
            have e2 : wc.cell? ⟨ge, p, none⟩ = some (.int .u8 v) := by rw [hbe.out.cell p, room_get X p (by rw [XL.out]; omega), hv.out]
            have f2 : wc.frozen? ⟨ge, p, none⟩ = false := hbe.out.free p
            have hst : Hid (Box (wc.setCell ⟨ge, p, none⟩ (.int .u8 (bits .xor .u8 v 1))) ge (room (X.set p (bits .xor .u8 v 1))) 5) := by
              rw [← room_put X p (by rw [XL.out]; omega)]; exact hbe.out.set p _
            have hdt : dec (X.set p (bits .xor .u8 v 1)) = (Lab.none, 11) := by
              have hX' := hX.out
              subst hX'
              exact dec_torn y p (by omega) v hv.out
            have HBO := Lib.hid (bestOf_bad L hdt (by decide))
            have hvb : 0 ≤ v ∧ v ≤ 255 := by rw [← hv.out]; exact XB.out.getD p
            have hxr := xor_range1 hvb
            have HBS : Hid (Bytes (X.set p (bits .xor .u8 v 1))) := by
              intro x hx
              rcases List.mem_or_eq_of_mem_set hx with h | h
              · exact XB.out x h
              · rw [h]; exact hxr
            clear hdt
            go_wp2_with fail
            go_meet
            refine ⟨X.set p (bits .xor .u8 v 1), by rw [HBO.out, hbt.out], by rw [HBO.out, hba.out], by show _ = _; rw [List.length_set]; exact XL.out, HBS, hst, LR3.out.setCell (p := ⟨ge, p, none⟩) hwge _⟩
          | false =>
            have q4 : wc.cell? ⟨g, 4, none⟩ = some (.int .i64 y.time) := B3.out.cell 4
            have hdx : dec X = (y, 0) := by rw [← hX.out]; exact dec_enc y HM.out hy
            have HBO := Lib.hid (bestOf_valid L hdx)
            clear hdx
            by_cases htm : bt < y.time
            · go_wp2_with fail
              go_meet
              refine ⟨X, ?_, ?_, XL, XB, hbe, LR3⟩
              · rw [HBO.out, hbt.out, if_pos htm]
              · rw [HBO.out, hbt.out, if_pos htm, hLl]
            · go_wp2_with fail
              go_meet
              refine ⟨X, ?_, ?_, XL, XB, hbe, LR3⟩
              · rw [HBO.out, hbt.out, if_neg (by omega), hbt.out]
              · rw [HBO.out, hbt.out, if_neg (by omega), hba.out]
        case rest =>
          obtain ⟨Y, rfl, rfl, YL, YB, BY, LY⟩ := hcut
          clear hbe B3 LR3 XL XB hX
          obtain ⟨M, hM⟩ : ∃ M, Hid (L ++ [Y] = M) := ⟨_, rfl⟩
          rw [hM.out]
          have OW := Lib.hid (hown.out.below LY.out)
          have hno : Hid ((Value.slice a l c).ownBlock ≠ some ge) := fun e => by have := (hown.out.lt ge e).2; omega
          have hgew := BY.out.lt
          have hrow := room_row BY.out (by rw [YL.out]; omega) YB.out
          rw [YL.out] at hrow
          have HR := Lib.hid hrow
          have hBw : B ≤ wc.heap.size := by have := LY.out.size; omega
          have LW := Lib.hid (hbl.out.trans (LY.out.mono hwr))
          clear hrow hown hbl LY BY YL YB
          go_wp2_with (at_builtin; refine wpList_append_one (L := (Lay.int .u8).slice) rfl (.tmp 71) (.tmp 73) 70 rfl B 59 _ 24 Try.underlying70 info_bytes rfl (fun b => B ≤ b) a l c _ rfl OW.out #[.slice (some ⟨ge, 0, none⟩) 128 128] Y rfl (fun b => b = ge) ⟨_, _, _, rfl, Row.toS HR.out (fun x hx _ => by cases hx; rfl)⟩ (fun b h => by subst h; exact ⟨by omega, hgew, hno.out⟩) (by unfold maxLen; omega) (by omega) hBw ?_)
          intro a5 c5 w5 hown5 hg5
          have L5 : Hid (Below B w w5) := OW.out.grown LW.out (Nat.le_refl _) hBw hg5
          rw [hM.out] at hown5
          have O5 := Lib.hid hown5
          have hBw5 : B ≤ w5.heap.size := by have := L5.out.size; have := hBB.out; omega
          clear hown5 hg5 OW LW HR hno
          by_cases hn2 : n < len2
          · obtain ⟨b2, off2, a', l', c', rfl, hb2w, hc2, hr2, hz2⟩ := junk_elem H2.out n hn2
            have hb2B : b2 < B := by have := hBB.out; omega
            have e2 : w5.cell? ⟨b2, off2 + n, none⟩ = some (.slice a' l' c') := (L5.out.cell (p := ⟨b2, off2 + n, none⟩) hb2B).trans hc2
            obtain ⟨xs, hxs⟩ : ∃ xs, Hid (x2.getD n [] = xs) := ⟨_, rfl⟩
            rw [hxs.out] at hr2
            have R5 := Lib.hid (hr2.below (by rw [hBB.out]; exact L5.out))
            have hxl := hr2.hlen
            have hcm := hr2.hmax
            have hlc := hr2.hle
            unfold maxLen at hcm
            clear hc2 hr2
            by_cases h128 : l' = 128
            · subst h128
              go_wp2_with fail
              go_roundw
              case rel => exact ⟨n + 1, M, a5, l + 1, c5, by omega, by omega, by go_num, rfl, rfl, rfl, O5, L5⟩
              case measure => simp [intOf]; omega
            · have hne : ((l' : Int) != 128) = true := by simp; omega
              have hdx : dec xs = (Lab.none, 1) := dec_len xs (by rw [hxl]; exact h128)
              have HBO := Lib.hid (bestOf_bad M hdx (by decide))
              clear hdx
              go_wp2_with (at_builtin; refine wpList_append_any rfl (.const (.slice none 0 0)) (.tmp 91) 59 rfl w5.heap.size 5 _ 1 1 Try.underlying59 info_byte rfl (by decide) none 0 0 [] rfl (Own.nil _ _ _ _) a' l' c' (xs.map (.int .u8)) rfl R5.out.toV (one_bytes xs) (by unfold maxLen; omega) (by omega) (Nat.le_refl _) ?_)
              intro a6 c6 w6 ho hg
              have LR6 : Below w5.heap.size w5 w6 := Own.grown (Own.nil w5 w5.heap.size 5 1) (Below.refl _ _) (Nat.le_refl _) (Nat.le_refl _) hg
              have ho' : Own w6 w5.heap.size 5 1 a6 l' c6 (xs.map (.int .u8)) := by simpa using ho
              have HO := Lib.hid (ho'.row.toRow R5.out.hwf)
              have hform : Hid (∀ x, a6 = some x → w5.heap.size ≤ x.block ∧ x.block < w6.heap.size) := by
                intro x hx
                rcases ho'.form with ⟨h0, _⟩ | ⟨g6, cur, hg6, hbg, hh, _⟩
                · rw [h0] at hx; cases hx
                · rw [hg6] at hx; cases hx; exact ⟨hbg, (Array.getElem?_eq_some_iff.1 hh).1⟩
              have O6 := Lib.hid (O5.out.below LR6)
              have L6 : Hid (Below B w w6) := L5.out.trans (LR6.mono hBw5)
              have hno : Hid (∀ k, (Value.slice a5 (l + 1) c5).ownBlock = some k → k < w5.heap.size) := fun k hk => (O5.out.lt k hk).2
              have hBw6 : B ≤ w6.heap.size := by have := LR6.size; omega
              clear ho ho' hg LR6 O5 L5 R5 e2
              go_wp2_with (at_builtin; refine wpList_append_one (L := (Lay.int .u8).slice) rfl (.tmp 87) (.tmp 93) 70 rfl B 59 _ 24 Try.underlying70 info_bytes rfl (fun b => B ≤ b) a5 (l + 1) c5 _ rfl O6.out #[.slice a6 l' c6] xs rfl (fun b => ∃ x, a6 = some x ∧ x.block = b) ⟨_, _, _, rfl, Row.toS HO.out (fun x hx _ => ⟨x, hx, rfl⟩)⟩ (fun b h => by obtain ⟨x, hx, rfl⟩ := h; have h3 := hform.out x hx; exact ⟨by omega, h3.2, fun e => by have := hno.out _ e; omega⟩) (by unfold maxLen; omega) (by omega) hBw6 ?_)
              intro a7 c7 w7 hown7 hg7
              have L7 : Hid (Below B w w7) := O6.out.grown L6.out (Nat.le_refl _) hBw6 hg7
              have O7 := Lib.hid hown7
              clear hown7 hg7 O6 L6 HO hform hno
              go_wp2_with fail
              go_roundw
              case rel => exact ⟨n + 1, M ++ [xs], a7, l + 2, c7, by omega, by omega, by go_num, rfl, by rw [HBO.out], by rw [HBO.out], O7, L7⟩
              case measure => simp [intOf]; omega
          · go_wp2_with fail
            go_roundw
            case rel => exact ⟨n + 1, M, a5, l + 1, c5, by omega, by omega, by go_num, rfl, rfl, rfl, O5, L5⟩
            case measure => simp [intOf]; omega
    · have hends : (¬ n < len0) ∨ (n < len0 ∧ ¬ n < 12) := by omega
      clear hlt
      have hwr : B ≤ wr.heap.size := by have := hbl.out.size; have := hBB.out; omega
      have RS := Lib.hid hown.out.sRow
      clear hown
      have HRES : Hid (bestRes L = if ba < 0 then #[Lab.none.val, .int .i64 0, .int .i64 6] else #[(bestOf L).1.val, .int .i64 ba, .int .i64 0]) := by
        show _ = _
        unfold bestRes
        rw [hba.out]
      rcases hends with hn | ⟨hn, hn'⟩
      all_goals
        go_wp2_with fail
        refine (best a l c L wr RS.out).mono ?_
        rintro e w2 ⟨rfl, hle⟩
        have L2 := Lib.hid (hbl.out.trans (hle.mono hwr))
        have hw2 : B ≤ w2.heap.size := by have := hle.size; omega
        clear hle RS hbl
        by_cases hneg : ba < 0
        · rw [HRES.out, if_pos hneg]
          go_wp2_with (refine wpList_store_box rfl 57 (.tmp 14) (.tmp 98) rfl w2.heap.size Lab.none.cells rfl rfl 57 _ (Box.new rfl) (by kernel_rfl) rfl rfl ?_)
          intro w3 hb3 hg3
          have L3 : Hid (Below B w w3) := stepG (L2.out.alloc hw2 _) (by rw [hBB.out]; exact Nat.le_refl _) hg3 hw2
          go_wp2_with fail
          go_ret
          exact ⟨rfl, by rw [hBB.out]; exact L3.out⟩
        · rw [HRES.out, if_neg hneg]
          go_wp2_with (refine wpList_store_box rfl 57 (.tmp 14) (.tmp 98) rfl w2.heap.size (bestOf L).1.cells rfl rfl 57 _ (Box.new rfl) (by kernel_rfl) rfl rfl ?_)
          intro w3 hb3 hg3
          have L3 : Hid (Below B w w3) := stepG (L2.out.alloc hw2 _) (by rw [hBB.out]; exact Nat.le_refl _) hg3 hw2
          have q4 : w3.cell? ⟨w2.heap.size, 4, none⟩ = some (.int .i64 (bestOf L).1.time) := hb3.cell 4
          rw [hbt.out] at q4
          clear hb3 hg3 L2
          go_wp2_with fail
          go_ret
          exact ⟨rfl, by rw [hBB.out]; exact L3.out⟩
end Go.Proofs.Yteidmdakglkkfaa
