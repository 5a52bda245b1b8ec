/- The law FletParts, walked. -/
import Derived.Test.YtjnheahhlopbfaaFletT
import Derived.Test.YtjnheahhlopbfaaFletJ
namespace Go.Proofs.Ytjnheahhlopbfaa
open Go.RowKit
set_option linter.unusedVariables false

theorem Box.next {w w' : World} {g : Nat} {vs : Array Value} {t : TypeId} (h : Box w g vs t) (hb : Below w.heap.size w w') : Box w' g vs t := h.below hb h.lt
theorem one_cells (l : List Int) : ∀ u ∈ l.map (Value.int .u8), u.oneCell' = true := fun u hu => by obtain ⟨x, _, rfl⟩ := List.mem_map.1 hu; rfl
theorem four_eq {a b c d a' b' c' d' : Int} (h : (⟨a, b, c, d⟩ : Four) = ⟨a', b', c', d'⟩) : a = a' ∧ b = b' ∧ c = c' ∧ d = d' := by simpa using h
theorem parts_wrap (s t : Four) (n : Nat) : (joinE s.wrap t.wrap n).wrap = (joinE s t n).wrap := by
  symm
  simp only [Four.wrap, joinE, wrap_add_l, wrap_add_r]
  have m : ∀ a b c : Int, wrap64 (a + (b * wrap64 c)) = wrap64 (a + b * c) := fun a b c => by rw [← wrap_add_r, wrap_mul_r, wrap_add_r]
  have p : ∀ a b c d : Int, wrap64 (a + (b * wrap64 c + d)) = wrap64 (a + (b * c + d)) := fun a b c d => by
    rw [show a + (b * wrap64 c + d) = (a + d) + b * wrap64 c by omega, m, show (a + d) + b * c = a + (b * c + d) by omega]
  have q : ∀ a b c d : Int, wrap64 (a + (b + wrap64 c)) = wrap64 (a + (b + c)) := fun a b c d => by rw [← Int.add_assoc, wrap_add_r, Int.add_assoc]
  have r : ∀ a b c d e : Int, wrap64 (a + (b + (c * wrap64 d + e))) = wrap64 (a + (b + (c * d + e))) := fun a b c d e => by
    rw [show a + (b + (c * wrap64 d + e)) = (a + b + e) + c * wrap64 d by omega, m, show (a + b + e) + c * d = a + (b + (c * d + e)) by omega]
  have r2 : ∀ a b c d : Int, wrap64 (a + (b + (c + wrap64 d))) = wrap64 (a + (b + (c + d))) := fun a b c d => by rw [← Int.add_assoc, ← Int.add_assoc, wrap_add_r, Int.add_assoc, Int.add_assoc]
  have s1 : ∀ a b c d e f : Int, wrap64 (a + (b + (c + (d * wrap64 e + f)))) = wrap64 (a + (b + (c + (d * e + f)))) := fun a b c d e f => by
    rw [show a + (b + (c + (d * wrap64 e + f))) = (a + b + c + f) + d * wrap64 e by omega, m, show (a + b + c + f) + d * e = a + (b + (c + (d * e + f))) by omega]
  have s2 : ∀ a b c d e : Int, wrap64 (a + (b + (c + (d + wrap64 e)))) = wrap64 (a + (b + (c + (d + e)))) := fun a b c d e => by rw [← Int.add_assoc, ← Int.add_assoc, ← Int.add_assoc, wrap_add_r, Int.add_assoc, Int.add_assoc, Int.add_assoc]
  simp only [Four.mk.injEq]
  refine ⟨trivial, ?_, ?_, ?_⟩
  · rw [p, q _ _ _ 0]
  · rw [p, r, r2]
  · rw [p, r, s1, s2]

theorem parts_law {X Y : List Int} (h4 : X.length % 4 = 0) (h4' : Y.length % 4 = 0) :
    Four.zero.words (wordsOf (X ++ Y)) = (Four.zero.words (wordsOf X)).words (wordsOf Y) ∧
    Four.zero.words (wordsOf (X ++ Y)) = (joinE (Four.zero.words (wordsOf X)) (Four.zero.words (wordsOf Y)) (Y.length / 4)).wrap := by
  have e1 : Four.zero.words (wordsOf (X ++ Y)) = (Four.zero.words (wordsOf X)).words (wordsOf Y) := by rw [wordsOf_append _ _ h4, words_append]
  refine ⟨e1, ?_⟩
  rw [e1, zero_words, zero_words, wrap_words, joinE_eq, wordsOf_length, parts_wrap]

set_option maxHeartbeats 8000000 in
theorem fletParts (a : Option Addr) (len cap : Nat) (zs : List Int) (b : Option Addr) (lenb capb : Nat) (ys : List Int) (w : World) (ha : Row .u8 w a len cap zs) (hb : Row .u8 w b lenb capb ys) :
    Calls Try.prog 9 #[.slice a len cap, .slice b lenb capb] w fun e w' => e = .returned (.bool true) ∧ Below w.heap.size w w' := by
  have hwl := whole_le len
  have hwb := whole_le lenb
  have hlz := ha.hlen
  have hly := hb.hlen
  obtain ⟨X, hX⟩ : ∃ X, Hid (zs.take (wholeTo len 400) = X) := ⟨_, rfl⟩
  obtain ⟨Y, hY⟩ : ∃ Y, Hid (ys.take (wholeTo lenb 400) = Y) := ⟨_, rfl⟩
  have hXl : X.length = wholeTo len 400 := by rw [← hX.out, List.length_take]; omega
  have hYl : Y.length = wholeTo lenb 400 := by rw [← hY.out, List.length_take]; omega
  have hXb : Bytes X := by rw [← hX.out]; exact (bytes_of_row ha).take _
  have hYb : Bytes Y := by rw [← hY.out]; exact (bytes_of_row hb).take _
  go_enter Try.func9, Try.ntmps9
  go_wp2_with fail
  refine (words_copy a len cap zs w ha).mono ?_
  rintro e w1 ⟨ax, lx, cx, rfl, hox, hb1⟩
  rw [hX.out] at hox
  have hlx : lx = wholeTo len 400 := by have := hox.1; rw [List.length_map, hXl] at this; omega
  have HLX := Lib.hid hlx
  have HXl := Lib.hid hXl
  have HYl := Lib.hid hYl
  have HWL := Lib.hid hwl
  have HWB := Lib.hid hwb
  clear hlx hXl hYl hwl hwb hlz hly
  go_wp2_with fail
  refine (words_copy b lenb capb ys w1 (hb.below hb1)).mono ?_
  rintro e w2 ⟨ay, ly, cy, rfl, hoy, hb2⟩
  rw [hY.out] at hoy
  have hly' : ly = wholeTo lenb 400 := by have := hoy.1; rw [List.length_map, HYl.out] at this; omega
  have HXL : Hid (X.length = lx) := by rw [HLX.out]; exact HXl.out
  have HYL : Hid (Y.length = ly) := by rw [hly']; exact HYl.out
  have l1 : lx ≤ 400 := by rw [HLX.out]; exact HWL.out.2.1
  have l2 : ly ≤ 400 := by rw [hly']; exact HWB.out.2.1
  have L1 : Hid (lx % 4 = 0) := by rw [HLX.out]; exact HWL.out.2.2
  have L2 : Hid (ly % 4 = 0) := by rw [hly']; exact HWB.out.2.2
  have RX := Lib.hid ((hox.row.toRow (wf_of_bytes hXb)).below hb2)
  have RY := Lib.hid (hoy.row.toRow (wf_of_bytes hYb))
  have HB := Lib.hid (Below_next hb1 hb2)
  clear hox hoy hly' hb1 hb2
  go_wp2_with fail
  refine (of_bytes _ _ _ X _ RX.out L1.out).mono ?_
  rintro e w3 ⟨sa, sb, sc, sd, hs, rfl, hbx⟩
  replace RX := Lib.hid (RX.out.below hbx)
  replace RY := Lib.hid (RY.out.below hbx)
  go_upto_region 4 with fail
  obtain ⟨V3, hV3⟩ : ∃ V, V = w3.alloc (.cells #[.int .i64 sa, .int .i64 sb, .int .i64 sc, .int .i64 sd] 41) := ⟨_, rfl⟩
  rw [← hV3]
  have hby : Below w3.heap.size w3 V3 := by rw [hV3]; exact Below_alloc1 _
  replace RX := Lib.hid (RX.out.below hby)
  replace RY := Lib.hid (RY.out.below hby)
  have hbz : Below w2.heap.size w2 V3 := hbx.trans (hby.mono hbx.size)
  replace HB := Lib.hid (Below_next HB.out hbz)
  obtain ⟨gs, hgs⟩ : ∃ g, Hid (w3.heap.size = g) := ⟨_, rfl⟩
  rw [hgs.out]
  have Bs := Lib.hid (show Box V3 gs #[.int .i64 sa, .int .i64 sb, .int .i64 sc, .int .i64 sd] 41 from by rw [hV3, ← hgs.out]; exact Box.new rfl)
  clear hV3 hbx hby hbz
  go_wp2_with fail
  refine (of_bytes _ _ _ Y _ RY.out L2.out).mono ?_
  rintro e w4 ⟨ta, tb, tc, td, ht, rfl, hbx⟩
  replace RX := Lib.hid (RX.out.below hbx)
  replace RY := Lib.hid (RY.out.below hbx)
  replace Bs := Lib.hid (Bs.out.next hbx)
  go_upto_region 5 with fail
  obtain ⟨V4, hV4⟩ : ∃ V, V = w4.alloc (.cells #[.int .i64 ta, .int .i64 tb, .int .i64 tc, .int .i64 td] 41) := ⟨_, rfl⟩
  rw [← hV4]
  have hby : Below w4.heap.size w4 V4 := by rw [hV4]; exact Below_alloc1 _
  replace RX := Lib.hid (RX.out.below hby)
  replace RY := Lib.hid (RY.out.below hby)
  replace Bs := Lib.hid (Bs.out.next hby)
  have hbz : Below V3.heap.size V3 V4 := hbx.trans (hby.mono hbx.size)
  replace HB := Lib.hid (Below_next HB.out hbz)
  obtain ⟨gt, hgt⟩ : ∃ g, Hid (w4.heap.size = g) := ⟨_, rfl⟩
  rw [hgt.out]
  have Bt := Lib.hid (show Box V4 gt #[.int .i64 ta, .int .i64 tb, .int .i64 tc, .int .i64 td] 41 from by rw [hV4, ← hgt.out]; exact Box.new rfl)
  clear hV4 hbx hby hbz
  go_wp2_with (at_builtin; refine wpList_append_any rfl (.const (.slice none 0 0)) (.tmp 32) 37 rfl V4.heap.size 5 _ 1 1 Try.underlying37 info_u8 rfl (by decide) none 0 0 [] rfl (Own.nil _ _ _ _) ax lx cx (X.map (.int .u8)) rfl RX.out.toV (one_cells X) (by unfold maxLen; omega) (by omega) (Nat.le_refl _) ?_)
  intro a5 c5 w5 hown5 hg5
  have hb5 : Below V4.heap.size V4 w5 := Own.grown (Own.nil V4 V4.heap.size 5 1) (Below.refl _ _) (Nat.le_refl _) (Nat.le_refl _) hg5
  have hown5' : Own w5 V4.heap.size 5 1 a5 lx c5 (X.map (.int .u8)) := by simpa using hown5
  have HO5 := Lib.hid hown5'
  have hsz5 := hb5.size
  have hry5 : Row .u8 w5 ay ly cy Y := RY.out.below hb5
  have HRY5 := Lib.hid hry5
  clear hown5 hown5' hg5 hry5
  go_wp2_with (at_builtin; refine wpList_append_any rfl (.tmp 33) (.tmp 34) 37 rfl V4.heap.size 5 _ 1 1 Try.underlying37 info_u8 rfl (by decide) a5 lx c5 (X.map (.int .u8)) rfl HO5.out ay ly cy (Y.map (.int .u8)) rfl HRY5.out.toV (one_cells Y) (by unfold maxLen; omega) (by omega) hsz5 ?_)
  intro a6 c6 w6 hown6 hg6
  have hb6 : Below V4.heap.size V4 w6 := Own.grown HO5.out hb5 (Nat.le_refl _) hsz5 hg6
  have hown6' : Own w6 V4.heap.size 5 1 a6 (lx + ly) c6 ((X ++ Y).map (.int .u8)) := by rw [List.map_append]; exact hown6
  have hab : Bytes (X ++ Y) := fun x hx => by rcases List.mem_append.1 hx with h | h; exact hXb x h; exact hYb x h
  have RA := Lib.hid (hown6'.row.toRow (wf_of_bytes hab))
  have LA : Hid ((lx + ly) % 4 = 0) := by have := L1.out; have := L2.out; show _ = _; omega
  clear hown6 hown6' hg6 HO5 HRY5 hb5 hsz5 hab
  replace RX := Lib.hid (RX.out.below hb6)
  replace RY := Lib.hid (RY.out.below hb6)
  replace Bs := Lib.hid (Bs.out.next hb6)
  replace Bt := Lib.hid (Bt.out.next hb6)
  replace HB := Lib.hid (Below_next HB.out hb6)
  clear hb6
  go_wp2_with fail
  refine (of_bytes _ _ _ (X ++ Y) _ RA.out LA.out).mono ?_
  rintro e w7 ⟨ua, ub, uc, ud, hu, rfl, hbx⟩
  replace RX := Lib.hid (RX.out.below hbx)
  replace RY := Lib.hid (RY.out.below hbx)
  replace Bs := Lib.hid (Bs.out.next hbx)
  replace Bt := Lib.hid (Bt.out.next hbx)
  go_upto_region 6 with fail
  obtain ⟨V7, hV7⟩ : ∃ V, V = w7.alloc (.cells #[.int .i64 ua, .int .i64 ub, .int .i64 uc, .int .i64 ud] 41) := ⟨_, rfl⟩
  rw [← hV7]
  have hby : Below w7.heap.size w7 V7 := by rw [hV7]; exact Below_alloc1 _
  replace RX := Lib.hid (RX.out.below hby)
  replace RY := Lib.hid (RY.out.below hby)
  replace Bs := Lib.hid (Bs.out.next hby)
  replace Bt := Lib.hid (Bt.out.next hby)
  have hbz : Below w6.heap.size w6 V7 := hbx.trans (hby.mono hbx.size)
  replace HB := Lib.hid (Below_next HB.out hbz)
  obtain ⟨gu, hgu⟩ : ∃ g, Hid (w7.heap.size = g) := ⟨_, rfl⟩
  rw [hgu.out]
  have Bu := Lib.hid (show Box V7 gu #[.int .i64 ua, .int .i64 ub, .int .i64 uc, .int .i64 ud] 41 from by rw [hV7, ← hgu.out]; exact Box.new rfl)
  clear hV7 hbx hby hbz
  have s0 : V7.cell? ⟨gs, 0, none⟩ = some (.int .i64 sa) := Bs.out.cell 0
  have s1 : V7.cell? ⟨gs, 1, none⟩ = some (.int .i64 sb) := Bs.out.cell 1
  have s2 : V7.cell? ⟨gs, 2, none⟩ = some (.int .i64 sc) := Bs.out.cell 2
  have s3 : V7.cell? ⟨gs, 3, none⟩ = some (.int .i64 sd) := Bs.out.cell 3
  have hlit : (4 : Int) ≠ 0 := by decide
  go_wp2_with fail
  refine (more _ _ _ _ _ _ _ Y _ RY.out L2.out).mono ?_
  rintro e w8 ⟨va, vb, vc, vd, hv, rfl, hbx⟩
  replace RX := Lib.hid (RX.out.below hbx)
  replace RY := Lib.hid (RY.out.below hbx)
  replace Bs := Lib.hid (Bs.out.next hbx)
  replace Bt := Lib.hid (Bt.out.next hbx)
  replace Bu := Lib.hid (Bu.out.next hbx)
  go_upto_region 7 with fail
  obtain ⟨V8, hV8⟩ : ∃ V, V = w8.alloc (.cells #[.int .i64 va, .int .i64 vb, .int .i64 vc, .int .i64 vd] 41) := ⟨_, rfl⟩
  rw [← hV8]
  have hby : Below w8.heap.size w8 V8 := by rw [hV8]; exact Below_alloc1 _
  replace RX := Lib.hid (RX.out.below hby)
  replace RY := Lib.hid (RY.out.below hby)
  replace Bs := Lib.hid (Bs.out.next hby)
  replace Bt := Lib.hid (Bt.out.next hby)
  replace Bu := Lib.hid (Bu.out.next hby)
  have hbz : Below V7.heap.size V7 V8 := hbx.trans (hby.mono hbx.size)
  replace HB := Lib.hid (Below_next HB.out hbz)
  obtain ⟨gv, hgv⟩ : ∃ g, Hid (w8.heap.size = g) := ⟨_, rfl⟩
  rw [hgv.out]
  have Bv := Lib.hid (show Box V8 gv #[.int .i64 va, .int .i64 vb, .int .i64 vc, .int .i64 vd] 41 from by rw [hV8, ← hgv.out]; exact Box.new rfl)
  clear hV8 hbx hby hbz
  clear s0 s1 s2 s3
  have s0 : V8.cell? ⟨gs, 0, none⟩ = some (.int .i64 sa) := Bs.out.cell 0
  have t0 : V8.cell? ⟨gt, 0, none⟩ = some (.int .i64 ta) := Bt.out.cell 0
  have s1 : V8.cell? ⟨gs, 1, none⟩ = some (.int .i64 sb) := Bs.out.cell 1
  have t1 : V8.cell? ⟨gt, 1, none⟩ = some (.int .i64 tb) := Bt.out.cell 1
  have s2 : V8.cell? ⟨gs, 2, none⟩ = some (.int .i64 sc) := Bs.out.cell 2
  have t2 : V8.cell? ⟨gt, 2, none⟩ = some (.int .i64 tc) := Bt.out.cell 2
  have s3 : V8.cell? ⟨gs, 3, none⟩ = some (.int .i64 sd) := Bs.out.cell 3
  have t3 : V8.cell? ⟨gt, 3, none⟩ = some (.int .i64 td) := Bt.out.cell 3
  go_wp2_with fail
  rw [show (ly : Int) / 4 = ((ly / 4 : Nat) : Int) from by omega]
  refine (join_ sa sb sc sd ta tb tc td (ly / 4) _ (by omega)).mono ?_
  rintro e w9 ⟨ja, jb, jc, jd, hj, rfl, hbx⟩
  replace RX := Lib.hid (RX.out.below hbx)
  replace RY := Lib.hid (RY.out.below hbx)
  replace Bs := Lib.hid (Bs.out.next hbx)
  replace Bt := Lib.hid (Bt.out.next hbx)
  replace Bu := Lib.hid (Bu.out.next hbx)
  replace Bv := Lib.hid (Bv.out.next hbx)
  go_upto_region 8 with fail
  obtain ⟨V9, hV9⟩ : ∃ V, V = w9.alloc (.cells #[.int .i64 ja, .int .i64 jb, .int .i64 jc, .int .i64 jd] 41) := ⟨_, rfl⟩
  rw [← hV9]
  have hby : Below w9.heap.size w9 V9 := by rw [hV9]; exact Below_alloc1 _
  replace RX := Lib.hid (RX.out.below hby)
  replace RY := Lib.hid (RY.out.below hby)
  replace Bs := Lib.hid (Bs.out.next hby)
  replace Bt := Lib.hid (Bt.out.next hby)
  replace Bu := Lib.hid (Bu.out.next hby)
  replace Bv := Lib.hid (Bv.out.next hby)
  have hbz : Below V8.heap.size V8 V9 := hbx.trans (hby.mono hbx.size)
  replace HB := Lib.hid (Below_next HB.out hbz)
  obtain ⟨gj, hgj⟩ : ∃ g, Hid (w9.heap.size = g) := ⟨_, rfl⟩
  rw [hgj.out]
  have Bj := Lib.hid (show Box V9 gj #[.int .i64 ja, .int .i64 jb, .int .i64 jc, .int .i64 jd] 41 from by rw [hV9, ← hgj.out]; exact Box.new rfl)
  clear hV9 hbx hby hbz
  clear s0 s1 s2 s3 t0 t1 t2 t3
  have hpl := parts_law (X := X) (Y := Y) (by rw [HXL.out]; exact L1.out) (by rw [HYL.out]; exact L2.out)
  rw [hu.out, hs.out, ht.out, hv.out, HYL.out, hj.out] at hpl
  obtain ⟨rfl, rfl, rfl, rfl⟩ := four_eq hpl.1
  obtain ⟨rfl, rfl, rfl, rfl⟩ := four_eq hpl.2
  clear hpl hu hs ht hv hj
  go_wp2_with fail
  refine (sure _).mono ?_
  rintro e w10 ⟨rfl, hbx⟩
  replace RX := Lib.hid (RX.out.below hbx)
  replace RY := Lib.hid (RY.out.below hbx)
  replace Bs := Lib.hid (Bs.out.next hbx)
  replace Bt := Lib.hid (Bt.out.next hbx)
  replace Bu := Lib.hid (Bu.out.next hbx)
  replace Bv := Lib.hid (Bv.out.next hbx)
  replace Bj := Lib.hid (Bj.out.next hbx)
  replace HB := Lib.hid (Below_next HB.out hbx)
  have cu0 : w10.cell? ⟨gu, 0, none⟩ = some (.int .i64 ua) := Bu.out.cell 0
  have cu1 : w10.cell? ⟨gu, 1, none⟩ = some (.int .i64 ub) := Bu.out.cell 1
  have cu2 : w10.cell? ⟨gu, 2, none⟩ = some (.int .i64 uc) := Bu.out.cell 2
  have cu3 : w10.cell? ⟨gu, 3, none⟩ = some (.int .i64 ud) := Bu.out.cell 3
  have cv0 : w10.cell? ⟨gv, 0, none⟩ = some (.int .i64 ua) := Bv.out.cell 0
  have cv1 : w10.cell? ⟨gv, 1, none⟩ = some (.int .i64 ub) := Bv.out.cell 1
  have cv2 : w10.cell? ⟨gv, 2, none⟩ = some (.int .i64 uc) := Bv.out.cell 2
  have cv3 : w10.cell? ⟨gv, 3, none⟩ = some (.int .i64 ud) := Bv.out.cell 3
  have cj0 : w10.cell? ⟨gj, 0, none⟩ = some (.int .i64 ua) := Bj.out.cell 0
  have cj1 : w10.cell? ⟨gj, 1, none⟩ = some (.int .i64 ub) := Bj.out.cell 1
  have cj2 : w10.cell? ⟨gj, 2, none⟩ = some (.int .i64 uc) := Bj.out.cell 2
  have cj3 : w10.cell? ⟨gj, 3, none⟩ = some (.int .i64 ud) := Bj.out.cell 3
  clear hbx
  go_wp2
  go_ret
  exact ⟨rfl, HB.out⟩
end Go.Proofs.Ytjnheahhlopbfaa
