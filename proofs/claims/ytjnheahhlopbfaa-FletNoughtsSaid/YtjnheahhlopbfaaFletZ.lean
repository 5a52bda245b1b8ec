/- The law FletNoughts, walked. -/
import Derived.Test.YtjnheahhlopbfaaFletY
import Derived.Test.YtjnheahhlopbfaaOwnMake
namespace Go.Proofs.Ytjnheahhlopbfaa
open Go.RowKit
set_option linter.unusedVariables false

theorem wordsOf_zeros : ∀ k : Nat, wordsOf (List.replicate (4 * k) 0) = List.replicate k 0
  | 0 => rfl
  | k + 1 => by
    rw [show 4 * (k + 1) = 4 * k + 1 + 1 + 1 + 1 by omega, List.replicate_succ, List.replicate_succ, List.replicate_succ, List.replicate_succ, List.replicate_succ]
    show wordOf 0 0 0 0 :: wordsOf (List.replicate (4 * k) 0) = _
    rw [wordsOf_zeros k]; rfl
theorem zero_wrap : Four.zero.wrap = Four.zero := by simp [Four.wrap, Four.zero, wrap64]
theorem noughts_law {X : List Int} (k : Nat) :
    Four.zero.words (wordsOf (List.replicate (4 * k) 0 ++ X)) = Four.zero.words (wordsOf X) ∧
    (Four.zero.words (wordsOf X)).words (wordsOf (List.replicate (4 * k) 0)) = (joinE (Four.zero.words (wordsOf X)) Four.zero k).wrap ∧
    ((Four.zero.words (wordsOf X)).words (wordsOf (List.replicate (4 * k) 0))).a = (Four.zero.words (wordsOf X)).a := by
  have hz : Four.zero.words (List.replicate k 0) = Four.zero := by rw [zero_words, wordsE_zeros, zero_wrap]
  refine ⟨?_, ?_, ?_⟩
  · rw [wordsOf_append _ _ (by rw [List.length_replicate]; omega), words_append, wordsOf_zeros, hz]
  · have h := (parts_wrap (Four.zero.wordsE (wordsOf X)) Four.zero k)
    rw [zero_wrap] at h
    rw [zero_words, wrap_words, wordsOf_zeros, joinE_eq, wordsE_zeros, List.length_replicate, h]
  · rw [zero_words, wrap_words, wordsOf_zeros]
    show wrap64 _ = wrap64 _
    rw [wordsE_a]
    have : (List.replicate k (0 : Int)).sum = 0 := by simp
    rw [this, Int.add_zero]

set_option maxHeartbeats 8000000 in
theorem fletNoughts (a : Option Addr) (len cap : Nat) (zs : List Int) (n : Int) (w : World) (ha : Row .u8 w a len cap zs) :
    Calls Try.prog 10 #[.slice a len cap, .int .i64 n] w fun e w' => e = .returned (.bool true) ∧ Below w.heap.size w w' := by
  have hwl := whole_le len
  have hlz := ha.hlen
  obtain ⟨X, hX⟩ : ∃ X, Hid (zs.take (wholeTo len 400) = X) := ⟨_, rfl⟩
  have hXl : X.length = wholeTo len 400 := by rw [← hX.out, List.length_take]; omega
  have hXb : Bytes X := by rw [← hX.out]; exact (bytes_of_row ha).take _
  go_enter Try.func10, Try.ntmps10
  go_wp2_with fail
  refine (words_copy a len cap zs w ha).mono ?_
  rintro e w1 ⟨ax, lx, cx, rfl, hox, hb1⟩
  rw [hX.out] at hox
  have hlx : lx = wholeTo len 400 := by have := hox.1; rw [List.length_map, hXl] at this; omega
  have l1 : lx ≤ 400 := by omega
  have L1 : Hid (lx % 4 = 0) := by rw [hlx]; exact hwl.2.2
  have RX := Lib.hid (hox.row.toRow (wf_of_bytes hXb))
  have HB := Lib.hid hb1
  clear hox hlx hXl hwl hlz hb1
  go_wp2_with fail
  refine (picked _ _ _ (by omega) (by omega)).mono ?_
  rintro e w' ⟨r, hr, hr0, hr1, rfl, rfl⟩
  obtain ⟨k, rfl⟩ := Int.eq_ofNat_of_zero_le hr0
  clear hr hr0
  have l2 : 4 * k ≤ 240 := by omega
  have l3 : (4 : Int) * (k : Int) = ((4 * k : Nat) : Int) := by omega
  have L3 := Lib.hid l3
  clear l3
  go_wp2_with (at_make; refine wpList_make_zeros rfl (.tmp 19) (.tmp 19) 37 rfl 5 (.int .u8 0) 1 Try.underlying37 info_u8 rfl .i64 .i64 (4 * (k : Int)) (4 * (k : Int)) (4 * k) rfl rfl L3.out L3.out (by omega) (by unfold maxLen; omega) ?_)
  intro w2 hoz hb2
  have hzb : Bytes (List.replicate (4 * k) (0 : Int)) := fun x hx => by rw [(List.mem_replicate.1 hx).2]; omega
  have hoz' : Own w2 w1.heap.size 5 1 (some ⟨w1.heap.size, 0, none⟩) (4 * k) (4 * k) ((List.replicate (4 * k) (0 : Int)).map (.int .u8)) := by rw [List.map_replicate]; exact hoz
  have RZ := Lib.hid (hoz'.row.toRow (wf_of_bytes hzb))
  replace RX := Lib.hid (RX.out.below hb2)
  replace HB := Lib.hid (Below_next HB.out hb2)
  obtain ⟨gz, hgz⟩ : ∃ g, Hid (w1.heap.size = g) := ⟨_, rfl⟩
  rw [hgz.out] at RZ
  rw [hgz.out]
  obtain ⟨Z, hZ⟩ : ∃ Z, Hid (List.replicate (4 * k) (0 : Int) = Z) := ⟨_, rfl⟩
  rw [hZ.out] at RZ hzb
  have LZ : Hid ((4 * k) % 4 = 0) := by show _ = _; omega
  clear hoz hoz' hb2
  go_upto_region 3 with fail
  go_wp2_with fail
  refine (of_bytes _ _ _ X _ RX.out L1.out).mono ?_
  rintro e w3 ⟨sa, sb, sc, sd, hs, rfl, hbx⟩
  replace RX := Lib.hid (RX.out.below hbx)
  replace RZ := Lib.hid (RZ.out.below hbx)
  go_upto_region 4 with fail
  obtain ⟨V3, hV3⟩ : ∃ V, V = w3.alloc (.cells #[.int .i64 sa, .int .i64 sb, .int .i64 sc, .int .i64 sd] 41) := ⟨_, rfl⟩
  rw [← hV3]
  have hby : Below w3.heap.size w3 V3 := by rw [hV3]; exact Below_alloc1 _
  replace RX := Lib.hid (RX.out.below hby)
  replace RZ := Lib.hid (RZ.out.below hby)
  have hbz : Below w2.heap.size w2 V3 := hbx.trans (hby.mono hbx.size)
  replace HB := Lib.hid (Below_next HB.out hbz)
  obtain ⟨gs, hgs⟩ : ∃ g, Hid (w3.heap.size = g) := ⟨_, rfl⟩
  rw [hgs.out]
  have Bs := Lib.hid (show Box V3 gs #[.int .i64 sa, .int .i64 sb, .int .i64 sc, .int .i64 sd] 41 from by rw [hV3, ← hgs.out]; exact Box.new rfl)
  clear hV3 hbx hby hbz
  go_wp2_with (at_builtin; refine wpList_append_any rfl (.const (.slice none 0 0)) (.tmp 27) 37 rfl V3.heap.size 5 _ 1 1 Try.underlying37 info_u8 rfl (by decide) none 0 0 [] rfl (Own.nil _ _ _ _) (some ⟨gz, 0, none⟩) (4 * k) (4 * k) (Z.map (.int .u8)) rfl RZ.out.toV (one_cells Z) (by unfold maxLen; omega) (by omega) (Nat.le_refl _) ?_)
  intro a5 c5 w5 hown5 hg5
  have hb5 : Below V3.heap.size V3 w5 := Own.grown (Own.nil V3 V3.heap.size 5 1) (Below.refl _ _) (Nat.le_refl _) (Nat.le_refl _) hg5
  have hown5' : Own w5 V3.heap.size 5 1 a5 (4 * k) c5 (Z.map (.int .u8)) := by simpa using hown5
  have HO5 := Lib.hid hown5'
  have hsz5 := hb5.size
  have hry5 : Row .u8 w5 ax lx cx X := RX.out.below hb5
  have HRY5 := Lib.hid hry5
  clear hown5 hown5' hg5 hry5
  go_wp2_with (at_builtin; refine wpList_append_any rfl (.tmp 28) (.tmp 29) 37 rfl V3.heap.size 5 _ 1 1 Try.underlying37 info_u8 rfl (by decide) a5 (4 * k) c5 (Z.map (.int .u8)) rfl HO5.out ax lx cx (X.map (.int .u8)) rfl HRY5.out.toV (one_cells X) (by unfold maxLen; omega) (by omega) hsz5 ?_)
  intro a6 c6 w6 hown6 hg6
  have hb6 : Below V3.heap.size V3 w6 := Own.grown HO5.out hb5 (Nat.le_refl _) hsz5 hg6
  have hown6' : Own w6 V3.heap.size 5 1 a6 (4 * k + lx) c6 ((Z ++ X).map (.int .u8)) := by rw [List.map_append]; exact hown6
  have hab : Bytes (Z ++ X) := fun x hx => by rcases List.mem_append.1 hx with h | h; exact hzb x h; exact hXb x h
  have RA := Lib.hid (hown6'.row.toRow (wf_of_bytes hab))
  have LA : Hid ((4 * k + lx) % 4 = 0) := by have := L1.out; show _ = _; omega
  clear hown6 hown6' hg6 HO5 HRY5 hb5 hsz5 hab
  replace RX := Lib.hid (RX.out.below hb6)
  replace RZ := Lib.hid (RZ.out.below hb6)
  replace Bs := Lib.hid (Bs.out.next hb6)
  replace HB := Lib.hid (Below_next HB.out hb6)
  clear hb6
  go_wp2_with fail
  refine (of_bytes _ _ _ (Z ++ X) _ RA.out LA.out).mono ?_
  rintro e w7 ⟨ta, tb, tc, td, ht, rfl, hbx⟩
  replace RX := Lib.hid (RX.out.below hbx)
  replace RZ := Lib.hid (RZ.out.below hbx)
  replace Bs := Lib.hid (Bs.out.next hbx)
  go_upto_region 5 with fail
  obtain ⟨V7, hV7⟩ : ∃ V, V = w7.alloc (.cells #[.int .i64 ta, .int .i64 tb, .int .i64 tc, .int .i64 td] 41) := ⟨_, rfl⟩
  rw [← hV7]
  have hby : Below w7.heap.size w7 V7 := by rw [hV7]; exact Below_alloc1 _
  replace RX := Lib.hid (RX.out.below hby)
  replace RZ := Lib.hid (RZ.out.below hby)
  replace Bs := Lib.hid (Bs.out.next hby)
  have hbz : Below w6.heap.size w6 V7 := hbx.trans (hby.mono hbx.size)
  replace HB := Lib.hid (Below_next HB.out hbz)
  obtain ⟨gt, hgt⟩ : ∃ g, Hid (w7.heap.size = g) := ⟨_, rfl⟩
  rw [hgt.out]
  have Bt := Lib.hid (show Box V7 gt #[.int .i64 ta, .int .i64 tb, .int .i64 tc, .int .i64 td] 41 from by rw [hV7, ← hgt.out]; exact Box.new rfl)
  clear hV7 hbx hby hbz
  have s0 : V7.cell? ⟨gs, 0, none⟩ = some (.int .i64 sa) := Bs.out.cell 0
  have s1 : V7.cell? ⟨gs, 1, none⟩ = some (.int .i64 sb) := Bs.out.cell 1
  have s2 : V7.cell? ⟨gs, 2, none⟩ = some (.int .i64 sc) := Bs.out.cell 2
  have s3 : V7.cell? ⟨gs, 3, none⟩ = some (.int .i64 sd) := Bs.out.cell 3
  go_wp2_with fail
  refine (more _ _ _ _ _ _ _ Z _ RZ.out LZ.out).mono ?_
  rintro e w8 ⟨ua, ub, uc, ud, hu, rfl, hbx⟩
  replace RX := Lib.hid (RX.out.below hbx)
  replace RZ := Lib.hid (RZ.out.below hbx)
  replace Bs := Lib.hid (Bs.out.next hbx)
  replace Bt := Lib.hid (Bt.out.next hbx)
  go_upto_region 6 with fail
  obtain ⟨V8, hV8⟩ : ∃ V, V = w8.alloc (.cells #[.int .i64 ua, .int .i64 ub, .int .i64 uc, .int .i64 ud] 41) := ⟨_, rfl⟩
  rw [← hV8]
  have hby : Below w8.heap.size w8 V8 := by rw [hV8]; exact Below_alloc1 _
  replace RX := Lib.hid (RX.out.below hby)
  replace RZ := Lib.hid (RZ.out.below hby)
  replace Bs := Lib.hid (Bs.out.next hby)
  replace Bt := Lib.hid (Bt.out.next hby)
  have hbz : Below V7.heap.size V7 V8 := hbx.trans (hby.mono hbx.size)
  replace HB := Lib.hid (Below_next HB.out hbz)
  obtain ⟨gu, hgu⟩ : ∃ g, Hid (w8.heap.size = g) := ⟨_, rfl⟩
  rw [hgu.out]
  have Bu := Lib.hid (show Box V8 gu #[.int .i64 ua, .int .i64 ub, .int .i64 uc, .int .i64 ud] 41 from by rw [hV8, ← hgu.out]; exact Box.new rfl)
  clear hV8 hbx hby hbz
  clear s0 s1 s2 s3
  have s0 : V8.cell? ⟨gs, 0, none⟩ = some (.int .i64 sa) := Bs.out.cell 0
  have s1 : V8.cell? ⟨gs, 1, none⟩ = some (.int .i64 sb) := Bs.out.cell 1
  have s2 : V8.cell? ⟨gs, 2, none⟩ = some (.int .i64 sc) := Bs.out.cell 2
  have s3 : V8.cell? ⟨gs, 3, none⟩ = some (.int .i64 sd) := Bs.out.cell 3
  go_wp2_with fail
  refine (join_ sa sb sc sd 0 0 0 0 k _ (by omega)).mono ?_
  rintro e w9 ⟨va, vb, vc, vd, hv, rfl, hbx⟩
  replace RX := Lib.hid (RX.out.below hbx)
  replace RZ := Lib.hid (RZ.out.below hbx)
  replace Bs := Lib.hid (Bs.out.next hbx)
  replace Bt := Lib.hid (Bt.out.next hbx)
  replace Bu := Lib.hid (Bu.out.next hbx)
  go_upto_region 7 with fail
  obtain ⟨V9, hV9⟩ : ∃ V, V = w9.alloc (.cells #[.int .i64 va, .int .i64 vb, .int .i64 vc, .int .i64 vd] 41) := ⟨_, rfl⟩
  rw [← hV9]
  have hby : Below w9.heap.size w9 V9 := by rw [hV9]; exact Below_alloc1 _
  replace RX := Lib.hid (RX.out.below hby)
  replace RZ := Lib.hid (RZ.out.below hby)
  replace Bs := Lib.hid (Bs.out.next hby)
  replace Bt := Lib.hid (Bt.out.next hby)
  replace Bu := Lib.hid (Bu.out.next hby)
  have hbz : Below V8.heap.size V8 V9 := hbx.trans (hby.mono hbx.size)
  replace HB := Lib.hid (Below_next HB.out hbz)
  obtain ⟨gv, hgv⟩ : ∃ g, Hid (w9.heap.size = g) := ⟨_, rfl⟩
  rw [hgv.out]
  have Bv := Lib.hid (show Box V9 gv #[.int .i64 va, .int .i64 vb, .int .i64 vc, .int .i64 vd] 41 from by rw [hV9, ← hgv.out]; exact Box.new rfl)
  clear hV9 hbx hby hbz
  clear s0 s1 s2 s3
  have hpl := noughts_law (X := X) k
  rw [hZ.out, hs.out, ht.out] at hpl
  rw [hu.out] at hpl
  have hj0 : (joinE ⟨sa, sb, sc, sd⟩ Four.zero k).wrap = ⟨va, vb, vc, vd⟩ := hv.out
  rw [hj0] at hpl
  obtain ⟨rfl, rfl, rfl, rfl⟩ := four_eq hpl.1
  obtain ⟨rfl, rfl, rfl, rfl⟩ := four_eq hpl.2.1
  have hA : ua = ta := hpl.2.2
  subst hA
  clear hpl hu hs ht hv hj0
  go_wp2_with fail
  refine (sure _).mono ?_
  rintro e w10 ⟨rfl, hbx⟩
  replace RX := Lib.hid (RX.out.below hbx)
  replace RZ := Lib.hid (RZ.out.below hbx)
  replace Bs := Lib.hid (Bs.out.next hbx)
  replace Bt := Lib.hid (Bt.out.next hbx)
  replace Bu := Lib.hid (Bu.out.next hbx)
  replace Bv := Lib.hid (Bv.out.next hbx)
  replace HB := Lib.hid (Below_next HB.out hbx)
  have cs0 := Bs.out.cell 0
  simp at cs0
  have cs1 := Bs.out.cell 1
  simp at cs1
  have cs2 := Bs.out.cell 2
  simp at cs2
  have cs3 := Bs.out.cell 3
  simp at cs3
  have ct0 := Bt.out.cell 0
  simp at ct0
  have ct1 := Bt.out.cell 1
  simp at ct1
  have ct2 := Bt.out.cell 2
  simp at ct2
  have ct3 := Bt.out.cell 3
  simp at ct3
  have cu0 := Bu.out.cell 0
  simp at cu0
  have cu1 := Bu.out.cell 1
  simp at cu1
  have cu2 := Bu.out.cell 2
  simp at cu2
  have cu3 := Bu.out.cell 3
  simp at cu3
  have cv0 := Bv.out.cell 0
  simp at cv0
  have cv1 := Bv.out.cell 1
  simp at cv1
  have cv2 := Bv.out.cell 2
  simp at cv2
  have cv3 := Bv.out.cell 3
  simp at cv3
  clear hbx
  go_wp2
  go_ret
  exact ⟨rfl, HB.out⟩
end Go.Proofs.Ytjnheahhlopbfaa
