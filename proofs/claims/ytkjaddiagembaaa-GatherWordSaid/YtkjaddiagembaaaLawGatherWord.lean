/- The statement GatherWordSaid is proved here: for every input the Go function GatherWord returns true, and each argument reads afterwards as it read before. No condition. -/
import Derived.WalkKit
import Derived.ProofKit
import Derived.OpenShut
import Derived.ShutString
import Derived.ChangeOld
import Derived.Below
import Derived.Carry
import Derived.Test.YtkjaddiagembaaaZ28
import Derived.Test.YtkjaddiagembaaaZ29
import Derived.Test.YtkjaddiagembaaaRows
/- The law GatherWord. -/
namespace Go.Proofs.Ytkjaddiagembaaa
open Go.RowKit Go.Shelf
set_option linter.unusedVariables false
set_option maxRecDepth 1000000

theorem xor_range8 {a b : Int} (ha : 0 ≤ a ∧ a ≤ 255) (hb : 0 ≤ b ∧ b ≤ 255) : 0 ≤ bits .xor .u8 a b ∧ bits .xor .u8 a b ≤ 255 := by
  rw [u8_xor a b ha.1 (by omega) hb.1 (by omega)]
  have : a.toNat ^^^ b.toNat < 2 ^ 8 := Nat.xor_lt_two_pow (by omega) (by omega)
  omega
set_option maxHeartbeats 16000000 in
theorem gatherWord (d p a0 : Int) (ab : Option Addr) (lb cb : Nat) (xs : List Int) (wh at_ : Int) (ay : Option Addr) (ly cy : Nat) (ys : List Int) (w : World) (hb : Row .u8 w ab lb cb xs) (hy : Row .u8 w ay ly cy ys) :
    Calls Try.prog 5 #[.int .i64 d, .int .i64 p, .int .i64 a0, .slice ab lb cb, .int .i64 wh, .int .i64 at_, .slice ay ly cy] w fun e w' => e = .returned (.bool true) ∧ Below w.heap.size w w' := by
  have HX := Lib.hid hb
  have HY := Lib.hid hy
  have z1 := hy.hle
  have z2 := hy.hmax
  unfold maxLen at z2
  clear hb hy
  obtain ⟨H, hH⟩ : ∃ H, Hid (w.heap.size = H) := ⟨_, rfl⟩
  go_enter Try.func5, Try.ntmps5
  go_upto_region 3 with (first
    | (go_at_call 7; refine (shape d p _).mono ?_; rintro e w' ⟨D, P, hD1, hD2, hP1, hP2, hPD, rfl, rfl⟩)
    | (go_at_call 8; refine (picked a0 _ _ (by omega) (by omega)).mono ?_; rintro e w' ⟨ra, hra, hra0, hra1, rfl, rfl⟩))
  clear hra
  obtain ⟨D, rfl⟩ := Int.eq_ofNat_of_zero_le (show 0 ≤ D by omega)
  obtain ⟨P, rfl⟩ := Int.eq_ofNat_of_zero_le (show 0 ≤ P by omega)
  obtain ⟨ra, rfl⟩ := Int.eq_ofNat_of_zero_le hra0
  go_wp2_with fail
  refine (blockW ab lb cb xs 1000 w HX.out (by omega) (by omega)).mono ?_
  rintro e w1 ⟨a1, c1, rfl, O1, B1⟩
  have hbl := blockB_len xs 1000 (by omega)
  obtain ⟨dat, hdat⟩ : ∃ dat, blockB xs 1000 = dat := ⟨_, rfl⟩
  rw [hdat] at O1 hbl ⊢
  obtain ⟨n, hn⟩ : ∃ n, dat.length = n := ⟨_, rfl⟩
  rw [hn] at O1 hbl ⊢
  have HX1 : Hid (Byt xs) := fun v hv => byte_range (HX.out.hwf v hv)
  have hdb : Byt dat := by
    rw [← hdat]; unfold blockB
    split
    · intro v hv; obtain rfl := List.mem_singleton.1 hv; omega
    · exact fun v hv => HX1.out v (List.mem_of_mem_take hv)
  have R1 : Hid (Row .u8 w1 a1 n c1 dat) := VRow.toRow O1.out.row (fun v hv => WalkArith.wf_u8 (hdb v hv))
  have HB1 := Lib.hid B1
  have HDB := Lib.hid hdb
  have HN := Lib.hid hn
  obtain ⟨C, hC⟩ : ∃ C, C = (n + 127) / 128 := ⟨_, rfl⟩
  obtain ⟨b, hb⟩ := blk_ex (D := D) (P := P) (C := C) (by omega) (by omega) (by omega) (by omega) (by omega) (by omega) (by omega)
  have HBK := Lib.hid hb
  have hPp := hb.p
  have HLW := Lib.hid (laidW D P ra n C b hb (by omega) (by omega) (by omega) (by omega) (by omega) (by omega) (by omega) (by omega) hC a1 c1 dat w1 R1.out)
  have HGW := fun (ps : List (Bool × List Int)) (al' : Option Addr) (cl' : Nat) (s : Four) (w' : World) (h1 : SRow pcL w' (fun _ => True) al' (b.p + b.m) cl' ps) (h2 : ∀ c, c < b.p + b.m → (ps.getD c (false, [])).1 = false → (ps.getD c (false, [])).2.length = b.sz c) (h3 : ∀ c, c < b.p + b.m → (ps.getD c (false, [])).2.length ≤ b.long) h4 =>
    gatherW D P ra n C b hb (by omega) (by omega) (by omega) (by omega) (by omega) (by omega) (by omega) (by omega) hC ps al' cl' s w' h1 h2 h3 h4
  have HG := Lib.hid HGW
  have HC := Lib.hid hC
  have HPP := Lib.hid hPp
  clear HGW hb hn hdat O1 B1 hdb hC
  go_wp2_with fail
  refine HLW.out.mono ?_
  rintro e w2 ⟨a2, c2, cs, rfl, HSV, HSO, B2⟩
  obtain ⟨sa, sb, sc, sd, hs4, rfl⟩ := HSV.out
  have HS4 := Lib.hid hs4
  have HB2 := Lib.hid B2
  clear HLW HSV hs4 B2
  obtain ⟨nn, hnn⟩ : ∃ nn, b.p + b.m = nn := ⟨_, rfl⟩
  have hpm : b.p + 1 ≤ nn := by have := b.h2.1; omega
  have hn8 : nn ≤ 8 := by have := b.h2.2; omega
  rw [hPp] at hpm
  clear hPp
  have HNN := Lib.hid hnn
  rw [hnn] at HSO
  rw [hnn]
  clear hnn
  go_upto_region 7 with fail
  obtain ⟨h16, e16⟩ : ∃ h, w2.heap.size = h := ⟨_, rfl⟩
  obtain ⟨X, hX⟩ : ∃ X, X = w2.alloc (.cells #[.int .i64 sa, .int .i64 sb, .int .i64 sc, .int .i64 sd] 30) := ⟨_, rfl⟩
  have b16 : Box X h16 #[.int .i64 sa, .int .i64 sb, .int .i64 sc, .int .i64 sd] 30 := by rw [hX]; exact Box.new e16.symm
  have h2X : Below w2.heap.size w2 X := by rw [hX]; exact Below_alloc1 _
  have hw1X : Below w1.heap.size w1 X := HB2.out.trans (h2X.mono HB2.out.size)
  have hwX : Below w.heap.size w X := HB1.out.trans (hw1X.mono HB1.out.size)
  have HO2 : Hid (SOwn pcL X w1.heap.size 35 (fun _ => True) a2 nn c2 (pieces b (padB C dat) nn)) := HSO.out.below h2X
  have HWX := Lib.hid hwX
  have HB16 := Lib.hid b16
  have hH1 : H ≤ w1.heap.size := by have := HB1.out.size; have := hH.out; omega
  have hXs : Hid (X.heap.size = h16 + 1) := by show _ = _; rw [hX]; simp [e16]
  have h16X : h16 < X.heap.size := by have := hXs.out; omega
  have h16w : w1.heap.size ≤ h16 := by have := HB2.out.size; omega
  have hlc2 := HO2.out.hle
  have hmc2 := HO2.out.hmax
  unfold maxLen at hmc2
  obtain ⟨M1, hM1⟩ : ∃ M1, w1.heap.size = M1 := ⟨_, rfl⟩
  rw [hM1] at hH1 h16w HO2
  have HM1 := Lib.hid hM1
  clear hM1
  have HG0X : Hid (∀ g0, a2 = some ⟨g0, 0, none⟩ → g0 < h16) := fun g0 e => by rw [← e16]; exact (HSO.out.lt g0 (by rw [e]; rfl)).2
  rw [← hX, e16]
  have RX : Hid (Row .u8 X a1 n c1 dat) := R1.out.below hw1X
  have HA1 : Hid (∀ x o, a1 = some ⟨x, o, none⟩ → x < M1 ∨ n = 0) := fun x o e => by
    rcases R1.out.hat with h0 | ⟨b', o', e', hc⟩
    · exact .inr h0
    · rw [e] at e'
      injection e' with e'
      injection e' with e1 e2
      subst e1
      by_cases h0 : n = 0
      · exact .inr h0
      · exact .inl (by rw [← HM1.out]; exact World.block_lt_of_cell? _ _ (hc 0 (by omega)))
  clear R1
  clear hX e16 b16 h2X hw1X hwX HSO HB2 HB1 HX HX1
  go_wp2_with fail
  refine (picked wh (nn : Int) _ (by omega) (by omega)).mono ?_
  rintro e w' ⟨rc, hrc, hrc0, hrc1, rfl, rfl⟩
  obtain ⟨c, rfl⟩ := Int.eq_ofNat_of_zero_le hrc0
  clear hrc
  have hcn : c < nn := by omega
  have hpd : (padB C dat).length = b.bytes := by
    have := HC.out; rw [HBK.out.s]; exact fillC_len (by rw [HN.out]; omega)
  have hpb : Byt (padB C dat) := fillC_byt HDB.out
  obtain ⟨g0, rfl⟩ : ∃ g0, a2 = some ⟨g0, 0, none⟩ := HO2.out.some (by omega)
  have hg0 := HO2.out.lt g0 rfl
  have hg16 : g0 < h16 := HG0X.out g0 rfl
  obtain ⟨pcs, hpcs⟩ : ∃ pcs, pieces b (padB C dat) nn = pcs := ⟨_, rfl⟩
  have HPCS := Lib.hid hpcs
  rw [hpcs] at HO2
  have hpl : Hid (pcs.length = nn) := by show _ = _; rw [← hpcs, pieces_len]
  have hget : Hid (∀ x, x < nn → pcs.getD x (false, []) = (false, b.col (padB C dat) x)) := fun x hx => by rw [← hpcs]; exact pieces_get b (padB C dat) hx
  obtain ⟨bl, ol, ad, nd, cd, hbl, hblx, _, e0, e1, hrw⟩ := pcRow (HO2.out.row (fun _ _ => trivial)) c (false, b.col (padB C dat) c) (by
    have h1 := hget.out c hcn
    rw [List.getD, List.getElem?_eq_getElem (by rw [hpl.out]; exact hcn)] at h1
    rw [List.getElem?_eq_getElem (by rw [hpl.out]; exact hcn)]
    exact congrArg some h1)
  obtain ⟨rfl, rfl⟩ : g0 = bl ∧ 0 = ol := by injection hbl with hbl; injection hbl with q1 q2; exact ⟨q1, q2⟩
  rw [Nat.zero_add] at e0 e1
  have hnd : nd = b.sz c := by rw [← hrw.hlen]; exact b.col_len hpd (by rw [HNN.out]; exact hcn)
  have hcnt := b.h3 c (by rw [HNN.out]; exact hcn)
  have h5c := b.h5
  obtain ⟨qd, hqd⟩ : ∃ qd, b.cnt c = qd := ⟨_, rfl⟩
  have hnd2 : nd = qd * 128 := by rw [hnd]; unfold Blk.sz; rw [hqd]
  have hq1 : 1 ≤ qd := by omega
  have hq2 : qd ≤ 32 := by omega
  have hnd4 : 4 ≤ nd := by omega
  have hndm : nd ≤ 4096 := by omega
  have hr4 : Int.tmod (nd : Int) 4 = 0 := by rw [Int.tmod_eq_emod_of_nonneg (by omega)]; omega
  have hr4' : (nd : Int) % 4 = 0 := by omega
  have hlt4 : ¬ (nd : Int) < 4 := by omega
  have hlt4' : decide ((nd : Int) < 4) = false := by simp; omega
  have hlt4n : decide (nd < 4) = false := by simp; omega
  have HND := Lib.hid hnd
  have HND2 := Lib.hid hnd2
  have HPD := Lib.hid hpd
  have HPB := Lib.hid hpb
  have HROW := Lib.hid hrw
  have hrl := hrw.hle
  have hrm := hrw.hmax
  unfold maxLen at hrm
  clear hpcs hnd hnd2 hpd hpb hrw hbl hcnt h5c hqd
  go_upto_region 10 with fail
  clear hr4 hr4' hlt4 hlt4' hlt4n
  obtain ⟨Y0, hY0⟩ : ∃ Y0, b.col (padB C dat) c = Y0 := ⟨_, rfl⟩
  have hYl : Y0.length = nd := by rw [← hY0]; exact HROW.out.hlen
  have hYb : Byt Y0 := by rw [← hY0]; exact b.col_byt HPB.out c
  rw [hY0] at HROW
  have HY0 := Lib.hid hY0
  have HYL := Lib.hid hYl
  have HYB := Lib.hid hYb
  clear hY0 hYl hYb
  go_wp2_with (at_builtin; refine wpList_append_any rfl (.const (.slice none 0 0)) (.tmp 76) 22 rfl X.heap.size 5 _ 1 1 Try.underlying22 info_u8 rfl (by decide) none 0 0 [] rfl (Own.nil _ _ _ _) ad nd cd _ rfl HROW.out.toV (ones8 _) (by unfold maxLen; omega) (by omega) (Nat.le_refl _) ?_)
  intro a3 c3 w3 ho hg
  have hle3 : Below X.heap.size X w3 := Own.grown (Own.nil X X.heap.size 5 1) (Below.refl _ _) (Nat.le_refl _) (Nat.le_refl _) hg
  have ho' : Own w3 X.heap.size 5 1 a3 nd c3 (Y0.map (.int .u8)) := by simpa using ho
  obtain ⟨gy, rfl⟩ : ∃ g, a3 = some ⟨g, 0, none⟩ := by
    rcases ho'.2 with ⟨_, h2⟩ | ⟨g, c, cur, hv, _⟩
    · omega
    · injection hv with hv; exact ⟨g, hv⟩
  have hgy := (World.ownsRow.lt ho' gy rfl).1
  have HO3 := Lib.hid ho'
  have HL3 := Lib.hid hle3
  have hc3 := ho'.row.hle
  have hc3m := ho'.row.hmax
  unfold maxLen at hc3m
  clear ho ho' hg hle3
  obtain ⟨q4, hq4⟩ : ∃ q4, nd = 4 * q4 := ⟨nd / 4, by have := HND2.out; omega⟩
  have hdv : Int.tdiv (nd : Int) 4 = (q4 : Int) := by rw [Int.tdiv_eq_ediv_of_nonneg (by omega)]; omega
  have hdv' : (nd : Int) / 4 = (q4 : Int) := by omega
  have HQ4 := Lib.hid hq4
  clear hq4
  have hq41 : 1 ≤ q4 := by have := HQ4.out; omega
  have hq42 : q4 ≤ 1024 := by have := HQ4.out; omega
  go_wp2_with fail
  refine (picked at_ (q4 : Int) _ (by omega) (by omega)).mono ?_
  rintro e w' ⟨rr, hrr, hrr0, hrr1, rfl, rfl⟩
  obtain ⟨r, rfl⟩ := Int.eq_ofNat_of_zero_le hrr0
  clear hrr hdv hdv'
  have hr4n : r < q4 := by omega
  have hir : 4 * r + 4 ≤ nd := by have := HQ4.out; omega
  go_upto_block 0 with fail
  go_cut [25] from 84 to 105 (fun _ wx => ∃ Y : List Int, Hid (Y.length = nd ∧ Byt Y ∧ (∀ t, t < 4 * r ∨ 4 * r + 4 ≤ t → Y.getD t 0 = Y0.getD t 0)) ∧ Hid (Own wx X.heap.size 5 1 (some ⟨gy, 0, none⟩) nd c3 (Y.map (.int .u8))) ∧ Hid (Below X.heap.size X wx))
  case first =>
    go_wp2_with fail
    go_loopw [25] (fun v wr => ∃ (m : Nat) (Y : List Int), m ≤ 4 ∧ v = .int .i64 m ∧ Hid (Y.length = nd ∧ Byt Y ∧ (∀ t, t < 4 * r ∨ 4 * r + 4 ≤ t → Y.getD t 0 = Y0.getD t 0)) ∧
      Hid (Own wr X.heap.size 5 1 (some ⟨gy, 0, none⟩) nd c3 (Y.map (.int .u8))) ∧ Hid (Below X.heap.size X wr)) (fun v _ => 4 - (intOf v).toNat)
    case atStart => exact ⟨0, Y0, by omega, rfl, ⟨HYL.out, HYB.out, fun _ _ => rfl⟩, HO3, HL3⟩
    case round =>
      obtain ⟨m, Y, hm, rfl, hY, hOY, hbr⟩ := hrel
      by_cases hlt : m < 4 ∧ m < ly
      · obtain ⟨hlt, hlb⟩ := hlt
        rcases HY.out.hat with h0'' | ⟨b1, o1, rfl, hc1⟩
        · omega
        have ey := hc1 m hlb
        have hblk : b1 < w.heap.size := World.block_lt_of_cell? _ _ ey
        have hbX : Below w.heap.size w wr := HWX.out.trans (hbr.out.mono HWX.out.size)
        have ey' : wr.cell? ⟨b1, o1 + m, none⟩ = some (.int .u8 (ys.getD m 0)) := (hbX.cell (p := ⟨b1, o1 + m, none⟩) hblk).trans ey
        obtain ⟨v, hv⟩ : ∃ v, Hid (ys.getD m 0 = v) := ⟨_, rfl⟩
        rw [hv.out] at ey'
        have hvb : 0 ≤ v ∧ v ≤ 255 := by rw [← hv.out]; exact HY.out.byte m
        obtain ⟨u, hu⟩ : ∃ u, Hid (Y.getD (4 * r + m) 0 = u) := ⟨_, rfl⟩
        have hub : 0 ≤ u ∧ u ≤ 255 := by rw [← hu.out]; exact Bytes.getD hY.out.2.1 _
        have hYlen := Lib.hid hY.out.1
        have e2 : wr.cell? ⟨gy, 4 * r + m, none⟩ = some (.int .u8 u) := by
          rw [World.ownsRow.cellAt hOY.out (4 * r + m) (by omega), ← hu.out]
          simp [List.getD, List.getElem?_eq_getElem (show 4 * r + m < Y.length by rw [hYlen.out]; omega)]
        have f2 : wr.frozen? ⟨gy, 4 * r + m, none⟩ = false := World.ownsRow.frozenAt hOY.out _
        have hst := World.ownsRow.stored hOY.out (4 * r + m) (.int .u8 (bits .xor .u8 u v))
        rw [← List.map_set] at hst
        have HST := Lib.hid hst
        have hxr := xor_range8 hub hvb
        have HXR := Lib.hid hxr
        clear hst ey hc1 hbX hxr
        have i1 : (m : Int) < (ly : Int) := by omega
        have i2 : 4 * (r : Int) + (m : Int) < (nd : Int) := by omega
        have E0 := Lib.hid e0
        have E1 := Lib.hid e1
        clear e0 e1
        go_wp2
        go_region
        go_wp2
        go_roundw
        case rel =>
          refine ⟨m + 1, Y.set (4 * r + m) (bits .xor .u8 u v), by omega, by go_num, ⟨by rw [List.length_set]; exact hY.out.1, ?_, ?_⟩, HST.out.1, (hbr.out.setCell (p := ⟨gy, 4 * r + m, none⟩) hgy _).drew⟩
          · intro x hx
            rcases List.mem_or_eq_of_mem_set hx with h | h
            · exact hY.out.2.1 x h
            · rw [h]; exact HXR.out
          · intro t ht
            rw [← hY.out.2.2 t ht]
            simp [List.getD, show ¬ 4 * r + m = t by omega]
        case measure => simp [intOf]; omega
      · have hends : (¬ m < 4) ∨ (m < 4 ∧ ¬ m < ly) := by omega
        clear hlt
        rcases hends with hn | ⟨hn1, hn2⟩
        all_goals
          go_wp2_with fail
          go_meet
          exact ⟨Y, hY, hOY, hbr⟩
  case rest =>
    obtain ⟨Y, hY, hOY, hbr⟩ := hcut
    have hYY := Lib.hid hY.out
    have HRY : Hid (Row .u8 wc (some ⟨gy, 0, none⟩) nd c3 Y) := VRow.toRow hOY.out.row (fun v hv => WalkArith.wf_u8 (hY.out.2.1 v hv))
    have HR0 : Hid (Row .u8 wc ad nd cd Y0) := HROW.out.below hbr.out
    have x1 : wc.cell? ⟨g0, c * 2 + 1, none⟩ = some (.slice ad nd cd) := (hbr.out.cell (p := ⟨g0, c * 2 + 1, none⟩) hblx).trans e1
    have HOr := Lib.hid (HO2.out.below hbr.out)
    have HB16r := Lib.hid (HB16.out.below hbr.out h16X)
    have HXr := Lib.hid hbr.out
    have hgyr := (World.ownsRow.lt hOY.out gy rfl).2
    have E0 := Lib.hid e0
    have E1 := Lib.hid e1
    clear hY hOY hbr e0 e1 HL3 HO3
    go_wp2_with fail
    refine (sameBytes (some ⟨gy, 0, none⟩) nd c3 Y ad nd cd Y0 wc HRY.out HR0.out).mono ?_
    rintro e wq ⟨rfl, k9, rfl⟩
    obtain ⟨wd, hwd⟩ : ∃ wd, wd = wc.drewN k9 := ⟨_, rfl⟩
    have hXd : Below X.heap.size X wd := by rw [hwd]; exact below_drewN HXr.out k9
    have hOd : Hid (SOwn pcL wd M1 35 (fun _ => True) (some ⟨g0, 0, none⟩) nn c2 pcs) := by
      rw [hwd]; exact HOr.out.keep (Nat.le_refl _) (fun _ _ _ => rfl)
    have hYd : Hid (Row .u8 wd (some ⟨gy, 0, none⟩) nd c3 Y) := by rw [hwd]; exact HRY.out.drewN k9
    have hgyd : gy < wd.heap.size := by rw [hwd]; exact hgyr
    have HXd := Lib.hid hXd
    rw [← hwd]
    obtain ⟨⟨u1, y1⟩, ⟨u2, y2⟩, f1, f2⟩ := hOd.out.cells_two rfl c hcn
    have HNX := Lib.hid (hOd.out.put_snd2 rfl c hcn (x := (false, Y)) (v := .slice (some ⟨gy, 0, none⟩) nd c3) (F2 := fun b => b = gy) (fun F y u v0 hy hat => by
      have hyx : y = (false, b.col (padB C dat) c) := by
        have h1 := hget.out c hcn
        rw [List.getD, hy] at h1
        exact h1
      subst hyx
      obtain ⟨us, ws, hcs, hu, _⟩ := hat
      obtain rfl : us = [.bool false] := hu
      injection hcs with h1 h2
      subst h1
      exact ⟨[.bool false], [.slice (some ⟨gy, 0, none⟩) nd c3], rfl, rfl, _, _, _, rfl, hYd.out.toS (fun x hx _ => by injection hx with hx; rw [← hx]; exact .inr rfl)⟩) (fun b hb => by subst hb; exact ⟨trivial, hgyd, by omega⟩))
    clear hwd hXd
    obtain ⟨eb, heb⟩ : ∃ eb, decide (Y = Y0) = eb := ⟨_, rfl⟩
    rw [heb]
    have HEB := Lib.hid heb
    clear heb
    go_upto_region 18 with fail
    obtain ⟨wg, hwg⟩ : ∃ wg, wg = wd.setCell ⟨g0, c * 2 + 1, none⟩ (.slice (some ⟨gy, 0, none⟩) nd c3) := ⟨_, rfl⟩
    have hB16g : Box wg h16 #[.int .i64 sa, .int .i64 sb, .int .i64 sc, .int .i64 sd] 30 := by
      rw [hwg]
      exact Box.other (HB16.out.below HXd.out h16X) _ (by show g0 ≠ h16; omega) _
    have hXg : Below M1 X wg := by
      rw [hwg]
      exact (HXd.out.mono (by omega)).setCell (p := ⟨g0, c * 2 + 1, none⟩) (by show M1 ≤ g0; omega) _
    have hOg : Hid (SOwn pcL wg M1 35 (fun _ => True) (some ⟨g0, 0, none⟩) nn c2 (pcs.set c (false, Y))) := by rw [hwg]; exact HNX.out
    have hLg : Below w.heap.size w wg := HWX.out.trans (hXg.mono (by have := hH.out; omega))
    have HLG := Lib.hid hLg
    have HRg : Hid (Row .u8 wg a1 n c1 dat) := by
      refine RX.out.keptIn (fun x o e hx => ?_)
      rcases HA1.out x o e with h | h
      · exact hXg.block x h
      · omega
    have t0 := hB16g.cell 0
    have t1 := hB16g.cell 1
    have t2 := hB16g.cell 2
    have t3 := hB16g.cell 3
    rw [← hwg]
    clear hwg HNX y1 y2 f1 f2 hOd hB16g hXg hLg
    obtain ⟨ps, hps⟩ : ∃ ps, pcs.set c (false, Y) = ps := ⟨_, rfl⟩
    rw [hps] at hOg
    have hgp : Hid (∀ x, x < nn → ps.getD x (false, []) = (false, if x = c then Y else b.col (padB C dat) x)) := by
      intro x hx
      rw [← hps]
      by_cases e : x = c
      · subst e
        rw [if_pos rfl]
        simp [List.getD, hpl.out, hx]
      · rw [if_neg e, List.getD, List.getElem?_set_ne (fun h => e h.symm), ← List.getD]
        exact hget.out x hx
    obtain ⟨hlost, hkept⟩ := keptOf_none (ps := ps) (n := nn) (fun x hx => by rw [hgp.out x hx])
    have hfx : Hid (∀ x, x < nn → (ps.getD x (false, [])).2 = if x = c then Y else b.col (padB C dat) x) := fun x hx => by rw [hgp.out x hx]
    have hlx : Hid (∀ x, x < nn → ((ps.getD x (false, [])).2).length = b.sz x) := fun x hx => by
      rw [hfx.out x hx]
      by_cases e : x = c
      · rw [if_pos e, hYY.out.1, e]; exact HND.out
      · rw [if_neg e]; exact b.col_len HPD.out (by rw [HNN.out]; exact hx)
    have hgood : Hid ((Y = Y0 ∨ c < P) → b.data (fun x => (ps.getD x (false, [])).2) [] = padB C dat) := fun h => b.data_as HPD.out (fun k hk => by
      have hk2 : b.p + k < nn := by rw [← HNN.out]; omega
      show (ps.getD (b.p + k) (false, [])).2 = _
      rw [hfx.out _ hk2, ← b.col_part]
      by_cases e : b.p + k = c
      · rw [if_pos e, e, HY0.out]
        rcases h with h | h
        · exact h
        · have := HPP.out; omega
      · rw [if_neg e])
    have hbad : Hid (¬ Y = Y0 → ¬ c < P → b.data (fun x => (ps.getD x (false, [])).2) [c] = padB C dat) := fun _ _ => b.data_good HPD.out HPB.out ⟨fun x hx => by rw [List.mem_singleton.1 hx, HNN.out]; exact hcn, by simp, by have := b.h1.1; simpa using this, fun x hx => by
        rw [HNN.out] at hx
        show ((ps.getD x (false, [])).2).length ≤ _
        rw [hlx.out x hx]; exact b.sz_le (by rw [HNN.out]; exact hx)⟩ (fun x hx hxc => by
        rw [HNN.out] at hx
        show (ps.getD x (false, [])).2 = _
        rw [hfx.out x hx, if_neg (by simpa using hxc)])
    have hunf : Hid (¬ Y = Y0 → ¬ c < P → ¬ sumF (b.data (fun x => (ps.getD x (false, [])).2) []) = sumF (padB C dat)) := fun hne hcP hs => by
      have hj : c - b.p < b.m := by have := HNN.out; have := HPP.out; omega
      have hjc : b.p + (c - b.p) = c := by have := HPP.out; omega
      have := word_unfit b HPD.out HPB.out (f := fun x => (ps.getD x (false, [])).2) (j := c - b.p) (i := 4 * r) hj (by omega) (by rw [hjc, ← HND.out]; exact hir) (fun k hk hkj => by
          show (ps.getD (b.p + k) (false, [])).2 = _
          rw [hfx.out _ (by rw [← HNN.out]; omega), if_neg (by omega), b.col_part]) (by rw [hjc]; exact hlx.out c hcn) (by
          rw [hjc]; show Byt (ps.getD c (false, [])).2; rw [hfx.out c hcn, if_pos rfl]; exact hYY.out.2.1) (fun t ht => by
          rw [hjc]; show (ps.getD c (false, [])).2.getD t 0 = _
          rw [hfx.out c hcn, if_pos rfl, hYY.out.2.2 t ht, ← HY0.out]
          have h2 := b.col_part (padB C dat) (c - b.p)
          rw [hjc] at h2
          rw [h2]) hs
      rw [hjc] at this
      have h2 := b.col_part (padB C dat) (c - b.p)
      rw [hjc] at h2
      rw [← h2, HY0.out] at this
      have h3 : (ps.getD c (false, [])).2 = Y := by rw [hfx.out c hcn, if_pos rfl]
      exact hne (h3.symm.trans this)
    have hG : ∀ h2 h3 h4, _ := fun h2 h3 h4 => HG.out ps (some ⟨g0, 0, none⟩) c2 ⟨sa, sb, sc, sd⟩ wg (by rw [HNN.out]; exact hOg.out.row (fun _ _ => trivial)) h2 h3 h4
    rw [HNN.out, hlost, hkept] at hG
    have hG2 := hG (fun x hx _ => hlx.out x hx) (fun x hx => by rw [hlx.out x hx]; exact b.sz_le (by rw [HNN.out]; exact hx)) (fun _ => by
      by_cases h : Y = Y0 ∨ c < P
      · refine ⟨0, [], Nat.zero_le _, by rw [picks_zero]; exact List.mem_singleton.2 rfl, ?_⟩
        show sumF (b.data _ []) = _
        rw [hgood.out h]; exact HS4.out
      · have h1 : ¬ Y = Y0 := fun e => h (.inl e)
        have h2 : ¬ c < P := fun e => h (.inr e)
        refine ⟨1, [c], by rw [List.length_range, List.length_nil]; have := HPP.out; omega, by rw [List.length_range]; exact picks_all (q := [c]) ⟨Nat.zero_le _, hcn, by show c + 1 ≤ nn; omega⟩, ?_⟩
        rw [mapK_one hcn]
        show sumF (b.data _ [c]) = _
        rw [hbad.out h1 h2]; exact HS4.out)
    have HG2 := Lib.hid hG2
    have HLOST := Lib.hid hlost
    have HKEPT := Lib.hid hkept
    clear hG hG2 hlost hkept hps hgp hOg
    go_wp2_with fail
    refine HG2.out.mono ?_
    rintro e wf (⟨h1, _⟩ | ⟨h1, g, ap', ap, cp, rfl, hfd, hrd, hrp, hbf⟩)
    · rw [HNN.out, HLOST.out] at h1
      simp at h1
    · rw [HNN.out, HLOST.out, HKEPT.out] at hfd
      rw [HNN.out, HLOST.out, List.nil_append] at hrd
      have hLF := Lib.hid (HLG.out.trans (hbf.mono HLG.out.size))
      have HRF := Lib.hid (HRg.out.below hbf)
      have hdt : Hid ((padB C dat).take n = dat) := by show _ = _; unfold padB; rw [← HN.out]; exact fillC_take rfl
      have hcI : (c : Int) < (P : Int) ∨ ¬ (c : Int) < (P : Int) := by omega
      by_cases hA : Y = Y0 ∨ c < P
      · have hg : g = [] := hfd.none (by show sumF (b.data _ []) = _; rw [hgood.out hA]; exact HS4.out)
        subst hg
        rw [hgood.out hA, hdt.out] at hrd
        have HRD := Lib.hid hrd
        have hor : eb = true ∨ (eb = false ∧ c < P) := by
          rcases hA with h | h
          · exact .inl (by rw [← HEB.out]; exact decide_eq_true h)
          · by_cases h2 : eb = true
            · exact .inl h2
            · exact .inr ⟨by simpa using h2, h⟩
        clear hbf h1 hfd hrd hrp hA hcI
        rcases hor with rfl | ⟨rfl, hcP⟩
        · go_wp2_with fail
          refine (sameBytes ap' n n dat a1 n c1 dat wf HRD.out HRF.out).mono ?_
          rintro e w' ⟨rfl, k8, rfl⟩
          go_wp2_with fail
          go_ret
          exact ⟨by simp, below_drewN hLF.out _⟩
        · have hcPi : (c : Int) < (P : Int) := by omega
          go_wp2_with fail
          refine (sameBytes ap' n n dat a1 n c1 dat wf HRD.out HRF.out).mono ?_
          rintro e w' ⟨rfl, k8, rfl⟩
          go_wp2_with fail
          go_ret
          exact ⟨by simp, below_drewN hLF.out _⟩
      · have hY1 : ¬ Y = Y0 := fun e => hA (.inl e)
        have hY2 : ¬ c < P := fun e => hA (.inr e)
        obtain ⟨j, hj, rfl, hfj⟩ := found_one (c := c) hcn (by
          show ¬ sumF (b.data _ []) = _
          have hu := hunf.out hY1 hY2
          rw [HS4.out] at hu
          exact hu) (by show sumF (b.data _ [c]) = _; rw [hbad.out hY1 hY2]; exact HS4.out) hfd
        obtain rfl : eb = false := by rw [← HEB.out]; exact decide_eq_false hY1
        rcases hrp.hat with h0 | ⟨bp, op, rfl, hcp⟩
        · simp at h0
        have ep := hcp 0 (by simp)
        rw [nats_getD] at ep
        have ep' : wf.cell? ⟨bp, op, none⟩ = some (.int .i64 (j : Int)) := by simpa using ep
        have hcple := hrp.hle
        have hcpmx := hrp.hmax
        unfold maxLen at hcpmx
        have hj1 : (j : Int) ≤ (c : Int) := by omega
        have hcPi : ¬ (c : Int) < (P : Int) := by omega
        have hcPd : decide ((c : Int) < (P : Int)) = false := by simp; omega
        have hcPn : decide (c < P) = false := by simp; omega
        have hq1 : (((1 : Nat) : Int) == 1) = true := by decide
        clear hcp ep hcI hA
        simp only [List.length_cons, List.length_nil, Nat.zero_add] at hcple ⊢
        by_cases hjc : j < c
        · have hj2 : (j : Int) < (c : Int) := by omega
          clear hbf h1 hfd hrd hrp hfj
          go_wp2_with fail
          go_ret
          exact ⟨rfl, hLF.out⟩
        · obtain rfl : j = c := by omega
          rw [hbad.out hY1 hY2, hdt.out] at hrd
          have HRD := Lib.hid hrd
          have hj2 : decide ((j : Int) < (j : Int)) = false := by simp
          clear hbf h1 hfd hrd hrp hfj
          go_wp2_with fail
          refine (sameBytes ap' n n dat a1 n c1 dat wf HRD.out HRF.out).mono ?_
          rintro e w' ⟨rfl, k8, rfl⟩
          go_wp2_with fail
          go_ret
          exact ⟨by simp, below_drewN hLF.out _⟩
end Go.Proofs.Ytkjaddiagembaaa
/- The statement GatherWordSaid is proved here: for every input the Go function GatherWord returns true, and each argument reads afterwards as it read before. No condition. -/
namespace Go.Proofs.Ytkjaddiagembaaa.gatherWord
open Go.ChangeShapes Go.WideShapes Go.ChangeAt Go.RowKit
set_option linter.unusedVariables false

theorem own : ownKnob Try.prog.godebug = none := by kernel_rfl
theorem laidOut : laidOutB Try.prog = true := by kernel_rfl

set_option maxRecDepth 100000 in
theorem lifted (os : Os) (started : os.Started) (H : Type) (enc : TypeId × Value → H) :
    ReturnsInHanded {} Try.checked os 5 .any (Rows.gatherWordSpec.pre6 enc Try.prog Try.f5 Rows.gatherWordRow.domain false) (Rows.gatherWordSpec.post enc Try.prog Try.f5 false true false false) := by
  refine returnsInHanded_of_change (C := Try.checked) own started (by kernel_rfl) Try.func5
    (ChangeSpec.witness6 (enc := enc) (C := Try.checked) false ⟨#[], #[.int .i64 0, .int .i64 0, .int .i64 0, .slice none 0 0, .int .i64 0, .int .i64 0, .slice none 0 0], []⟩ 5 (by kernel_rfl) (by kernel_rfl) (by kernel_rfl) (by kernel_rfl)) ?_
  intro W base args ds gs before hval0 hW hcnd _
  have hval : ∀ (j : Nat) t v, Try.f5.params[j]? = some t → args[j]? = some v → Value.okWide Try.prog W .any base t v := hval0
  have hW' := hW
  obtain ⟨p, q, hA0, hV, rfl, hfz, hnd⟩ := hW
  have hA : DataW.TrodAll enc Try.prog W 0 (fun _ => true) true Try.f5.params.toList args.toList ds p := hA0
  rw [Try.params5] at hA hval
  obtain ⟨v0, vs0, d0, ds0, p0, q0, hargs, rfl, rfl, h0, r0⟩ := trodAll_cons hA
  obtain ⟨v1, vs1, d1, ds1, p1, q1, rfl, rfl, rfl, h1, r1⟩ := trodAll_cons r0
  obtain ⟨v2, vs2, d2, ds2, p2, q2, rfl, rfl, rfl, h2, r2⟩ := trodAll_cons r1
  obtain ⟨v3, vs3, d3, ds3, p3, q3, rfl, rfl, rfl, h3, r3⟩ := trodAll_cons r2
  obtain ⟨v4, vs4, d4, ds4, p4, q4, rfl, rfl, rfl, h4, r4⟩ := trodAll_cons r3
  obtain ⟨v5, vs5, d5, ds5, p5, q5, rfl, rfl, rfl, h5, r5⟩ := trodAll_cons r4
  obtain ⟨v6, vs6, d6, ds6, p6, q6, rfl, rfl, rfl, h6, r6⟩ := trodAll_cons r5
  obtain ⟨rfl, rfl, rfl⟩ := trodAll_nil r6
  obtain rfl : args = #[v0, v1, v2, v3, v4, v5, v6] := by cases args; simp_all
  obtain ⟨rfl, rfl⟩ := trodVars_none hV
  have k0 := h0
  have lt0 : ∀ x ∈ p0, x.block < W.heap.size := by obtain ⟨m, hm⟩ := k0; exact DataW.trod_lt m _ _ _ hm
  obtain ⟨a0, rfl, _, _, w0⟩ := open_int Try.underlying3 (hval 0 3 v0 rfl rfl) h0
  have k1 := h1
  have lt1 : ∀ x ∈ p1, x.block < W.heap.size := by obtain ⟨m, hm⟩ := k1; exact DataW.trod_lt m _ _ _ hm
  obtain ⟨a1, rfl, _, _, w1⟩ := open_int Try.underlying3 (hval 1 3 v1 rfl rfl) h1
  have k2 := h2
  have lt2 : ∀ x ∈ p2, x.block < W.heap.size := by obtain ⟨m, hm⟩ := k2; exact DataW.trod_lt m _ _ _ hm
  obtain ⟨a2, rfl, _, _, w2⟩ := open_int Try.underlying3 (hval 2 3 v2 rfl rfl) h2
  have k3 := h3
  have lt3 : ∀ x ∈ p3, x.block < W.heap.size := by obtain ⟨m, hm⟩ := k3; exact DataW.trod_lt m _ _ _ hm
  obtain ⟨a3, len3, cap3, rfl⟩ := okWide_slice Try.underlying22 (hval 3 22 v3 rfl rfl)
  obtain ⟨x3, w3⟩ : ∃ xs, SRow _ W (fun _ => True) a3 len3 cap3 xs := by
    obtain ⟨fuel, hf⟩ := h3
    obtain ⟨xs, a, len, cap, hcs, hr⟩ := opens_bytesG hf
    simp [Value.cells] at hcs
    obtain ⟨rfl, rfl, rfl⟩ := hcs
    exact ⟨xs, hr⟩
  have k4 := h4
  have lt4 : ∀ x ∈ p4, x.block < W.heap.size := by obtain ⟨m, hm⟩ := k4; exact DataW.trod_lt m _ _ _ hm
  obtain ⟨a4, rfl, _, _, w4⟩ := open_int Try.underlying3 (hval 4 3 v4 rfl rfl) h4
  have k5 := h5
  have lt5 : ∀ x ∈ p5, x.block < W.heap.size := by obtain ⟨m, hm⟩ := k5; exact DataW.trod_lt m _ _ _ hm
  obtain ⟨a5, rfl, _, _, w5⟩ := open_int Try.underlying3 (hval 5 3 v5 rfl rfl) h5
  have k6 := h6
  have lt6 : ∀ x ∈ p6, x.block < W.heap.size := by obtain ⟨m, hm⟩ := k6; exact DataW.trod_lt m _ _ _ hm
  obtain ⟨a6, len6, cap6, rfl⟩ := okWide_slice Try.underlying22 (hval 6 22 v6 rfl rfl)
  obtain ⟨x6, w6⟩ : ∃ xs, SRow _ W (fun _ => True) a6 len6 cap6 xs := by
    obtain ⟨fuel, hf⟩ := h6
    obtain ⟨xs, a, len, cap, hcs, hr⟩ := opens_bytesG hf
    simp [Value.cells] at hcs
    obtain ⟨rfl, rfl, rfl⟩ := hcs
    exact ⟨xs, hr⟩
  clear hA0 hval0
  refine (gatherWord a0 a1 a2 a3 len3 cap3 x3 a4 a5 a6 len6 cap6 x6 W w3.ints w6.ints : Calls Try.prog 5 _ W fun e w' => e = .returned (.bool true) ∧ Below W.heap.size W w').mono fun e W' ⟨he, bel⟩ => ?_
  subst he
  exact ⟨_, rfl, _, _, _, [], _, [], hW', trodAll_mk1 (shut_bool Try.underlying4 _), (trodAll_cons_mk (Below.trod laidOut (by kernel_rfl) (of_decide_eq_true (by kernel_rfl)) k0 bel lt0) (trodAll_cons_mk (Below.trod laidOut (by kernel_rfl) (of_decide_eq_true (by kernel_rfl)) k1 bel lt1) (trodAll_cons_mk (Below.trod laidOut (by kernel_rfl) (of_decide_eq_true (by kernel_rfl)) k2 bel lt2) (trodAll_cons_mk (Below.trod laidOut (by kernel_rfl) (of_decide_eq_true (by kernel_rfl)) k3 bel lt3) (trodAll_cons_mk (Below.trod laidOut (by kernel_rfl) (of_decide_eq_true (by kernel_rfl)) k4 bel lt4) (trodAll_cons_mk (Below.trod laidOut (by kernel_rfl) (of_decide_eq_true (by kernel_rfl)) k5 bel lt5) (trodAll_cons_mk (Below.trod laidOut (by kernel_rfl) (of_decide_eq_true (by kernel_rfl)) k6 bel lt6) trodAll_mk0))))))), rfl, bel.frame _, fun h => by cases h⟩

theorem over : Rows.gatherWordRow.holds Try.pinned (OpenSpec.ofChange Rows.gatherWordSpec) :=
  OpenClaim.holds_of_wide 5 Try.f5 rfl rfl rfl rfl rfl rfl rfl ⟨rfl, rfl, rfl, rfl, rfl⟩ rfl rfl rfl rfl rfl (by kernel_rfl) Try.func5 (by kernel_rfl)
    (of_decide_eq_true (by kernel_rfl)) (by unfold Func.isWrapper; first | (rw [if_pos (by decide +kernel)]; kernel_rfl) | (rw [if_neg (by decide +kernel)]; exact ⟨rfl, rfl⟩))
    (fun os started H enc _ => lifted os started H enc)

theorem proved : Rows.GatherWordSaid := over
end Go.Proofs.Ytkjaddiagembaaa.gatherWord
