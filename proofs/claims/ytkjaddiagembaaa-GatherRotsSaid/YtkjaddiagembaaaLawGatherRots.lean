/- The statement GatherRotsSaid is proved here: for every input the Go function GatherRots returns true, and each argument reads afterwards as it read before. No condition. -/
import Derived.WalkKit
import Derived.ProofKit
import Derived.OpenShut
import Derived.ShutString
import Derived.ChangeOld
import Derived.Below
import Derived.Carry
import Derived.Test.YtkjaddiagembaaaZ29
import Derived.Test.YtkjaddiagembaaaRows
/- The law GatherRots. -/
namespace Go.Proofs.Ytkjaddiagembaaa
open Go.RowKit Go.Shelf
set_option linter.unusedVariables false
set_option maxRecDepth 1000000

theorem xor_range9 {a b : Int} (ha : 0 ≤ a ∧ a ≤ 255) (hb : 0 ≤ b ∧ b ≤ 255) : 0 ≤ bits .xor .u8 a b ∧ bits .xor .u8 a b ≤ 255 := by
  rw [u8_xor a b ha.1 (by omega) hb.1 (by omega)]
  have : a.toNat ^^^ b.toNat < 2 ^ 8 := Nat.xor_lt_two_pow (by omega) (by omega)
  omega
set_option maxHeartbeats 16000000 in
theorem gatherRots (d p a0 : Int) (ab : Option Addr) (lb cb : Nat) (xs : List Int) (al : Option Addr) (ll cl : Nat) (zs : List Int) (ay : Option Addr) (ly cy : Nat) (ys : List Int) (lo : Bool) (w : World) (hb : Row .u8 w ab lb cb xs) (hz : Row .i64 w al ll cl zs) (hy : Row .u8 w ay ly cy ys) :
    Calls Try.prog 4 #[.int .i64 d, .int .i64 p, .int .i64 a0, .slice ab lb cb, .slice al ll cl, .slice ay ly cy, .bool lo] w fun e w' => e = .returned (.bool true) ∧ Below w.heap.size w w' := by
  have HX := Lib.hid hb
  have HZ := Lib.hid hz
  have z1 := hz.hle
  have z2 := hz.hmax
  unfold maxLen at z2
  have hzl := Lib.hid hz.hlen
  have HY := Lib.hid hy
  have ya1 := hy.hle
  have ya2 := hy.hmax
  unfold maxLen at ya2
  clear hb hz hy
  obtain ⟨H, hH⟩ : ∃ H, Hid (w.heap.size = H) := ⟨_, rfl⟩
  go_enter Try.func4, Try.ntmps4
  go_upto_region 3 with (first
    | (go_at_call 7; refine (shape d p _).mono ?_; rintro e w' ⟨D, P, hD1, hD2, hP1, hP2, hPD, rfl, rfl⟩)
    | (go_at_call 8; refine (picked a0 _ _ (by omega) (by omega)).mono ?_; rintro e w' ⟨ra, hra, hra0, hra1, rfl, rfl⟩))
  clear hra
  obtain ⟨D, rfl⟩ := Int.eq_ofNat_of_zero_le (show 0 ≤ D by omega)
  obtain ⟨P, rfl⟩ := Int.eq_ofNat_of_zero_le (show 0 ≤ P by omega)
  obtain ⟨ra, rfl⟩ := Int.eq_ofNat_of_zero_le hra0
  go_wp2_with fail
  refine (blockW ab lb cb xs 1000 w HX.out (by omega) (by omega)).mono ?_
  rintro e w1 ⟨a1, c1, rfl, O1, B1⟩
  have hbl := blockB_len xs 1000 (by omega)
  obtain ⟨dat, hdat⟩ : ∃ dat, blockB xs 1000 = dat := ⟨_, rfl⟩
  rw [hdat] at O1 hbl ⊢
  obtain ⟨n, hn⟩ : ∃ n, dat.length = n := ⟨_, rfl⟩
  rw [hn] at O1 hbl ⊢
  have HX1 : Hid (Byt xs) := fun v hv => byte_range (HX.out.hwf v hv)
  have hdb : Byt dat := by
    rw [← hdat]; unfold blockB
    split
    · intro v hv; obtain rfl := List.mem_singleton.1 hv; omega
    · exact fun v hv => HX1.out v (List.mem_of_mem_take hv)
  have R1 : Hid (Row .u8 w1 a1 n c1 dat) := VRow.toRow O1.out.row (fun v hv => WalkArith.wf_u8 (hdb v hv))
  have HB1 := Lib.hid B1
  have HDB := Lib.hid hdb
  have HN := Lib.hid hn
  obtain ⟨C, hC⟩ : ∃ C, C = (n + 127) / 128 := ⟨_, rfl⟩
  obtain ⟨b, hb⟩ := blk_ex (D := D) (P := P) (C := C) (by omega) (by omega) (by omega) (by omega) (by omega) (by omega) (by omega)
  have HBK := Lib.hid hb
  have hPp := hb.p
  have HLW := Lib.hid (laidW D P ra n C b hb (by omega) (by omega) (by omega) (by omega) (by omega) (by omega) (by omega) (by omega) hC a1 c1 dat w1 R1.out)
  have HGW := fun (ps : List (Bool × List Int)) (al' : Option Addr) (cl' : Nat) (s : Four) (w' : World) (h1 : SRow pcL w' (fun _ => True) al' (b.p + b.m) cl' ps) (h2 : ∀ c, c < b.p + b.m → (ps.getD c (false, [])).1 = false → (ps.getD c (false, [])).2.length = b.sz c) (h3 : ∀ c, c < b.p + b.m → (ps.getD c (false, [])).2.length ≤ b.long) h4 =>
    gatherW D P ra n C b hb (by omega) (by omega) (by omega) (by omega) (by omega) (by omega) (by omega) (by omega) hC ps al' cl' s w' h1 h2 h3 h4
  have HG := Lib.hid HGW
  have HC := Lib.hid hC
  have HPP := Lib.hid hPp
  clear HGW hb hn hdat O1 B1 hdb hC
  go_wp2_with fail
  refine HLW.out.mono ?_
  rintro e w2 ⟨a2, c2, cs, rfl, HSV, HSO, B2⟩
  obtain ⟨sa, sb, sc, sd, hs4, rfl⟩ := HSV.out
  have HS4 := Lib.hid hs4
  have HB2 := Lib.hid B2
  clear HLW HSV hs4 B2
  obtain ⟨nn, hnn⟩ : ∃ nn, b.p + b.m = nn := ⟨_, rfl⟩
  have hpm : b.p + 1 ≤ nn := by have := b.h2.1; omega
  have hn8 : nn ≤ 8 := by have := b.h2.2; omega
  rw [hPp] at hpm
  clear hPp
  have HNN := Lib.hid hnn
  rw [hnn] at HSO
  rw [hnn]
  clear hnn
  go_upto_region 7 with fail
  obtain ⟨h16, e16⟩ : ∃ h, w2.heap.size = h := ⟨_, rfl⟩
  obtain ⟨X, hX⟩ : ∃ X, X = w2.alloc (.cells #[.int .i64 sa, .int .i64 sb, .int .i64 sc, .int .i64 sd] 30) := ⟨_, rfl⟩
  have b16 : Box X h16 #[.int .i64 sa, .int .i64 sb, .int .i64 sc, .int .i64 sd] 30 := by rw [hX]; exact Box.new e16.symm
  have h2X : Below w2.heap.size w2 X := by rw [hX]; exact Below_alloc1 _
  have hw1X : Below w1.heap.size w1 X := HB2.out.trans (h2X.mono HB2.out.size)
  have hwX : Below w.heap.size w X := HB1.out.trans (hw1X.mono HB1.out.size)
  have HO2 : Hid (SOwn pcL X w1.heap.size 35 (fun _ => True) a2 nn c2 (pieces b (padB C dat) nn)) := HSO.out.below h2X
  have HWX := Lib.hid hwX
  have HB16 := Lib.hid b16
  have hH1 : H ≤ w1.heap.size := by have := HB1.out.size; have := hH.out; omega
  have hXs : Hid (X.heap.size = h16 + 1) := by show _ = _; rw [hX]; simp [e16]
  have h16X : h16 < X.heap.size := by have := hXs.out; omega
  have h16w : w1.heap.size ≤ h16 := by have := HB2.out.size; omega
  have hlc2 := HO2.out.hle
  have hmc2 := HO2.out.hmax
  unfold maxLen at hmc2
  obtain ⟨M1, hM1⟩ : ∃ M1, w1.heap.size = M1 := ⟨_, rfl⟩
  rw [hM1] at hH1 h16w HO2
  have HM1 := Lib.hid hM1
  clear hM1
  have HG0X : Hid (∀ g0, a2 = some ⟨g0, 0, none⟩ → g0 < h16) := fun g0 e => by rw [← e16]; exact (HSO.out.lt g0 (by rw [e]; rfl)).2
  rw [← hX, e16]
  have HZX := Lib.hid (HZ.out.below hwX)
  have RX : Hid (Row .u8 X a1 n c1 dat) := R1.out.below hw1X
  have HA1 : Hid (∀ x o, a1 = some ⟨x, o, none⟩ → x < M1 ∨ n = 0) := fun x o e => by
    rcases R1.out.hat with h0 | ⟨b', o', e', hc⟩
    · exact .inr h0
    · rw [e] at e'
      injection e' with e'
      injection e' with e1 e2
      subst e1
      by_cases h0 : n = 0
      · exact .inr h0
      · exact .inl (by rw [← HM1.out]; exact World.block_lt_of_cell? _ _ (hc 0 (by omega)))
  clear R1
  clear hX e16 b16 h2X hw1X hwX HSO HB2 HB1 HX HX1 HZ
  go_wp2_with fail
  refine (sev al ll cl _ _ _ X HZX.out (by omega) (by omega) (by omega) (by omega)).mono ?_
  rintro e V ⟨a8, l8, c8, rfl, hown8, hb8⟩
  rw [show ((P : Nat) : Int).toNat = P by omega, show ((nn : Nat) : Int).toNat = nn by omega] at hown8
  have hPf := several_few' (n := nn) (most := P) (by omega) zs
  have hPt := several_lt zs P nn
  obtain ⟨q, hq⟩ := several_filter zs P nn
  obtain ⟨gs, hgs⟩ : ∃ gs, several zs P nn = gs := ⟨_, rfl⟩
  rw [hgs] at hown8 hPf hPt hq
  have hPl : gs.length = l8 := by have := hown8.out.1; simpa [nats] using this
  have hV : Hid (Below X.heap.size X V) := hb8
  have R8 := Lib.hid hown8.out.ints
  have hr1 := R8.out.hle
  have hr2 := R8.out.hmax
  unfold maxLen at hr2
  have HPT := Lib.hid hPt
  have HPL := Lib.hid hPl
  have HQ := Lib.hid hq
  have HGB : Hid (∀ x o, a8 = some ⟨x, o, none⟩ → X.heap.size ≤ x) := fun x o e => by
    have h1 := (hown8.out.lt x (by rw [e]; rfl)).1
    omega
  have HOV := Lib.hid (HO2.out.below hV.out)
  have HB16V := Lib.hid (HB16.out.below hV.out (by omega))
  have HWV := Lib.hid (HWX.out.trans (hV.out.mono HWX.out.size))
  have hVs := hV.out.size
  have HXV := Lib.hid hV.out
  rw [hPl] at hPf
  clear hown8 hb8 hPt hPl hq hgs HZX HO2 HB16 HWX hV
  obtain ⟨g0, rfl⟩ : ∃ g0, a2 = some ⟨g0, 0, none⟩ := HOV.out.some (by omega)
  have hg0 := HOV.out.lt g0 rfl
  have hg16 : g0 < h16 := HG0X.out g0 rfl
  have hg0X : Hid (g0 < X.heap.size) := Nat.lt_trans hg16 h16X
  have hnd : Hid gs.Nodup := by show gs.Nodup; rw [HQ.out]; exact filter_nodup _ _
  have hpd : Hid ((padB C dat).length = b.bytes) := by
    have := HC.out; show _ = _; rw [HBK.out.s]; exact fillC_len (by rw [HN.out]; omega)
  have hpb : Hid (Byt (padB C dat)) := fillC_byt HDB.out
  obtain ⟨pd, hpd'⟩ : ∃ pd, padB C dat = pd := ⟨_, rfl⟩
  rw [hpd'] at hpd hpb HOV
  have HPD := Lib.hid hpd'
  clear hpd'
  have hdi : Hid (∀ x o, ay = some ⟨x, o, none⟩ → 0 < ly → x < w.heap.size) := fun x o e h0 => by
    rcases HY.out.hat with h1 | ⟨b', o', e', hc⟩
    · omega
    · rw [e] at e'
      injection e' with e'
      injection e' with e1 e2
      subst e1
      exact World.block_lt_of_cell? _ _ (hc 0 h0)
  go_wp2_with fail
  go_loopw [23] (fun iv wr => ∃ (i : Nat) (ps : List (Bool × List Int)), i ≤ l8 ∧ iv = .int .i64 (i : Int) ∧ Hid (Rot b pd gs lo nn i ps) ∧ Hid (SOwn pcL wr M1 35 (fun _ => True) (some ⟨g0, 0, none⟩) nn c2 ps) ∧ Hid (Only g0 V wr)) (fun iv _ => l8 - (intOf iv).toNat)
  case atStart => exact ⟨0, _, Nat.zero_le _, rfl, Rot.zero .., HOV, Only.refl _ _⟩
  case round =>
    obtain ⟨i, ps, hi, rfl, hR, hO, hW⟩ := hrel
    by_cases hiP : i < l8
    · have i1 : (i : Int) < (l8 : Int) := by omega
      obtain ⟨c, hc⟩ : ∃ c, gs.getD i 0 = c := ⟨_, rfl⟩
      have hcn : c < nn := by rw [← hc]; exact HPT.out _ (getD_mem' (by rw [HPL.out]; exact hiP))
      rcases R8.out.hat with h0 | ⟨bg, og, rfl, hcg⟩
      · omega
      have hcg' := hcg i hiP
      rw [nats_getD, hc] at hcg'
      have hbg : bg ≠ g0 := by have := HGB.out bg og rfl; have := hg0X.out; omega
      have eg : wr.cell? ⟨bg, og + i, none⟩ = some (.int .i64 (c : Int)) := (World.cell?_of_block (w := V) (hW.out.block bg (World.block_lt_of_cell? _ _ hcg') hbg)).trans hcg'
      have hfr := hR.out.fresh hnd.out (by rw [HPL.out]; exact hiP) (by rw [hc]; exact hcn)
      rw [hc] at hfr
      have hpsl : ps.length = nn := hR.out.1
      obtain ⟨bl, ol, ad, nd, cd, hbl, hblx, _, e0, e1, hrw⟩ := pcRow (hO.out.row (fun _ _ => trivial)) c (false, b.col pd c) (by
        rw [List.getD, List.getElem?_eq_getElem (by omega)] at hfr
        rw [List.getElem?_eq_getElem (by omega)]
        exact congrArg some hfr)
      obtain ⟨rfl, rfl⟩ : g0 = bl ∧ 0 = ol := by injection hbl with hbl; injection hbl with q1 q2; exact ⟨q1, q2⟩
      rw [Nat.zero_add] at e0 e1
      have hndz : nd = b.sz c := by rw [← hrw.hlen]; exact b.col_len hpd.out (by rw [HNN.out]; exact hcn)
      have HNDZ := Lib.hid hndz
      have hnd32 : nd ≤ 4096 := by
        have h1 := b.sz_le (c := c) (by rw [HNN.out]; exact hcn)
        have h2 := b.long_le
        omega
      have HRW := Lib.hid hrw
      have hrl := hrw.hle
      have hrm := hrw.hmax
      unfold maxLen at hrm
      obtain ⟨⟨u1, y1⟩, ⟨u2, y2⟩, f1, f2⟩ := hO.out.cells_two rfl c hcn
      have HFR := Lib.hid hfr
      have HCC := Lib.hid hc
      have HPSL := Lib.hid hpsl
      clear hcg hcg' hfr hrw hbl hndz hc hpsl
      have hcase : (lo = true ∧ i = 0) ∨ (lo = true ∧ ¬ i = 0) ∨ lo = false := by
        cases lo
        · exact .inr (.inr rfl)
        · by_cases h : i = 0
          · exact .inl ⟨rfl, h⟩
          · exact .inr (.inl ⟨rfl, h⟩)
      rcases hcase with ⟨rfl, rfl⟩ | hcase
      · have HNX := Lib.hid (hO.out.put_two rfl c hcn (x := (true, [])) (u := .bool true) (v := .slice none 0 0) (F2 := fun _ => False) ⟨[.bool true], [.slice none 0 0], rfl, rfl, none, 0, 0, rfl, SRow.nil ..⟩ (fun b h => h.elim))
        clear e0 e1
        rw [Nat.add_zero] at eg
        go_wp2_with fail
        refine ⟨⟨1, ps.set c (true, []), by omega, rfl, ?_, HNX.out, hW.out.trans ((Only.setCell wr _ _).trans (Only.setCell _ _ _))⟩, by simp [intOf]; omega⟩
        have h := hR.out.step hnd.out (by rw [HPL.out]; exact hiP) (by rw [HCC.out]; exact hcn) (true, []) (by simp) (fun v hv => by cases hv) (fun h => by cases h) (Nat.zero_le _)
        rw [HCC.out] at h
        exact h
      · have hg : (lo && decide (i = 0)) = false := by
          rcases hcase with ⟨rfl, h⟩ | rfl
          · simp [h]
          · rfl
        have HGD := Lib.hid hg
        clear hg
        go_upto_region 12 with fail
        go_cut [72] from 68 to 72 (fun v72 wx => v72 = .bool false ∧ wx = wr)
        case first =>
          rcases hcase with ⟨rfl, h0⟩ | rfl
          · have h1 : ((i : Int) == 0) = false := by simp; omega
            go_wp2_with fail
            go_meet
            exact ⟨rfl, rfl⟩
          · go_wp2_with fail
            go_meet
            exact ⟨rfl, rfl⟩
        case rest =>
          obtain ⟨rfl, hwe⟩ := hcut
          have hwe' := hwe.symm
          clear hwe
          subst hwe'
          clear y1 y2 f1 f2
          obtain ⟨wo, rfl⟩ : ∃ wo, wo = wr := ⟨_, rfl⟩
          have hws : V.heap.size ≤ wo.heap.size := hW.out.size
          obtain ⟨Y0, hY0⟩ : ∃ Y0, b.col pd c = Y0 := ⟨_, rfl⟩
          have hYl : Y0.length = nd := by rw [← hY0]; exact HRW.out.hlen
          have hYb : Byt Y0 := by rw [← hY0]; exact b.col_byt hpb.out c
          have HYB := Lib.hid hYb
          have HYL := Lib.hid hYl
          have HR0 : Hid (Row .u8 wo ad nd cd Y0) := by rw [← hY0]; exact HRW.out
          clear hY0 hYl hYb HRW hcase
          go_wp2_with (at_builtin; refine wpList_append_any rfl (.const (.slice none 0 0)) (.tmp 81) 22 rfl wo.heap.size 5 _ 1 1 Try.underlying22 info_u8 rfl (by decide) none 0 0 [] rfl (Own.nil _ _ _ _) ad nd cd _ rfl HR0.out.toV (ones8 _) (by unfold maxLen; omega) (by omega) (Nat.le_refl _) ?_)
          intro a3 c3 w3 ho hg
          have hle3 : Below wo.heap.size wo w3 := Own.grown (Own.nil wo wo.heap.size 5 1) (Below.refl _ _) (Nat.le_refl _) (Nat.le_refl _) hg
          have ho' : Own w3 wo.heap.size 5 1 a3 nd c3 (Y0.map (.int .u8)) := by simpa using ho
          have HO3 := Lib.hid ho'
          have HL3 := Lib.hid hle3
          have hc3 := ho'.row.hle
          have hc3m := ho'.row.hmax
          unfold maxLen at hc3m
          clear ho ho' hg hle3
          go_upto_block 2 with fail
          go_cut [26] from 83 to 104 (fun _ wx => ∃ Y : List Int, Hid (Y.length = nd ∧ Byt Y) ∧ Hid (Own wx wo.heap.size 5 1 a3 nd c3 (Y.map (.int .u8))) ∧ Hid (Below wo.heap.size wo wx))
          case first =>
            clear e0 e1 eg
            go_wp2_with fail
            go_loopw [26] (fun v wx => ∃ (m : Nat) (Y : List Int), m ≤ nd ∧ v = .int .i64 m ∧ Hid (Y.length = nd ∧ Byt Y) ∧ Hid (Own wx wo.heap.size 5 1 a3 nd c3 (Y.map (.int .u8))) ∧ Hid (Below wo.heap.size wo wx)) (fun v _ => nd - (intOf v).toNat)
            case atStart => exact ⟨0, Y0, by omega, rfl, ⟨HYL.out, HYB.out⟩, HO3, HL3⟩
            case round =>
              obtain ⟨m, Y, hm, rfl, hY, hOY, hbr⟩ := hrel
              by_cases hlt : m < nd ∧ m < ly
              · obtain ⟨hlt, hlb⟩ := hlt
                obtain ⟨gy, rfl⟩ : ∃ g, a3 = some ⟨g, 0, none⟩ := by
                  rcases hOY.out.2 with ⟨_, h2⟩ | ⟨g, c, cur, hv, _⟩
                  · omega
                  · injection hv with hv; exact ⟨g, hv⟩
                rcases HY.out.hat with h0'' | ⟨b1, o1, rfl, hc1⟩
                · omega
                have ey := hc1 m hlb
                have hblk : b1 < w.heap.size := World.block_lt_of_cell? _ _ ey
                have hwH : w.heap.size ≤ M1 := by have := hH.out; omega
                have hb0 : b1 ≠ g0 := by have := hg0.1; omega
                have eV : V.cell? ⟨b1, o1 + m, none⟩ = some (.int .u8 (ys.getD m 0)) := (HWV.out.cell (p := ⟨b1, o1 + m, none⟩) hblk).trans ey
                have eW : wo.cell? ⟨b1, o1 + m, none⟩ = some (.int .u8 (ys.getD m 0)) := (World.cell?_of_block (w := V) (hW.out.block b1 (World.block_lt_of_cell? _ _ eV) hb0)).trans eV
                have ey' : wr.cell? ⟨b1, o1 + m, none⟩ = some (.int .u8 (ys.getD m 0)) := (hbr.out.cell (p := ⟨b1, o1 + m, none⟩) (World.block_lt_of_cell? _ _ eW)).trans eW
                obtain ⟨v, hv⟩ : ∃ v, Hid (ys.getD m 0 = v) := ⟨_, rfl⟩
                rw [hv.out] at ey'
                have hvb : 0 ≤ v ∧ v ≤ 255 := by rw [← hv.out]; exact HY.out.byte m
                obtain ⟨u, hu⟩ : ∃ u, Hid (Y.getD m 0 = u) := ⟨_, rfl⟩
                have hub : 0 ≤ u ∧ u ≤ 255 := by rw [← hu.out]; exact Bytes.getD hY.out.2 _
                have hYlen := Lib.hid hY.out.1
                have e2 : wr.cell? ⟨gy, m, none⟩ = some (.int .u8 u) := by
                  rw [World.ownsRow.cellAt hOY.out m (by omega), ← hu.out]
                  simp [List.getD, List.getElem?_eq_getElem (show m < Y.length by rw [hYlen.out]; omega)]
                have f2 : wr.frozen? ⟨gy, m, none⟩ = false := World.ownsRow.frozenAt hOY.out _
                have hgy := (World.ownsRow.lt hOY.out gy rfl).1
                have hst := World.ownsRow.stored hOY.out m (.int .u8 (bits .xor .u8 u v))
                rw [← List.map_set] at hst
                have HST := Lib.hid hst
                have hxr := xor_range9 hub hvb
                have HXR := Lib.hid hxr
                clear hst ey eV eW hc1 hxr
                have i2 : (m : Int) < (ly : Int) := by omega
                have i3 : (m : Int) < (nd : Int) := by omega
                go_wp2
                go_region
                go_wp2
                go_roundw
                case rel =>
                  refine ⟨m + 1, Y.set m (bits .xor .u8 u v), by omega, by go_num, ⟨by rw [List.length_set]; exact hY.out.1, ?_⟩, HST.out.1, (hbr.out.setCell (p := ⟨gy, m, none⟩) hgy _).drew⟩
                  intro x hx
                  rcases List.mem_or_eq_of_mem_set hx with h | h
                  · exact hY.out.2 x h
                  · rw [h]; exact HXR.out
                case measure => simp [intOf]; omega
              · have hends : (¬ m < nd) ∨ (m < nd ∧ ¬ m < ly) := by omega
                clear hlt
                rcases hends with hn | ⟨hn1, hn2⟩
                all_goals
                  go_wp2_with fail
                  go_meet
                  exact ⟨Y, hY, hOY, hbr⟩
          case rest =>
            obtain ⟨Y, hY, hOY, hbr⟩ := hcut
            have hYd : Hid (Row .u8 wc a3 nd c3 Y) := VRow.toRow hOY.out.row (fun v hv => WalkArith.wf_u8 (hY.out.2 v hv))
            have hOd : Hid (SOwn pcL wc M1 35 (fun _ => True) (some ⟨g0, 0, none⟩) nn c2 ps) := hO.out.below hbr.out
            have hgy : ∀ x, a3 = some x → wo.heap.size ≤ x.block ∧ x.block < wc.heap.size := fun x e => World.ownsRow.lt hOY.out x.block (by rw [e]; rfl)
            have HGY := Lib.hid hgy
            have hgw : g0 < wo.heap.size := hblx
            clear hgy
            obtain ⟨⟨u1', y1⟩, ⟨u2', y2⟩, f1, f2⟩ := hOd.out.cells_two rfl c hcn
            have HNX := Lib.hid (hOd.out.put_snd2 rfl c hcn (x := (false, Y)) (v := .slice a3 nd c3) (F2 := fun b => ∃ x, a3 = some x ∧ x.block = b) (fun F y u v0 hy hat => by
              have hyx : y.1 = false := by
                have h1 := HFR.out
                rw [List.getD, hy] at h1
                exact congrArg Prod.fst h1
              obtain ⟨us, ws, hcs, hu, _⟩ := hat
              rw [hyx] at hu
              obtain rfl : us = [.bool false] := hu
              injection hcs with h1 h2
              subst h1
              exact ⟨[.bool false], [.slice a3 nd c3], rfl, rfl, _, _, _, rfl, hYd.out.toS (fun x hx _ => .inr ⟨x, hx, rfl⟩)⟩) (fun b hb => by
                obtain ⟨x, e, rfl⟩ := hb
                have := HGY.out x e
                exact ⟨trivial, this.2, by omega⟩))
            clear hOY
            go_wp2_with fail
            refine ⟨⟨i + 1, ps.set c (false, Y), by omega, by push_cast; rfl, ?_, HNX.out, hW.out.trans ((Only.below hbr.out).trans (Only.setCell _ _ _))⟩, by simp [intOf]; omega⟩
            have h := hR.out.step hnd.out (by rw [HPL.out]; exact hiP) (by rw [HCC.out]; exact hcn) (false, Y) HGD.out.symm hY.out.2 (fun _ => by rw [HCC.out]; exact hY.out.1.trans HNDZ.out) (by rw [HCC.out]; exact Nat.le_of_eq (hY.out.1.trans HNDZ.out))
            rw [HCC.out] at h
            exact h
    · obtain rfl : i = l8 := by omega
      have hR' : Rot b pd gs lo nn gs.length ps := by rw [HPL.out]; exact hR.out
      have hp : Hid (Rot b pd gs lo (b.p + b.m) gs.length ps) := by show Rot _ _ _ _ _ _ _; rw [HNN.out]; exact hR'
      have htk : gs.take gs.length = gs := List.take_length
      have hst : Hid (∀ x, x < nn → ((ps.getD x (false, [])).1 = false → (ps.getD x (false, [])).2.length = b.sz x) ∧ (ps.getD x (false, [])).2.length ≤ b.sz x) := fun x hx => by
        obtain ⟨h1, h2⟩ := hR'.2 x hx
        rw [htk] at h1 h2
        by_cases hm : x ∈ gs
        · exact ⟨(h2 hm).2.2.1, (h2 hm).2.2.2⟩
        · rw [h1 hm]
          have := b.col_len hpd.out (c := x) (by rw [HNN.out]; exact hx)
          exact ⟨fun _ => this, Nat.le_of_eq this⟩
      have hle : Hid (∀ x, x < nn → (ps.getD x (false, [])).2.length ≤ b.long) := fun x hx => Nat.le_trans (hst.out x hx).2 (b.sz_le (by rw [HNN.out]; exact hx))
      have hff := Rot.fits hpd.out hpb.out hp.out (by rw [HQ.out, HNN.out]) (by rw [HPL.out, HPP.out]; exact hPf) (fun x hx => hle.out x (by rw [← HNN.out]; exact hx))
      have HFF := Lib.hid hff
      have hB16r : Box wr h16 #[.int .i64 sa, .int .i64 sb, .int .i64 sc, .int .i64 sd] 30 := (hW.out.block h16 HB16V.out.lt (by omega)).trans HB16V.out
      have t0 := hB16r.cell 0
      have t1 := hB16r.cell 1
      have t2 := hB16r.cell 2
      have t3 := hB16r.cell 3
      have HB16r := Lib.hid hB16r
      have hLW := Lib.hid (HWV.out.trans (show Below w.heap.size V wr from hW.out.low (by have := hg0.1; have := hH.out; omega) HWV.out.size))
      have HRX : Hid (Row .u8 wr a1 n c1 dat) := by
        refine (RX.out.below HXV.out).keptIn (fun x o e hx => hW.out.block x hx ?_)
        have := hg0.1
        rcases HA1.out x o e with h | h <;> omega
      have hG2 := HG.out ps (some ⟨g0, 0, none⟩) c2 ⟨sa, sb, sc, sd⟩ wr (by rw [HNN.out]; exact hO.out.row (fun _ _ => trivial)) (fun x hx => (hst.out x (by rw [← HNN.out]; exact hx)).1) (fun x hx => hle.out x (by rw [← HNN.out]; exact hx)) (fun _ => by
        obtain ⟨_, k, p, h1, h2, h3⟩ := HFF.out
        exact ⟨k, p, h1, h2, by rw [h3, ← HPD.out]; exact HS4.out⟩)
      rw [HNN.out] at hG2
      have HG2 := Lib.hid hG2
      clear hG2 hff hR' htk hB16r
      go_wp2_with fail
      refine HG2.out.mono ?_
      rintro e wf (⟨h1, _⟩ | ⟨h1, g, ap', ap, cp, rfl, hfd, hrd, hrp, hbf⟩)
      · have := HFF.out.1
        omega
      · have hgl : g.length ≤ P := by
          have h2 := hfd.len (by have := keptOf_len ps (b.p + b.m); have := HNN.out; omega) (by have := keptOf_len ps (b.p + b.m); have := HNN.out; omega)
          have := HPP.out
          omega
        have hfits : sumF (b.data (fun x => (ps.getD x (false, [])).2) (lostOf ps (b.p + b.m) ++ g)) = ⟨sa, sb, sc, sd⟩ := hfd.fits
        have hdl := Blk.data_len (hfd.fitB (f := fun x => (ps.getD x (false, [])).2) h1 (fun x hx => hle.out x (by rw [← HNN.out]; exact hx)))
        obtain ⟨XD, hXD⟩ : ∃ XD, b.data (fun x => (ps.getD x (false, [])).2) (lostOf ps (b.p + b.m) ++ g) = XD := ⟨_, rfl⟩
        rw [hXD] at hfits hdl hrd
        have hbs := HBK.out.s
        have hCc := HC.out
        have hXb : Byt (XD.take n) := fun v hv => byte_range (hrd.hwf v hv)
        have hsum : n % 128 = 0 → sumF (padB C (XD.take n)) = ⟨sa, sb, sc, sd⟩ := fun h0 => by
          have e1 : C * 128 = n := by omega
          have e2 : XD.take n = XD := List.take_of_length_le (by omega)
          rw [e2]
          have e3 : padB C XD = XD := by unfold padB fillC; rw [hdl, hbs, Nat.sub_self]; simp
          rw [e3]; exact hfits
        obtain ⟨XX, hXX⟩ : ∃ XX, XD.take n = XX := ⟨_, rfl⟩
        rw [hXX] at hrd hXb hsum
        obtain ⟨gl, hgl'⟩ : ∃ gl, g.length = gl := ⟨_, rfl⟩
        rw [hgl'] at hgl hrp ⊢
        have q1 : ¬ (P : Int) < (gl : Int) := by omega
        have q2 : decide ((P : Int) < (gl : Int)) = false := by simp; omega
        have q3 : decide (P < gl) = false := by simp; omega
        have HRD := Lib.hid hrd
        have HSUM := Lib.hid hsum
        have hLF := Lib.hid (hLW.out.trans (hbf.mono hLW.out.size))
        have HRF := Lib.hid (HRX.out.below hbf)
        have HB16f := Lib.hid (HB16r.out.below hbf HB16r.out.lt)
        have hC128 : (C * 128) % 4 = 0 := by omega
        have hcpl := hrp.hle
        clear h1 hfd hfits hdl hXD hbs hrd hrp hbf hXb hsum hXX hgl' hCc
        go_wp2_with fail
        refine (sameBytes ap' n n XX a1 n c1 dat wf HRD.out HRF.out).mono ?_
        rintro e wq ⟨rfl, k9, rfl⟩
        obtain ⟨eb, heb⟩ : ∃ eb, decide (XX = dat) = eb := ⟨_, rfl⟩
        rw [heb]
        clear heb
        have hLq := Lib.hid (below_drewN hLF.out k9)
        have HRq : Hid (Row .u8 (wf.drewN k9) ap' n n XX) := HRD.out.drewN k9
        have HBq : Hid (Box (wf.drewN k9) h16 #[.int .i64 sa, .int .i64 sb, .int .i64 sc, .int .i64 sd] 30) := HB16f.out
        obtain ⟨wq, hwq⟩ : ∃ wq, wq = wf.drewN k9 := ⟨_, rfl⟩
        rw [← hwq] at hLq HRq HBq ⊢
        clear hwq
        cases eb with
        | true =>
          go_wp2_with fail
          go_ret
          exact ⟨rfl, hLq.out⟩
        | false =>
          go_wp2_with fail
          refine (paddedW ap' n n XX C wq HRq.out (by omega) HC.out).mono ?_
          rintro e w5 ⟨a5, c5, rfl, O5, B5⟩
          have HR5 : Hid (Row .u8 w5 a5 (C * 128) c5 (padB C XX)) := VRow.toRow O5.out.row (fun v hv => WalkArith.wf_u8 (fillC_byt (fun v hv => byte_range (HRq.out.hwf v hv)) v hv))
          have hL5 := Lib.hid (hLq.out.trans (B5.mono hLq.out.size))
          have HB5 := Lib.hid (HBq.out.below B5 HBq.out.lt)
          clear O5 B5
          go_wp2_with fail
          refine (of_bytes a5 (C * 128) c5 (padB C XX) w5 HR5.out hC128).mono ?_
          rintro e w6 ⟨ta, tb, tc, td, HS, rfl, B6⟩
          have hL6 := Lib.hid (hL5.out.trans (B6.mono hL5.out.size))
          have HB6 := Lib.hid (HB5.out.below B6 HB5.out.lt)
          clear B6
          obtain ⟨e2, he2, qE⟩ := eql_four ⟨ta, tb, tc, td⟩ ⟨sa, sb, sc, sd⟩
          have qG : ∀ (w : World) (a b : Operand), (eqGuard .eql 30 a b (.agg #[.int .i64 ta, .int .i64 tb, .int .i64 tc, .int .i64 td]) (.agg #[.int .i64 sa, .int .i64 sb, .int .i64 sc, .int .i64 sd])).run Try.prog w = .ok () w := fun w a b => run_eqGuard_agg w _ _ _ _ _ _ (by kernel_rfl)
          have HE2 := Lib.hid he2
          clear he2
          go_upto_region 26 with fail
          obtain ⟨V7, hV7⟩ : ∃ V7, V7 = w6.alloc (.cells #[.int .i64 ta, .int .i64 tb, .int .i64 tc, .int .i64 td] 30) := ⟨_, rfl⟩
          obtain ⟨h6, hh6⟩ : ∃ h6, w6.heap.size = h6 := ⟨_, rfl⟩
          have B67 : Below w6.heap.size w6 V7 := by rw [hV7]; exact Below_alloc1 _
          have X30 : Box V7 h6 #[.int .i64 ta, .int .i64 tb, .int .i64 tc, .int .i64 td] 30 := by rw [hV7]; exact Box.new hh6.symm
          have HB7 := HB6.out.below B67 HB6.out.lt
          have hL7 := Lib.hid (hL6.out.trans (B67.mono hL6.out.size))
          have x0 := X30.cell 0
          have x1 := X30.cell 1
          have x2 := X30.cell 2
          have x3 := X30.cell 3
          have z0 := HB7.cell 0
          have z1 := HB7.cell 1
          have z2 := HB7.cell 2
          have z3 := HB7.cell 3
          rw [← hV7, hh6]
          clear hV7 hh6 B67 X30 HB7 t0 t1 t2 t3
          cases e2 with
          | true =>
            go_wp2_with fail
            go_ret
            exact ⟨rfl, hL7.out⟩
          | false =>
            have hm : ¬ n % 128 = 0 := fun h0 => by
              have h1 := HSUM.out h0
              have h2 : sumF (padB C XX) = ⟨ta, tb, tc, td⟩ := HS.out
              rw [h2] at h1
              have := HE2.out.2 h1
              cases this
            have m1 : ¬ Int.tmod (n : Int) 128 = 0 := by rw [Int.tmod_eq_emod_of_nonneg (by omega)]; omega
            have m2 : ¬ (n : Int) % 128 = 0 := by omega
            have m3 : ((n : Int) % 128 != 0) = true := by simpa using m2
            go_wp2_with fail
            go_ret
            exact ⟨rfl, hL7.out⟩
end Go.Proofs.Ytkjaddiagembaaa
/- The statement GatherRotsSaid is proved here: for every input the Go function GatherRots returns true, and each argument reads afterwards as it read before. No condition. -/
namespace Go.Proofs.Ytkjaddiagembaaa.gatherRots
open Go.ChangeShapes Go.WideShapes Go.ChangeAt Go.RowKit
set_option linter.unusedVariables false

theorem own : ownKnob Try.prog.godebug = none := by kernel_rfl
theorem laidOut : laidOutB Try.prog = true := by kernel_rfl

set_option maxRecDepth 100000 in
theorem lifted (os : Os) (started : os.Started) (H : Type) (enc : TypeId × Value → H) :
    ReturnsInHanded {} Try.checked os 4 .any (Rows.gatherRotsSpec.pre6 enc Try.prog Try.f4 Rows.gatherRotsRow.domain false) (Rows.gatherRotsSpec.post enc Try.prog Try.f4 false true false false) := by
  refine returnsInHanded_of_change (C := Try.checked) own started (by kernel_rfl) Try.func4
    (ChangeSpec.witness6 (enc := enc) (C := Try.checked) false ⟨#[], #[.int .i64 0, .int .i64 0, .int .i64 0, .slice none 0 0, .slice none 0 0, .slice none 0 0, .bool false], []⟩ 4 (by kernel_rfl) (by kernel_rfl) (by kernel_rfl) (by kernel_rfl)) ?_
  intro W base args ds gs before hval0 hW hcnd _
  have hval : ∀ (j : Nat) t v, Try.f4.params[j]? = some t → args[j]? = some v → Value.okWide Try.prog W .any base t v := hval0
  have hW' := hW
  obtain ⟨p, q, hA0, hV, rfl, hfz, hnd⟩ := hW
  have hA : DataW.TrodAll enc Try.prog W 0 (fun _ => true) true Try.f4.params.toList args.toList ds p := hA0
  rw [Try.params4] at hA hval
  obtain ⟨v0, vs0, d0, ds0, p0, q0, hargs, rfl, rfl, h0, r0⟩ := trodAll_cons hA
  obtain ⟨v1, vs1, d1, ds1, p1, q1, rfl, rfl, rfl, h1, r1⟩ := trodAll_cons r0
  obtain ⟨v2, vs2, d2, ds2, p2, q2, rfl, rfl, rfl, h2, r2⟩ := trodAll_cons r1
  obtain ⟨v3, vs3, d3, ds3, p3, q3, rfl, rfl, rfl, h3, r3⟩ := trodAll_cons r2
  obtain ⟨v4, vs4, d4, ds4, p4, q4, rfl, rfl, rfl, h4, r4⟩ := trodAll_cons r3
  obtain ⟨v5, vs5, d5, ds5, p5, q5, rfl, rfl, rfl, h5, r5⟩ := trodAll_cons r4
  obtain ⟨v6, vs6, d6, ds6, p6, q6, rfl, rfl, rfl, h6, r6⟩ := trodAll_cons r5
  obtain ⟨rfl, rfl, rfl⟩ := trodAll_nil r6
  obtain rfl : args = #[v0, v1, v2, v3, v4, v5, v6] := by cases args; simp_all
  obtain ⟨rfl, rfl⟩ := trodVars_none hV
  have k0 := h0
  have lt0 : ∀ x ∈ p0, x.block < W.heap.size := by obtain ⟨m, hm⟩ := k0; exact DataW.trod_lt m _ _ _ hm
  obtain ⟨a0, rfl, _, _, w0⟩ := open_int Try.underlying3 (hval 0 3 v0 rfl rfl) h0
  have k1 := h1
  have lt1 : ∀ x ∈ p1, x.block < W.heap.size := by obtain ⟨m, hm⟩ := k1; exact DataW.trod_lt m _ _ _ hm
  obtain ⟨a1, rfl, _, _, w1⟩ := open_int Try.underlying3 (hval 1 3 v1 rfl rfl) h1
  have k2 := h2
  have lt2 : ∀ x ∈ p2, x.block < W.heap.size := by obtain ⟨m, hm⟩ := k2; exact DataW.trod_lt m _ _ _ hm
  obtain ⟨a2, rfl, _, _, w2⟩ := open_int Try.underlying3 (hval 2 3 v2 rfl rfl) h2
  have k3 := h3
  have lt3 : ∀ x ∈ p3, x.block < W.heap.size := by obtain ⟨m, hm⟩ := k3; exact DataW.trod_lt m _ _ _ hm
  obtain ⟨a3, len3, cap3, rfl⟩ := okWide_slice Try.underlying22 (hval 3 22 v3 rfl rfl)
  obtain ⟨x3, w3⟩ : ∃ xs, SRow _ W (fun _ => True) a3 len3 cap3 xs := by
    obtain ⟨fuel, hf⟩ := h3
    obtain ⟨xs, a, len, cap, hcs, hr⟩ := opens_bytesG hf
    simp [Value.cells] at hcs
    obtain ⟨rfl, rfl, rfl⟩ := hcs
    exact ⟨xs, hr⟩
  have k4 := h4
  have lt4 : ∀ x ∈ p4, x.block < W.heap.size := by obtain ⟨m, hm⟩ := k4; exact DataW.trod_lt m _ _ _ hm
  obtain ⟨a4, len4, cap4, rfl⟩ := okWide_slice Try.underlying23 (hval 4 23 v4 rfl rfl)
  obtain ⟨x4, w4⟩ : ∃ xs, SRow _ W (fun _ => True) a4 len4 cap4 xs := by
    obtain ⟨fuel, hf⟩ := h4
    obtain ⟨xs, a, len, cap, hcs, hr⟩ := opens_intsG hf
    simp [Value.cells] at hcs
    obtain ⟨rfl, rfl, rfl⟩ := hcs
    exact ⟨xs, hr⟩
  have k5 := h5
  have lt5 : ∀ x ∈ p5, x.block < W.heap.size := by obtain ⟨m, hm⟩ := k5; exact DataW.trod_lt m _ _ _ hm
  obtain ⟨a5, len5, cap5, rfl⟩ := okWide_slice Try.underlying22 (hval 5 22 v5 rfl rfl)
  obtain ⟨x5, w5⟩ : ∃ xs, SRow _ W (fun _ => True) a5 len5 cap5 xs := by
    obtain ⟨fuel, hf⟩ := h5
    obtain ⟨xs, a, len, cap, hcs, hr⟩ := opens_bytesG hf
    simp [Value.cells] at hcs
    obtain ⟨rfl, rfl, rfl⟩ := hcs
    exact ⟨xs, hr⟩
  have k6 := h6
  have lt6 : ∀ x ∈ p6, x.block < W.heap.size := by obtain ⟨m, hm⟩ := k6; exact DataW.trod_lt m _ _ _ hm
  obtain ⟨a6, rfl, _, _⟩ := open_bool Try.underlying4 (hval 6 4 v6 rfl rfl) h6
  clear hA0 hval0
  refine (gatherRots a0 a1 a2 a3 len3 cap3 x3 a4 len4 cap4 x4 a5 len5 cap5 x5 a6 W w3.ints w4.ints w5.ints : Calls Try.prog 4 _ W fun e w' => e = .returned (.bool true) ∧ Below W.heap.size W w').mono fun e W' ⟨he, bel⟩ => ?_
  subst he
  exact ⟨_, rfl, _, _, _, [], _, [], hW', trodAll_mk1 (shut_bool Try.underlying4 _), (trodAll_cons_mk (Below.trod laidOut (by kernel_rfl) (of_decide_eq_true (by kernel_rfl)) k0 bel lt0) (trodAll_cons_mk (Below.trod laidOut (by kernel_rfl) (of_decide_eq_true (by kernel_rfl)) k1 bel lt1) (trodAll_cons_mk (Below.trod laidOut (by kernel_rfl) (of_decide_eq_true (by kernel_rfl)) k2 bel lt2) (trodAll_cons_mk (Below.trod laidOut (by kernel_rfl) (of_decide_eq_true (by kernel_rfl)) k3 bel lt3) (trodAll_cons_mk (Below.trod laidOut (by kernel_rfl) (of_decide_eq_true (by kernel_rfl)) k4 bel lt4) (trodAll_cons_mk (Below.trod laidOut (by kernel_rfl) (of_decide_eq_true (by kernel_rfl)) k5 bel lt5) (trodAll_cons_mk (Below.trod laidOut (by kernel_rfl) (of_decide_eq_true (by kernel_rfl)) k6 bel lt6) trodAll_mk0))))))), rfl, bel.frame _, fun h => by cases h⟩

theorem over : Rows.gatherRotsRow.holds Try.pinned (OpenSpec.ofChange Rows.gatherRotsSpec) :=
  OpenClaim.holds_of_wide 4 Try.f4 rfl rfl rfl rfl rfl rfl rfl ⟨rfl, rfl, rfl, rfl, rfl⟩ rfl rfl rfl rfl rfl (by kernel_rfl) Try.func4 (by kernel_rfl)
    (of_decide_eq_true (by kernel_rfl)) (by unfold Func.isWrapper; first | (rw [if_pos (by decide +kernel)]; kernel_rfl) | (rw [if_neg (by decide +kernel)]; exact ⟨rfl, rfl⟩))
    (fun os started H enc _ => lifted os started H enc)

theorem proved : Rows.GatherRotsSaid := over
end Go.Proofs.Ytkjaddiagembaaa.gatherRots
