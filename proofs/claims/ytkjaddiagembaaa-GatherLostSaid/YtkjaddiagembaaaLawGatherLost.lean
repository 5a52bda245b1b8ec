/- The statement GatherLostSaid is proved here: for every input the Go function GatherLost returns true, and each argument reads afterwards as it read before. No condition. -/
import Derived.WalkKit
import Derived.ProofKit
import Derived.OpenShut
import Derived.ShutString
import Derived.ChangeOld
import Derived.Below
import Derived.Carry
import Derived.Test.YtkjaddiagembaaaZ28
import Derived.Test.YtkjaddiagembaaaRows
/- The law GatherLost. -/
namespace Go.Proofs.Ytkjaddiagembaaa
open Go.RowKit Go.Shelf
set_option linter.unusedVariables false
set_option maxRecDepth 100000

set_option maxHeartbeats 16000000 in
theorem gatherLost (d p a0 : Int) (ab : Option Addr) (lb cb : Nat) (xs : List Int) (al : Option Addr) (ll cl : Nat) (zs : List Int) (w : World) (hb : Row .u8 w ab lb cb xs) (hz : Row .i64 w al ll cl zs) :
    Calls Try.prog 3 #[.int .i64 d, .int .i64 p, .int .i64 a0, .slice ab lb cb, .slice al ll cl] w fun e w' => e = .returned (.bool true) ∧ Below w.heap.size w w' := by
  have HX := Lib.hid hb
  have HZ := Lib.hid hz
  have z1 := hz.hle
  have z2 := hz.hmax
  unfold maxLen at z2
  have hzl := Lib.hid hz.hlen
  clear hb hz
  obtain ⟨H, hH⟩ : ∃ H, Hid (w.heap.size = H) := ⟨_, rfl⟩
  go_enter Try.func3, Try.ntmps3
  go_upto_region 3 with (first
    | (go_at_call 7; refine (shape d p _).mono ?_; rintro e w' ⟨D, P, hD1, hD2, hP1, hP2, hPD, rfl, rfl⟩)
    | (go_at_call 8; refine (picked a0 _ _ (by omega) (by omega)).mono ?_; rintro e w' ⟨ra, hra, hra0, hra1, rfl, rfl⟩))
  clear hra
  obtain ⟨D, rfl⟩ := Int.eq_ofNat_of_zero_le (show 0 ≤ D by omega)
  obtain ⟨P, rfl⟩ := Int.eq_ofNat_of_zero_le (show 0 ≤ P by omega)
  obtain ⟨ra, rfl⟩ := Int.eq_ofNat_of_zero_le hra0
  go_wp2_with fail
  refine (blockW ab lb cb xs 1000 w HX.out (by omega) (by omega)).mono ?_
  rintro e w1 ⟨a1, c1, rfl, O1, B1⟩
  have hbl := blockB_len xs 1000 (by omega)
  obtain ⟨dat, hdat⟩ : ∃ dat, blockB xs 1000 = dat := ⟨_, rfl⟩
  rw [hdat] at O1 hbl ⊢
  obtain ⟨n, hn⟩ : ∃ n, dat.length = n := ⟨_, rfl⟩
  rw [hn] at O1 hbl ⊢
  have HX1 : Hid (Byt xs) := fun v hv => byte_range (HX.out.hwf v hv)
  have hdb : Byt dat := by
    rw [← hdat]; unfold blockB
    split
    · intro v hv; obtain rfl := List.mem_singleton.1 hv; omega
    · exact fun v hv => HX1.out v (List.mem_of_mem_take hv)
  have R1 : Hid (Row .u8 w1 a1 n c1 dat) := VRow.toRow O1.out.row (fun v hv => WalkArith.wf_u8 (hdb v hv))
  have HB1 := Lib.hid B1
  have HDB := Lib.hid hdb
  have HN := Lib.hid hn
  obtain ⟨C, hC⟩ : ∃ C, C = (n + 127) / 128 := ⟨_, rfl⟩
  obtain ⟨b, hb⟩ := blk_ex (D := D) (P := P) (C := C) (by omega) (by omega) (by omega) (by omega) (by omega) (by omega) (by omega)
  have HBK := Lib.hid hb
  have hPp := hb.p
  have HLW := Lib.hid (laidW D P ra n C b hb (by omega) (by omega) (by omega) (by omega) (by omega) (by omega) (by omega) (by omega) hC a1 c1 dat w1 R1.out)
  have HGW := fun (ps : List (Bool × List Int)) (al' : Option Addr) (cl' : Nat) (s : Four) (w' : World) (h1 : SRow pcL w' (fun _ => True) al' (b.p + b.m) cl' ps) (h2 : ∀ c, c < b.p + b.m → (ps.getD c (false, [])).1 = false → (ps.getD c (false, [])).2.length = b.sz c) (h3 : ∀ c, c < b.p + b.m → (ps.getD c (false, [])).2.length ≤ b.long) h4 =>
    gatherW D P ra n C b hb (by omega) (by omega) (by omega) (by omega) (by omega) (by omega) (by omega) (by omega) hC ps al' cl' s w' h1 h2 h3 h4
  have HG := Lib.hid HGW
  have HC := Lib.hid hC
  have HPP := Lib.hid hPp
  clear HGW hb hn hdat O1 B1 hdb hC
  go_wp2_with fail
  refine HLW.out.mono ?_
  rintro e w2 ⟨a2, c2, cs, rfl, HSV, HSO, B2⟩
  obtain ⟨sa, sb, sc, sd, hs4, rfl⟩ := HSV.out
  have HS4 := Lib.hid hs4
  have HB2 := Lib.hid B2
  clear HLW HSV hs4 B2
  obtain ⟨nn, hnn⟩ : ∃ nn, b.p + b.m = nn := ⟨_, rfl⟩
  have hpm : b.p + 1 ≤ nn := by have := b.h2.1; omega
  have hn8 : nn ≤ 8 := by have := b.h2.2; omega
  rw [hPp] at hpm
  clear hPp
  have HNN := Lib.hid hnn
  rw [hnn] at HSO
  rw [hnn]
  clear hnn
  go_upto_region 7 with fail
  obtain ⟨h16, e16⟩ : ∃ h, w2.heap.size = h := ⟨_, rfl⟩
  obtain ⟨X, hX⟩ : ∃ X, X = w2.alloc (.cells #[.int .i64 sa, .int .i64 sb, .int .i64 sc, .int .i64 sd] 30) := ⟨_, rfl⟩
  have b16 : Box X h16 #[.int .i64 sa, .int .i64 sb, .int .i64 sc, .int .i64 sd] 30 := by rw [hX]; exact Box.new e16.symm
  have h2X : Below w2.heap.size w2 X := by rw [hX]; exact Below_alloc1 _
  have hw1X : Below w1.heap.size w1 X := HB2.out.trans (h2X.mono HB2.out.size)
  have hwX : Below w.heap.size w X := HB1.out.trans (hw1X.mono HB1.out.size)
  have HO2 : Hid (SOwn pcL X w1.heap.size 35 (fun _ => True) a2 nn c2 (pieces b (padB C dat) nn)) := HSO.out.below h2X
  have HWX := Lib.hid hwX
  have HB16 := Lib.hid b16
  have hH1 : H ≤ w1.heap.size := by have := HB1.out.size; have := hH.out; omega
  have hXs : Hid (X.heap.size = h16 + 1) := by show _ = _; rw [hX]; simp [e16]
  have h16X : h16 < X.heap.size := by have := hXs.out; omega
  have h16w : w1.heap.size ≤ h16 := by have := HB2.out.size; omega
  have hlc2 := HO2.out.hle
  have hmc2 := HO2.out.hmax
  unfold maxLen at hmc2
  obtain ⟨M1, hM1⟩ : ∃ M1, w1.heap.size = M1 := ⟨_, rfl⟩
  rw [hM1] at hH1 h16w HO2
  have HM1 := Lib.hid hM1
  clear hM1
  have HG0X : Hid (∀ g0, a2 = some ⟨g0, 0, none⟩ → g0 < h16) := fun g0 e => by rw [← e16]; exact (HSO.out.lt g0 (by rw [e]; rfl)).2
  rw [← hX, e16]
  have HZX := Lib.hid (HZ.out.below hwX)
  have RX : Hid (Row .u8 X a1 n c1 dat) := R1.out.below hw1X
  have HA1 : Hid (∀ x o, a1 = some ⟨x, o, none⟩ → x < M1 ∨ n = 0) := fun x o e => by
    rcases R1.out.hat with h0 | ⟨b', o', e', hc⟩
    · exact .inr h0
    · rw [e] at e'
      injection e' with e'
      injection e' with e1 e2
      subst e1
      by_cases h0 : n = 0
      · exact .inr h0
      · exact .inl (by rw [← HM1.out]; exact World.block_lt_of_cell? _ _ (hc 0 (by omega)))
  clear R1
  clear hX e16 b16 h2X hw1X hwX HSO HB2 HB1 HX HX1 HZ
  go_wp2_with fail
  refine (sev al ll cl _ _ _ X HZX.out (by omega) (by omega) (by omega) (by omega)).mono ?_
  rintro e V ⟨a8, l8, c8, rfl, hown8, hb8⟩
  rw [show ((P : Nat) : Int).toNat = P by omega, show ((nn : Nat) : Int).toNat = nn by omega] at hown8
  have hPf := several_few' (n := nn) (most := P) (by omega) zs
  have hPt := several_lt zs P nn
  obtain ⟨q, hq⟩ := several_filter zs P nn
  obtain ⟨gs, hgs⟩ : ∃ gs, several zs P nn = gs := ⟨_, rfl⟩
  rw [hgs] at hown8 hPf hPt hq
  have hPl : gs.length = l8 := by have := hown8.out.1; simpa [nats] using this
  have hV : Hid (Below X.heap.size X V) := hb8
  have R8 := Lib.hid hown8.out.ints
  have hr1 := R8.out.hle
  have hr2 := R8.out.hmax
  unfold maxLen at hr2
  have HPT := Lib.hid hPt
  have HPL := Lib.hid hPl
  have HQ := Lib.hid hq
  have HGB : Hid (∀ x o, a8 = some ⟨x, o, none⟩ → X.heap.size ≤ x) := fun x o e => by
    have h1 := (hown8.out.lt x (by rw [e]; rfl)).1
    omega
  have HOV := Lib.hid (HO2.out.below hV.out)
  have HB16V := Lib.hid (HB16.out.below hV.out (by omega))
  have HWV := Lib.hid (HWX.out.trans (hV.out.mono HWX.out.size))
  have hVs := hV.out.size
  have HXV := Lib.hid hV.out
  rw [hPl] at hPf
  clear hown8 hb8 hPt hPl hq hgs HZX HO2 HB16 HWX hV
  obtain ⟨g0, rfl⟩ : ∃ g0, a2 = some ⟨g0, 0, none⟩ := HOV.out.some (by omega)
  have hg0 := HOV.out.lt g0 rfl
  have hg16 : g0 < h16 := HG0X.out g0 rfl
  have hg0X : Hid (g0 < X.heap.size) := Nat.lt_trans hg16 h16X
  obtain ⟨pcs, hpcs⟩ : ∃ pcs, pieces b (padB C dat) nn = pcs := ⟨_, rfl⟩
  have HPCS := Lib.hid hpcs
  rw [hpcs] at HOV
  have hpl : Hid (pcs.length = nn) := by show _ = _; rw [← hpcs, pieces_len]
  clear hpcs
  go_wp2_with fail
  go_loopw [19] (fun iv wr => ∃ i : Nat, i ≤ l8 ∧ iv = .int .i64 (i : Int) ∧ Hid (SOwn pcL wr M1 35 (fun _ => True) (some ⟨g0, 0, none⟩) nn c2 (lose pcs (gs.take i))) ∧ Hid (Only g0 V wr)) (fun iv _ => l8 - (intOf iv).toNat)
  case atStart => exact ⟨0, Nat.zero_le _, rfl, HOV, Only.refl _ _⟩
  case round =>
    obtain ⟨i, hi, rfl, hO, hW⟩ := hrel
    by_cases hiP : i < l8
    · have i1 : (i : Int) < (l8 : Int) := by omega
      obtain ⟨c, hc⟩ : ∃ c, gs.getD i 0 = c := ⟨_, rfl⟩
      have hcn : c < nn := by rw [← hc]; exact HPT.out _ (getD_mem' (by rw [HPL.out]; exact hiP))
      rcases R8.out.hat with h0 | ⟨bg, og, rfl, hcg⟩
      · omega
      have hcg' := hcg i hiP
      rw [nats_getD, hc] at hcg'
      have hbg : bg ≠ g0 := by have := HGB.out bg og rfl; have := hg0X.out; omega
      have eg : wr.cell? ⟨bg, og + i, none⟩ = some (.int .i64 (c : Int)) := (World.cell?_of_block (w := V) (hW.out.block bg (World.block_lt_of_cell? _ _ hcg') hbg)).trans hcg'
      obtain ⟨⟨u1, y1⟩, ⟨u2, y2⟩, f1, f2⟩ := hO.out.cells_two rfl c hcn
      have HTK := Lib.hid (take_snocN (gs := gs) (i := i) (by rw [HPL.out]; exact hiP))
      have HCC := Lib.hid hc
      have HNX := Lib.hid (hO.out.put_two rfl c hcn (x := (true, [])) (u := .bool true) (v := .slice none 0 0) (F2 := fun _ => False) ⟨[.bool true], [.slice none 0 0], rfl, rfl, none, 0, 0, rfl, SRow.nil ..⟩ (fun b h => h.elim))
      clear hc hcg hcg'
      go_wp2_with fail
      refine ⟨⟨i + 1, by omega, by push_cast; rfl, ?_, hW.out.trans ((Only.setCell wr _ _).trans (Only.setCell _ _ _))⟩, by simp [intOf]; omega⟩
      have h := HNX.out
      rw [← lose_snoc, ← HCC.out, ← HTK.out] at h
      rw [HCC.out] at h
      exact h
    · obtain rfl : i = l8 := by omega
      have hgl : gs.take i = gs := by rw [← HPL.out, List.take_length]
      rw [hgl] at hO
      have hcs := lose_len gs pcs
      have hget : ∀ c, c < nn → (lose pcs gs).getD c (false, []) = if c ∈ gs then (true, []) else (false, b.col (padB C dat) c) := fun c hc => by
        rw [lose_get gs c pcs (by rw [hpl.out]; exact hc)]
        rw [← HPCS.out, pieces_get b (padB C dat) hc]
      have hpd : (padB C dat).length = b.bytes := by
        have := HC.out; rw [HBK.out.s]; exact fillC_len (by rw [HN.out]; omega)
      have hpb : Byt (padB C dat) := fillC_byt HDB.out
      have hlost : lostOf (lose pcs gs) nn = gs := lostOf_is HQ.out (fun c hc => by
        rw [hget c hc]
        by_cases h : c ∈ gs
        · rw [if_pos h]; simp [h]
        · rw [if_neg h]; simp [h])
      have hB16r : Box wr h16 #[.int .i64 sa, .int .i64 sb, .int .i64 sc, .int .i64 sd] 30 := (hW.out.block h16 HB16V.out.lt (by omega)).trans HB16V.out
      have t0 := hB16r.cell 0
      have t1 := hB16r.cell 1
      have t2 := hB16r.cell 2
      have t3 := hB16r.cell 3
      have hG : ∀ h2 h3 h4, _ := fun h2 h3 h4 => HG.out (lose pcs gs) (some ⟨g0, 0, none⟩) c2 ⟨sa, sb, sc, sd⟩ wr (by rw [HNN.out]; exact hO.out.row (fun _ _ => trivial)) h2 h3 h4
      rw [HNN.out, hlost, HPL.out] at hG
      have hfit : b.Fit (fun c => ((lose pcs gs).getD c (false, [])).2) gs := by
        refine ⟨fun x hx => by rw [HNN.out]; exact HPT.out x hx, by rw [HQ.out]; exact filter_nodup _ _, by rw [HPL.out, HPP.out]; exact hPf, fun c hc => ?_⟩
        rw [HNN.out] at hc
        show (((lose pcs gs).getD c (false, [])).2).length ≤ _
        rw [hget c hc]
        by_cases h : c ∈ gs
        · rw [if_pos h]; exact Nat.zero_le _
        · rw [if_neg h]
          show (b.col (padB C dat) c).length ≤ _
          rw [b.col_len hpd (by rw [HNN.out]; exact hc)]
          exact b.sz_le (by rw [HNN.out]; exact hc)
      have hdata : b.data (fun c => ((lose pcs gs).getD c (false, [])).2) gs = padB C dat := b.data_good hpd hpb hfit (fun c hc hng => by
        rw [HNN.out] at hc
        show ((lose pcs gs).getD c (false, [])).2 = _
        rw [hget c hc, if_neg hng])
      have HDATA := Lib.hid hdata
      have hG2 := hG (fun c hc hf => by
          rw [hget c hc] at hf ⊢
          by_cases h : c ∈ gs
          · rw [if_pos h] at hf; cases hf
          · rw [if_neg h]; exact b.col_len hpd (by rw [HNN.out]; exact hc)) (fun c hc => by
          rw [hget c hc]
          by_cases h : c ∈ gs
          · rw [if_pos h]; exact Nat.zero_le _
          · rw [if_neg h]
            show (b.col (padB C dat) c).length ≤ _
            rw [b.col_len hpd (by rw [HNN.out]; exact hc)]
            exact b.sz_le (by rw [HNN.out]; exact hc)) (fun _ => ⟨0, [], Nat.zero_le _, by rw [picks_zero]; exact List.mem_singleton.2 rfl, by
          have := hdata
          simp only [mapK, List.map_nil, List.append_nil]
          rw [this]; exact HS4.out⟩)
      have HG2 := Lib.hid hG2
      have HLOST := Lib.hid hlost
      have hLW := Lib.hid (HWV.out.trans (show Below w.heap.size V wr from hW.out.low (by have := hg0.1; have := hH.out; omega) HWV.out.size))
      clear hG hG2 hget hcs hgl hlost hpd
      clear hB16r
      go_wp2_with fail
      refine HG2.out.mono ?_
      rintro e wf (⟨h1, _⟩ | ⟨h1, g, ad, ap, cp, rfl, hfd, hrd, hrp, hbf⟩)
      · rw [HNN.out, HLOST.out, HPL.out, HPP.out] at h1
        omega
      · have hg : g = [] := hfd.none (by
          rw [HNN.out, HLOST.out]
          show sumF _ = _
          rw [List.append_nil, HDATA.out]; exact HS4.out)
        subst hg
        rw [HNN.out, HLOST.out, List.append_nil, HDATA.out] at hrd
        have hdt : (padB C dat).take n = dat := by unfold padB; rw [← HN.out]; exact fillC_take rfl
        rw [hdt] at hrd
        have HRD := Lib.hid hrd
        have HRX : Hid (Row .u8 wf a1 n c1 dat) := by
          refine Row.below ((RX.out.below HXV.out).keptIn (fun x o e hx => hW.out.block x hx ?_)) hbf
          have := hg0.1
          rcases HA1.out x o e with h | h <;> omega
        have hLF := Lib.hid (hLW.out.trans (hbf.mono hLW.out.size))
        clear hbf h1 hfd hrd hrp hdt
        go_wp2_with fail
        refine (sameBytes ad n n dat a1 n c1 dat wf HRD.out HRX.out).mono ?_
        rintro e w' ⟨rfl, k9, rfl⟩
        have hD : decide (dat = dat) = true := by simp
        go_wp2_with fail
        go_ret
        exact ⟨by simp, below_drewN hLF.out _⟩
end Go.Proofs.Ytkjaddiagembaaa
/- The statement GatherLostSaid is proved here: for every input the Go function GatherLost returns true, and each argument reads afterwards as it read before. No condition. -/
namespace Go.Proofs.Ytkjaddiagembaaa.gatherLost
open Go.ChangeShapes Go.WideShapes Go.ChangeAt Go.RowKit
set_option linter.unusedVariables false

theorem own : ownKnob Try.prog.godebug = none := by kernel_rfl
theorem laidOut : laidOutB Try.prog = true := by kernel_rfl

set_option maxRecDepth 100000 in
theorem lifted (os : Os) (started : os.Started) (H : Type) (enc : TypeId × Value → H) :
    ReturnsInHanded {} Try.checked os 3 .any (Rows.gatherLostSpec.pre6 enc Try.prog Try.f3 Rows.gatherLostRow.domain false) (Rows.gatherLostSpec.post enc Try.prog Try.f3 false true false false) := by
  refine returnsInHanded_of_change (C := Try.checked) own started (by kernel_rfl) Try.func3
    (ChangeSpec.witness6 (enc := enc) (C := Try.checked) false ⟨#[], #[.int .i64 0, .int .i64 0, .int .i64 0, .slice none 0 0, .slice none 0 0], []⟩ 3 (by kernel_rfl) (by kernel_rfl) (by kernel_rfl) (by kernel_rfl)) ?_
  intro W base args ds gs before hval0 hW hcnd _
  have hval : ∀ (j : Nat) t v, Try.f3.params[j]? = some t → args[j]? = some v → Value.okWide Try.prog W .any base t v := hval0
  have hW' := hW
  obtain ⟨p, q, hA0, hV, rfl, hfz, hnd⟩ := hW
  have hA : DataW.TrodAll enc Try.prog W 0 (fun _ => true) true Try.f3.params.toList args.toList ds p := hA0
  rw [Try.params3] at hA hval
  obtain ⟨v0, vs0, d0, ds0, p0, q0, hargs, rfl, rfl, h0, r0⟩ := trodAll_cons hA
  obtain ⟨v1, vs1, d1, ds1, p1, q1, rfl, rfl, rfl, h1, r1⟩ := trodAll_cons r0
  obtain ⟨v2, vs2, d2, ds2, p2, q2, rfl, rfl, rfl, h2, r2⟩ := trodAll_cons r1
  obtain ⟨v3, vs3, d3, ds3, p3, q3, rfl, rfl, rfl, h3, r3⟩ := trodAll_cons r2
  obtain ⟨v4, vs4, d4, ds4, p4, q4, rfl, rfl, rfl, h4, r4⟩ := trodAll_cons r3
  obtain ⟨rfl, rfl, rfl⟩ := trodAll_nil r4
  obtain rfl : args = #[v0, v1, v2, v3, v4] := by cases args; simp_all
  obtain ⟨rfl, rfl⟩ := trodVars_none hV
  have k0 := h0
  have lt0 : ∀ x ∈ p0, x.block < W.heap.size := by obtain ⟨m, hm⟩ := k0; exact DataW.trod_lt m _ _ _ hm
  obtain ⟨a0, rfl, _, _, w0⟩ := open_int Try.underlying3 (hval 0 3 v0 rfl rfl) h0
  have k1 := h1
  have lt1 : ∀ x ∈ p1, x.block < W.heap.size := by obtain ⟨m, hm⟩ := k1; exact DataW.trod_lt m _ _ _ hm
  obtain ⟨a1, rfl, _, _, w1⟩ := open_int Try.underlying3 (hval 1 3 v1 rfl rfl) h1
  have k2 := h2
  have lt2 : ∀ x ∈ p2, x.block < W.heap.size := by obtain ⟨m, hm⟩ := k2; exact DataW.trod_lt m _ _ _ hm
  obtain ⟨a2, rfl, _, _, w2⟩ := open_int Try.underlying3 (hval 2 3 v2 rfl rfl) h2
  have k3 := h3
  have lt3 : ∀ x ∈ p3, x.block < W.heap.size := by obtain ⟨m, hm⟩ := k3; exact DataW.trod_lt m _ _ _ hm
  obtain ⟨a3, len3, cap3, rfl⟩ := okWide_slice Try.underlying22 (hval 3 22 v3 rfl rfl)
  obtain ⟨x3, w3⟩ : ∃ xs, SRow _ W (fun _ => True) a3 len3 cap3 xs := by
    obtain ⟨fuel, hf⟩ := h3
    obtain ⟨xs, a, len, cap, hcs, hr⟩ := opens_bytesG hf
    simp [Value.cells] at hcs
    obtain ⟨rfl, rfl, rfl⟩ := hcs
    exact ⟨xs, hr⟩
  have k4 := h4
  have lt4 : ∀ x ∈ p4, x.block < W.heap.size := by obtain ⟨m, hm⟩ := k4; exact DataW.trod_lt m _ _ _ hm
  obtain ⟨a4, len4, cap4, rfl⟩ := okWide_slice Try.underlying23 (hval 4 23 v4 rfl rfl)
  obtain ⟨x4, w4⟩ : ∃ xs, SRow _ W (fun _ => True) a4 len4 cap4 xs := by
    obtain ⟨fuel, hf⟩ := h4
    obtain ⟨xs, a, len, cap, hcs, hr⟩ := opens_intsG hf
    simp [Value.cells] at hcs
    obtain ⟨rfl, rfl, rfl⟩ := hcs
    exact ⟨xs, hr⟩
  clear hA0 hval0
  refine (gatherLost a0 a1 a2 a3 len3 cap3 x3 a4 len4 cap4 x4 W w3.ints w4.ints : Calls Try.prog 3 _ W fun e w' => e = .returned (.bool true) ∧ Below W.heap.size W w').mono fun e W' ⟨he, bel⟩ => ?_
  subst he
  exact ⟨_, rfl, _, _, _, [], _, [], hW', trodAll_mk1 (shut_bool Try.underlying4 _), (trodAll_cons_mk (Below.trod laidOut (by kernel_rfl) (of_decide_eq_true (by kernel_rfl)) k0 bel lt0) (trodAll_cons_mk (Below.trod laidOut (by kernel_rfl) (of_decide_eq_true (by kernel_rfl)) k1 bel lt1) (trodAll_cons_mk (Below.trod laidOut (by kernel_rfl) (of_decide_eq_true (by kernel_rfl)) k2 bel lt2) (trodAll_cons_mk (Below.trod laidOut (by kernel_rfl) (of_decide_eq_true (by kernel_rfl)) k3 bel lt3) (trodAll_cons_mk (Below.trod laidOut (by kernel_rfl) (of_decide_eq_true (by kernel_rfl)) k4 bel lt4) trodAll_mk0))))), rfl, bel.frame _, fun h => by cases h⟩

theorem over : Rows.gatherLostRow.holds Try.pinned (OpenSpec.ofChange Rows.gatherLostSpec) :=
  OpenClaim.holds_of_wide 3 Try.f3 rfl rfl rfl rfl rfl rfl rfl ⟨rfl, rfl, rfl, rfl, rfl⟩ rfl rfl rfl rfl rfl (by kernel_rfl) Try.func3 (by kernel_rfl)
    (of_decide_eq_true (by kernel_rfl)) (by unfold Func.isWrapper; first | (rw [if_pos (by decide +kernel)]; kernel_rfl) | (rw [if_neg (by decide +kernel)]; exact ⟨rfl, rfl⟩))
    (fun os started H enc _ => lifted os started H enc)

theorem proved : Rows.GatherLostSaid := over
end Go.Proofs.Ytkjaddiagembaaa.gatherLost
