/- The statement GatherManySaid is proved here: for every input the Go function GatherMany returns true, and each argument reads afterwards as it read before. No condition. -/
import Derived.WalkKit
import Derived.ProofKit
import Derived.OpenShut
import Derived.ShutString
import Derived.ChangeOld
import Derived.Below
import Derived.Carry
import Derived.SizedLaws
import Derived.Test.YtkjaddiagembaaaZ28
import Derived.Test.YtkjaddiagembaaaRows
/- The law GatherMany. -/
namespace Go.Proofs.Ytkjaddiagembaaa
open Go.RowKit Go.Shelf
set_option linter.unusedVariables false
set_option maxRecDepth 100000

theorem vrow_four {w w0 : World} (e : TypeId) (hw : w = w0.alloc (.cells #[.int .i64 0, .int .i64 1, .int .i64 2, .int .i64 3] e)) : VRow w 1 (some ⟨w0.heap.size, 0, none⟩) 4 4 (([0, 1, 2, 3] : List Int).map fun x => [Value.int .i64 x]).flatten := by
  refine ⟨rfl, Nat.le_refl _, by unfold maxLen; omega, (fun h => by cases h), .inr ⟨w0.heap.size, 0, rfl, fun i hi => ?_⟩⟩
  subst hw
  rw [Nat.zero_add, cell_of_row _ _ i #[.int .i64 0, .int .i64 1, .int .i64 2, .int .i64 3] e (0, 0) (heap_alloc_new w0 _)]
  simp
theorem four_lt (l : List Int) (k : Nat) (h : k < 4) : (k : Int) ∈ l ++ [0, 1, 2, 3] := by
  apply List.mem_append_right
  match k, h with
  | 0, _ => simp
  | 1, _ => simp
  | 2, _ => simp
  | 3, _ => simp
set_option maxHeartbeats 16000000 in
theorem gatherMany (d p a0 : Int) (ab : Option Addr) (lb cb : Nat) (xs : List Int) (al : Option Addr) (ll cl : Nat) (zs : List Int) (w : World) (hb : Row .u8 w ab lb cb xs) (hz : Row .i64 w al ll cl zs) (hsz : ll * Try.prog.bytesOf 3 ≤ reachBytes) :
    Calls Try.prog 6 #[.int .i64 d, .int .i64 p, .int .i64 a0, .slice ab lb cb, .slice al ll cl] w fun e w' => e = .returned (.bool true) ∧ Below w.heap.size w w' := by
  rw [int_bytesG] at hsz
  unfold reachBytes at hsz
  have HX := Lib.hid hb
  have HZ := Lib.hid hz
  have z1 := hz.hle
  have z2 := hz.hmax
  unfold maxLen at z2
  have hzl := Lib.hid hz.hlen
  clear hb hz
  obtain ⟨H, hH⟩ : ∃ H, Hid (w.heap.size = H) := ⟨_, rfl⟩
  go_enter Try.func6, Try.ntmps6
  go_upto_region 3 with (first
    | (go_at_call 7; refine (shape d p _).mono ?_; rintro e w' ⟨D, P, hD1, hD2, hP1, hP2, hPD, rfl, rfl⟩)
    | (go_at_call 8; refine (picked a0 _ _ (by omega) (by omega)).mono ?_; rintro e w' ⟨ra, hra, hra0, hra1, rfl, rfl⟩))
  clear hra
  obtain ⟨D, rfl⟩ := Int.eq_ofNat_of_zero_le (show 0 ≤ D by omega)
  obtain ⟨P, rfl⟩ := Int.eq_ofNat_of_zero_le (show 0 ≤ P by omega)
  obtain ⟨ra, rfl⟩ := Int.eq_ofNat_of_zero_le hra0
  go_wp2_with fail
  refine (blockW ab lb cb xs 1000 w HX.out (by omega) (by omega)).mono ?_
  rintro e w1 ⟨a1, c1, rfl, O1, B1⟩
  have hbl := blockB_len xs 1000 (by omega)
  obtain ⟨dat, hdat⟩ : ∃ dat, blockB xs 1000 = dat := ⟨_, rfl⟩
  rw [hdat] at O1 hbl ⊢
  obtain ⟨n, hn⟩ : ∃ n, dat.length = n := ⟨_, rfl⟩
  rw [hn] at O1 hbl ⊢
  have HX1 : Hid (Byt xs) := fun v hv => byte_range (HX.out.hwf v hv)
  have hdb : Byt dat := by
    rw [← hdat]; unfold blockB
    split
    · intro v hv; obtain rfl := List.mem_singleton.1 hv; omega
    · exact fun v hv => HX1.out v (List.mem_of_mem_take hv)
  have R1 : Hid (Row .u8 w1 a1 n c1 dat) := VRow.toRow O1.out.row (fun v hv => WalkArith.wf_u8 (hdb v hv))
  have HB1 := Lib.hid B1
  have HDB := Lib.hid hdb
  have HN := Lib.hid hn
  obtain ⟨C, hC⟩ : ∃ C, C = (n + 127) / 128 := ⟨_, rfl⟩
  obtain ⟨b, hb⟩ := blk_ex (D := D) (P := P) (C := C) (by omega) (by omega) (by omega) (by omega) (by omega) (by omega) (by omega)
  have HBK := Lib.hid hb
  have hPp := hb.p
  have HLW := Lib.hid (laidW D P ra n C b hb (by omega) (by omega) (by omega) (by omega) (by omega) (by omega) (by omega) (by omega) hC a1 c1 dat w1 R1.out)
  have HGW := fun (ps : List (Bool × List Int)) (al' : Option Addr) (cl' : Nat) (s : Four) (w' : World) (h1 : SRow pcL w' (fun _ => True) al' (b.p + b.m) cl' ps) (h2 : ∀ c, c < b.p + b.m → (ps.getD c (false, [])).1 = false → (ps.getD c (false, [])).2.length = b.sz c) (h3 : ∀ c, c < b.p + b.m → (ps.getD c (false, [])).2.length ≤ b.long) h4 =>
    gatherW D P ra n C b hb (by omega) (by omega) (by omega) (by omega) (by omega) (by omega) (by omega) (by omega) hC ps al' cl' s w' h1 h2 h3 h4
  have HG := Lib.hid HGW
  have HC := Lib.hid hC
  have HPP := Lib.hid hPp
  clear HGW hb hn hdat O1 B1 hdb hC
  go_wp2_with fail
  refine HLW.out.mono ?_
  rintro e w2 ⟨a2, c2, cs, rfl, HSV, HSO, B2⟩
  obtain ⟨sa, sb, sc, sd, hs4, rfl⟩ := HSV.out
  have HS4 := Lib.hid hs4
  have HB2 := Lib.hid B2
  clear HLW HSV hs4 B2
  obtain ⟨nn, hnn⟩ : ∃ nn, b.p + b.m = nn := ⟨_, rfl⟩
  have hpm : b.p + 1 ≤ nn := by have := b.h2.1; omega
  have hn8 : nn ≤ 8 := by have := b.h2.2; omega
  rw [hPp] at hpm
  clear hPp
  have HNN := Lib.hid hnn
  rw [hnn] at HSO
  rw [hnn]
  clear hnn
  go_upto_region 7 with fail
  obtain ⟨h16, e16⟩ : ∃ h, w2.heap.size = h := ⟨_, rfl⟩
  obtain ⟨X, hX⟩ : ∃ X, X = w2.alloc (.cells #[.int .i64 sa, .int .i64 sb, .int .i64 sc, .int .i64 sd] 30) := ⟨_, rfl⟩
  have b16 : Box X h16 #[.int .i64 sa, .int .i64 sb, .int .i64 sc, .int .i64 sd] 30 := by rw [hX]; exact Box.new e16.symm
  have h2X : Below w2.heap.size w2 X := by rw [hX]; exact Below_alloc1 _
  have hw1X : Below w1.heap.size w1 X := HB2.out.trans (h2X.mono HB2.out.size)
  have hwX : Below w.heap.size w X := HB1.out.trans (hw1X.mono HB1.out.size)
  have HO2 : Hid (SOwn pcL X w1.heap.size 35 (fun _ => True) a2 nn c2 (pieces b (padB C dat) nn)) := HSO.out.below h2X
  have HWX := Lib.hid hwX
  have HB16 := Lib.hid b16
  have hH1 : H ≤ w1.heap.size := by have := HB1.out.size; have := hH.out; omega
  have hXs : Hid (X.heap.size = h16 + 1) := by show _ = _; rw [hX]; simp [e16]
  have h16X : h16 < X.heap.size := by have := hXs.out; omega
  have h16w : w1.heap.size ≤ h16 := by have := HB2.out.size; omega
  have hlc2 := HO2.out.hle
  have hmc2 := HO2.out.hmax
  unfold maxLen at hmc2
  obtain ⟨M1, hM1⟩ : ∃ M1, w1.heap.size = M1 := ⟨_, rfl⟩
  rw [hM1] at hH1 h16w HO2
  have HM1 := Lib.hid hM1
  clear hM1
  have HG0X : Hid (∀ g0, a2 = some ⟨g0, 0, none⟩ → g0 < h16) := fun g0 e => by rw [← e16]; exact (HSO.out.lt g0 (by rw [e]; rfl)).2
  rw [← hX, e16]
  have HZX := Lib.hid (HZ.out.below hwX)
  clear hX e16 b16 h2X hw1X hwX HSO HB2 HB1 R1 HX HX1 HZ
  go_wp2_with (at_builtin; refine wpList_append_data (L := Lay.int .i64) rfl (.const (.slice none 0 0)) (.tmp 44) 23 rfl X.heap.size 3 (.int .i64 0) 8 Try.underlying23 info_int' rfl (fun _ => True) none 0 0 [] rfl (SOwn.nil ..) al ll cl zs (zs.map fun x => [Value.int .i64 x]) rfl (by rw [flatten_ints]; exact HZX.out.toV) (fun _ => False) (Pt.ints HZX.out.hwf) hzl.out (fun b h => h.elim) (by unfold maxLen; omega) (by omega) (Nat.le_refl _) ?_)
  intro a5 c5 w5 hown5 hg5
  have G5 := Lib.hid ((SOwn.nil (Lay.int .i64) X X.heap.size 3 (fun _ => True)).grown (Below.refl _ _) (Nat.le_refl _) (Nat.le_refl _) hg5)
  have hw5 : X.heap.size ≤ w5.heap.size := G5.out.size
  have O5 := Lib.hid hown5
  clear hown5 hg5 HZX
  go_wp2_with (at_builtin; refine wpList_append_data (L := Lay.int .i64) rfl (.tmp 45) (.tmp 46) 23 rfl X.heap.size 3 (.int .i64 0) 8 Try.underlying23 info_int' rfl (fun _ => True) a5 ll c5 zs rfl (O5.out.alloc _) (some ⟨w5.heap.size, 0, none⟩) 4 4 [0, 1, 2, 3] (([0, 1, 2, 3] : List Int).map fun x => [Value.int .i64 x]) rfl (vrow_four 3 rfl) (fun _ => False) (Pt.ints (by decide)) rfl (fun b h => h.elim) (by unfold maxLen; omega) (by omega) (by have := (Below_alloc1 (wr := w5) (.cells #[.int .i64 0, .int .i64 1, .int .i64 2, .int .i64 3] 3)).size; omega) ?_)
  intro a7 c7 w7 hown7 hg7
  have L6 : Below X.heap.size X (w5.alloc (.cells #[.int .i64 0, .int .i64 1, .int .i64 2, .int .i64 3] 3)) := G5.out.trans ((Below_alloc1 _).mono (by omega))
  obtain ⟨w6, hw6⟩ : ∃ W, w5.alloc (.cells #[.int .i64 0, .int .i64 1, .int .i64 2, .int .i64 3] 3) = W := ⟨_, rfl⟩
  have O6 := (O5.out.alloc (.cells #[.int .i64 0, .int .i64 1, .int .i64 2, .int .i64 3] 3))
  have hw65 : w5.heap.size ≤ w6.heap.size := by rw [← hw6]; exact (Below_alloc1 (wr := w5) _).size
  rw [hw6] at hg7 L6 O6
  have L7 := Lib.hid (O6.grown L6 (by omega) (by omega) hg7)
  have R7 := Lib.hid hown7.ints
  clear hown7 hg7 L6 O6 G5 O5 hw6 hw65
  go_wp2_with fail
  refine (sev a7 (ll + 4) c7 _ _ _ w7 R7.out (by omega) (by omega) (by omega) (by omega)).mono ?_
  rintro e V ⟨a8, l8, c8, rfl, hown8, hb8⟩
  rw [show ((P : Int) + 1).toNat = P + 1 by omega, show ((nn : Nat) : Int).toNat = nn by omega] at hown8
  have hPl := several_length (n := nn) (most := P + 1) (by omega) (zs ++ [0, 1, 2, 3]) (min 4 nn) (by omega) (by omega) (fun k hk => four_lt zs k (by omega))
  have hPt := several_lt (zs ++ [0, 1, 2, 3]) (P + 1) nn
  obtain ⟨q, hq⟩ := several_filter (zs ++ [0, 1, 2, 3]) (P + 1) nn
  obtain ⟨gs, hgs⟩ : ∃ gs, several (zs ++ [0, 1, 2, 3]) (P + 1) nn = gs := ⟨_, rfl⟩
  rw [hgs] at hown8 hPl hPt hq
  have hl8 : l8 = P + 1 := by have := hown8.out.1; rw [← this]; simpa [nats] using hPl
  subst hl8
  have hV : Hid (Below X.heap.size X V) := L7.out.trans (hb8.mono L7.out.size)
  have R8 := Lib.hid hown8.out.ints
  have hr1 := R8.out.hle
  have hr2 := R8.out.hmax
  unfold maxLen at hr2
  have HPT := Lib.hid hPt
  have HPL := Lib.hid hPl
  have HQ := Lib.hid hq
  have HGB : Hid (∀ x o, a8 = some ⟨x, o, none⟩ → X.heap.size ≤ x) := fun x o e => by
    have h1 := (hown8.out.lt x (by rw [e]; rfl)).1
    have h2 := L7.out.size
    omega
  have HOV := Lib.hid (HO2.out.below hV.out)
  have HB16V := Lib.hid (HB16.out.below hV.out (by omega))
  have HWV := Lib.hid (HWX.out.trans (hV.out.mono HWX.out.size))
  have hVs := hV.out.size
  clear hown8 hb8 hPt hPl hq hgs R7 L7 HO2 HB16 HWX hV
  obtain ⟨g0, rfl⟩ : ∃ g0, a2 = some ⟨g0, 0, none⟩ := HOV.out.some (by omega)
  have hg0 := HOV.out.lt g0 rfl
  have hg16 : g0 < h16 := HG0X.out g0 rfl
  have hg0X : Hid (g0 < X.heap.size) := Nat.lt_trans hg16 h16X
  obtain ⟨pcs, hpcs⟩ : ∃ pcs, pieces b (padB C dat) nn = pcs := ⟨_, rfl⟩
  have HPCS := Lib.hid hpcs
  rw [hpcs] at HOV
  have hpl : Hid (pcs.length = nn) := by show _ = _; rw [← hpcs, pieces_len]
  clear hpcs
  go_wp2_with fail
  go_loopw [19] (fun iv wr => ∃ i : Nat, i ≤ P + 1 ∧ iv = .int .i64 (i : Int) ∧ Hid (SOwn pcL wr M1 35 (fun _ => True) (some ⟨g0, 0, none⟩) nn c2 (lose pcs (gs.take i))) ∧ Hid (Only g0 V wr)) (fun iv _ => P + 1 - (intOf iv).toNat)
  case atStart => exact ⟨0, Nat.zero_le _, rfl, HOV, Only.refl _ _⟩
  case round =>
    obtain ⟨i, hi, rfl, hO, hW⟩ := hrel
    by_cases hiP : i < P + 1
    · have i1 : (i : Int) < ((P + 1 : Nat) : Int) := by omega
      have i1' : (i : Int) < (P : Int) + 1 := by omega
      obtain ⟨c, hc⟩ : ∃ c, gs.getD i 0 = c := ⟨_, rfl⟩
      have hcn : c < nn := by rw [← hc]; exact HPT.out _ (getD_mem' (by rw [HPL.out]; exact hiP))
      rcases R8.out.hat with h0 | ⟨bg, og, rfl, hcg⟩
      · omega
      have hcg' := hcg i hiP
      rw [nats_getD, hc] at hcg'
      have hbg : bg ≠ g0 := by have := HGB.out bg og rfl; have := hg0X.out; omega
      have eg : wr.cell? ⟨bg, og + i, none⟩ = some (.int .i64 (c : Int)) := (World.cell?_of_block (w := V) (hW.out.block bg (World.block_lt_of_cell? _ _ hcg') hbg)).trans hcg'
      obtain ⟨⟨u1, y1⟩, ⟨u2, y2⟩, f1, f2⟩ := hO.out.cells_two rfl c hcn
      have HTK := Lib.hid (take_snocN (gs := gs) (i := i) (by rw [HPL.out]; exact hiP))
      have HCC := Lib.hid hc
      have HNX := Lib.hid (hO.out.put_two rfl c hcn (x := (true, [])) (u := .bool true) (v := .slice none 0 0) (F2 := fun _ => False) ⟨[.bool true], [.slice none 0 0], rfl, rfl, none, 0, 0, rfl, SRow.nil ..⟩ (fun b h => h.elim))
      clear hc hcg hcg'
      go_wp2_with fail
      refine ⟨⟨i + 1, by omega, by push_cast; rfl, ?_, hW.out.trans ((Only.setCell wr _ _).trans (Only.setCell _ _ _))⟩, by simp [intOf]; omega⟩
      have h := HNX.out
      rw [← lose_snoc, ← HCC.out, ← HTK.out] at h
      rw [HCC.out] at h
      exact h
    · obtain rfl : i = P + 1 := by omega
      have hgl : gs.take (P + 1) = gs := by rw [← HPL.out, List.take_length]
      rw [hgl] at hO
      have hcs := lose_len gs pcs
      have hget : ∀ c, c < nn → (lose pcs gs).getD c (false, []) = if c ∈ gs then (true, []) else (false, b.col (padB C dat) c) := fun c hc => by
        rw [lose_get gs c pcs (by rw [hpl.out]; exact hc)]
        rw [← HPCS.out, pieces_get b (padB C dat) hc]
      have hpd : (padB C dat).length = b.bytes := by
        have := HC.out; rw [HBK.out.s]; exact fillC_len (by rw [HN.out]; omega)
      have hlost : lostOf (lose pcs gs) nn = gs := lostOf_is HQ.out (fun c hc => by
        rw [hget c hc]
        by_cases h : c ∈ gs
        · rw [if_pos h]; simp [h]
        · rw [if_neg h]; simp [h])
      have hB16r : Box wr h16 #[.int .i64 sa, .int .i64 sb, .int .i64 sc, .int .i64 sd] 30 := (hW.out.block h16 HB16V.out.lt (by omega)).trans HB16V.out
      have t0 := hB16r.cell 0
      have t1 := hB16r.cell 1
      have t2 := hB16r.cell 2
      have t3 := hB16r.cell 3
      have hG : ∀ h2 h3 h4, _ := fun h2 h3 h4 => HG.out (lose pcs gs) (some ⟨g0, 0, none⟩) c2 ⟨sa, sb, sc, sd⟩ wr (by rw [HNN.out]; exact hO.out.row (fun _ _ => trivial)) h2 h3 h4
      rw [HNN.out, hlost, HPL.out] at hG
      have hG2 := hG (fun c hc hf => by
          rw [hget c hc] at hf ⊢
          by_cases h : c ∈ gs
          · rw [if_pos h] at hf; cases hf
          · rw [if_neg h]; exact b.col_len hpd (by rw [HNN.out]; exact hc)) (fun c hc => by
          rw [hget c hc]
          by_cases h : c ∈ gs
          · rw [if_pos h]; exact Nat.zero_le _
          · rw [if_neg h]
            show (b.col (padB C dat) c).length ≤ _
            rw [b.col_len hpd (by rw [HNN.out]; exact hc)]
            exact b.sz_le (by rw [HNN.out]; exact hc)) (fun h => by rw [HPP.out] at h; omega)
      have HG2 := Lib.hid hG2
      have HLOST := Lib.hid hlost
      have hLW := Lib.hid (HWV.out.trans (show Below w.heap.size V wr from hW.out.low (by have := hg0.1; have := hH.out; omega) HWV.out.size))
      clear hG hG2 hget hcs hgl hlost hpd
      clear hB16r
      go_wp2_with fail
      refine HG2.out.mono ?_
      rintro e wf (⟨h1, rfl, hbf⟩ | ⟨h1, _⟩)
      · have q1 : (((P + 1 : Nat) : Int) == (P : Int) + 1) = true := by simp
        have q2 : ((P : Int) + 1 == (P : Int) + 1) = true := by simp
        have hLF := Lib.hid (hLW.out.trans (hbf.mono hLW.out.size))
        clear hbf h1
        go_wp2_with fail
        go_ret
        exact ⟨rfl, hLF.out⟩
      · rw [HNN.out, HLOST.out, HPL.out, HPP.out] at h1
        omega
end Go.Proofs.Ytkjaddiagembaaa
/- The statement GatherManySaid is proved here: for every input the Go function GatherMany returns true, and each argument reads afterwards as it read before. No condition. -/
namespace Go.Proofs.Ytkjaddiagembaaa.gatherMany
open Go.ChangeShapes Go.WideShapes Go.ChangeAt Go.RowKit
set_option linter.unusedVariables false

theorem own : ownKnob Try.prog.godebug = none := by kernel_rfl
theorem laidOut : laidOutB Try.prog = true := by kernel_rfl

set_option maxRecDepth 100000 in
theorem lifted (os : Os) (started : os.Started) (H : Type) (enc : TypeId × Value → H) :
    ReturnsInHanded {} Try.checked os 6 .any (Rows.gatherManySpec.pre6 enc Try.prog Try.f6 Rows.gatherManyRow.domain false) (Rows.gatherManySpec.post enc Try.prog Try.f6 false true false false) := by
  refine returnsInHanded_of_change_sized (C := Try.checked) own started (by kernel_rfl) Try.func6
    (ChangeSpec.witness6 (enc := enc) (C := Try.checked) false ⟨#[], #[.int .i64 0, .int .i64 0, .int .i64 0, .slice none 0 0, .slice none 0 0], []⟩ 6 (by kernel_rfl) (by kernel_rfl) (by kernel_rfl) (by kernel_rfl)) ?_
  intro W base args ds gs before hval0 hW hcnd hsz0 _
  have hsz : (DataW.weightsEach Try.prog (Try.f6.params.toList ++ Rows.gatherManySpec.plain.varTypes Try.prog) (ds ++ gs)).all (· ≤ reachBytes) = true := hsz0
  have hval : ∀ (j : Nat) t v, Try.f6.params[j]? = some t → args[j]? = some v → Value.okWide Try.prog W .any base t v := hval0
  have hW' := hW
  obtain ⟨p, q, hA0, hV, rfl, hfz, hnd⟩ := hW
  have hA : DataW.TrodAll enc Try.prog W 0 (fun _ => true) true Try.f6.params.toList args.toList ds p := hA0
  rw [Try.params6] at hA hval hsz
  obtain ⟨v0, vs0, d0, ds0, p0, q0, hargs, rfl, rfl, h0, r0⟩ := trodAll_cons hA
  obtain ⟨v1, vs1, d1, ds1, p1, q1, rfl, rfl, rfl, h1, r1⟩ := trodAll_cons r0
  obtain ⟨v2, vs2, d2, ds2, p2, q2, rfl, rfl, rfl, h2, r2⟩ := trodAll_cons r1
  obtain ⟨v3, vs3, d3, ds3, p3, q3, rfl, rfl, rfl, h3, r3⟩ := trodAll_cons r2
  obtain ⟨v4, vs4, d4, ds4, p4, q4, rfl, rfl, rfl, h4, r4⟩ := trodAll_cons r3
  obtain ⟨rfl, rfl, rfl⟩ := trodAll_nil r4
  obtain rfl : args = #[v0, v1, v2, v3, v4] := by cases args; simp_all
  obtain ⟨rfl, rfl⟩ := trodVars_none hV
  have k0 := h0
  have lt0 : ∀ x ∈ p0, x.block < W.heap.size := by obtain ⟨m, hm⟩ := k0; exact DataW.trod_lt m _ _ _ hm
  obtain ⟨a0, rfl, _, _, w0⟩ := open_int Try.underlying3 (hval 0 3 v0 rfl rfl) h0
  have k1 := h1
  have lt1 : ∀ x ∈ p1, x.block < W.heap.size := by obtain ⟨m, hm⟩ := k1; exact DataW.trod_lt m _ _ _ hm
  obtain ⟨a1, rfl, _, _, w1⟩ := open_int Try.underlying3 (hval 1 3 v1 rfl rfl) h1
  have k2 := h2
  have lt2 : ∀ x ∈ p2, x.block < W.heap.size := by obtain ⟨m, hm⟩ := k2; exact DataW.trod_lt m _ _ _ hm
  obtain ⟨a2, rfl, _, _, w2⟩ := open_int Try.underlying3 (hval 2 3 v2 rfl rfl) h2
  have k3 := h3
  have lt3 : ∀ x ∈ p3, x.block < W.heap.size := by obtain ⟨m, hm⟩ := k3; exact DataW.trod_lt m _ _ _ hm
  obtain ⟨a3, len3, cap3, rfl⟩ := okWide_slice Try.underlying22 (hval 3 22 v3 rfl rfl)
  obtain ⟨x3, w3⟩ : ∃ xs, SRow _ W (fun _ => True) a3 len3 cap3 xs := by
    obtain ⟨fuel, hf⟩ := h3
    obtain ⟨xs, a, len, cap, hcs, hr⟩ := opens_bytesG hf
    simp [Value.cells] at hcs
    obtain ⟨rfl, rfl, rfl⟩ := hcs
    exact ⟨xs, hr⟩
  have k4 := h4
  have lt4 : ∀ x ∈ p4, x.block < W.heap.size := by obtain ⟨m, hm⟩ := k4; exact DataW.trod_lt m _ _ _ hm
  obtain ⟨a4, len4, cap4, rfl⟩ := okWide_slice Try.underlying23 (hval 4 23 v4 rfl rfl)
  obtain ⟨x4, w4⟩ : ∃ xs, SRow _ W (fun _ => True) a4 len4 cap4 xs := by
    obtain ⟨fuel, hf⟩ := h4
    obtain ⟨xs, a, len, cap, hcs, hr⟩ := opens_intsG hf
    simp [Value.cells] at hcs
    obtain ⟨rfl, rfl, rfl⟩ := hcs
    exact ⟨xs, hr⟩
  have z4 := sized_lenG hsz (j := 4) rfl rfl Try.underlying23 k4
  clear hA0 hval0
  refine (gatherMany a0 a1 a2 a3 len3 cap3 x3 a4 len4 cap4 x4 W w3.ints w4.ints z4 : Calls Try.prog 6 _ W fun e w' => e = .returned (.bool true) ∧ Below W.heap.size W w').mono fun e W' ⟨he, bel⟩ => ?_
  subst he
  exact ⟨_, rfl, _, _, _, [], _, [], hW', trodAll_mk1 (shut_bool Try.underlying4 _), (trodAll_cons_mk (Below.trod laidOut (by kernel_rfl) (of_decide_eq_true (by kernel_rfl)) k0 bel lt0) (trodAll_cons_mk (Below.trod laidOut (by kernel_rfl) (of_decide_eq_true (by kernel_rfl)) k1 bel lt1) (trodAll_cons_mk (Below.trod laidOut (by kernel_rfl) (of_decide_eq_true (by kernel_rfl)) k2 bel lt2) (trodAll_cons_mk (Below.trod laidOut (by kernel_rfl) (of_decide_eq_true (by kernel_rfl)) k3 bel lt3) (trodAll_cons_mk (Below.trod laidOut (by kernel_rfl) (of_decide_eq_true (by kernel_rfl)) k4 bel lt4) trodAll_mk0))))), rfl, bel.frame _, fun h => by cases h⟩

theorem over : Rows.gatherManyRow.holds Try.pinned (OpenSpec.ofChange Rows.gatherManySpec) :=
  OpenClaim.holds_of_wide 6 Try.f6 rfl rfl rfl rfl rfl rfl rfl ⟨rfl, rfl, rfl, rfl, rfl⟩ rfl rfl rfl rfl rfl (by kernel_rfl) Try.func6 (by kernel_rfl)
    (of_decide_eq_true (by kernel_rfl)) (by unfold Func.isWrapper; first | (rw [if_pos (by decide +kernel)]; kernel_rfl) | (rw [if_neg (by decide +kernel)]; exact ⟨rfl, rfl⟩))
    (fun os started H enc _ => lifted os started H enc)

theorem proved : Rows.GatherManySaid := over
end Go.Proofs.Ytkjaddiagembaaa.gatherMany
