/- Texts that belong together: GaD. -/
import Derived.Test.YtkjaddiagembaaaZ17
import Derived.Test.YtkjaddiagembaaaZ18
/- Package stripe: data of columns. -/
namespace Go.Proofs.Ytkjaddiagembaaa
open Go.RowKit
set_option linter.unusedVariables false
set_option maxRecDepth 100000

theorem SRow.ints {k : IntKind} {w : World} {F : Nat → Prop} {a : Option Addr} {len cap : Nat} {xs : List Int} (h : SRow (Lay.int k) w F a len cap xs) : Row k w a len cap xs := SRow.toRow h
/-- A piece: lost or not, and bytes. -/
def pcL : Lay (Bool × List Int) := Lay.pair Lay.bool (Lay.int .u8).slice
theorem pcRow {w : World} {F : Nat → Prop} {a : Option Addr} {len cap : Nat} {xs : List (Bool × List Int)} (h : SRow pcL w F a len cap xs) (i : Nat) (x : Bool × List Int) (hx : xs[i]? = some x) :
    ∃ b off ad nd cd, a = some ⟨b, off, none⟩ ∧ b < w.heap.size ∧ i < len ∧ w.cell? ⟨b, off + i * 2, none⟩ = some (.bool x.1) ∧ w.cell? ⟨b, off + i * 2 + 1, none⟩ = some (.slice ad nd cd) ∧ Row .u8 w ad nd cd x.2 := by
  have hi : i < len := by have := (List.getElem?_eq_some_iff.1 hx).1; have := h.1; omega
  obtain ⟨b, off, vs, ha, _, hb, hv, hc⟩ := h.get i hi
  obtain ⟨us, ws, rfl, h1, ad, nd, cd, rfl, hd⟩ := hv x hx
  obtain rfl : us = [.bool x.1] := h1
  exact ⟨b, off, ad, nd, cd, ha, hb, hi, hc 0 (by decide), hc 1 (by decide), hd.toRow⟩
/-- An empty slice with room. -/
theorem own_room {w : World} {g n B : Nat} {e : TypeId} {z : Value} (h : Box w g (List.replicate n z).toArray e) (hB : B ≤ g) (hn : n ≤ maxLen) : Own w B e 1 (some ⟨g, 0, none⟩) 0 n [] :=
  ⟨rfl, .inr ⟨g, n, _, rfl, hB, h, Nat.zero_le _, hn, by simp, by simp⟩⟩
def allTo (b : Blk) (f : Nat → List Int) (k : Nat) : List (List Int) := (List.range k).map fun i => fillC b.long (f (b.p + i))
def parTo (b : Blk) (f : Nat → List Int) (k : Nat) : List (List Int) := allTo b f b.m ++ (List.range k).map fun i => fillC b.long (f i)
theorem allTo_succ (b : Blk) (f : Nat → List Int) (k : Nat) : allTo b f (k + 1) = allTo b f k ++ [fillC b.long (f (b.p + k))] := by simp [allTo, List.range_succ]
theorem parTo_succ (b : Blk) (f : Nat → List Int) (k : Nat) : parTo b f (k + 1) = parTo b f k ++ [fillC b.long (f k)] := by simp [parTo, List.range_succ]
def dataTo (b : Blk) (R : List (List Int)) (k : Nat) : List Int := (List.range k).flatMap fun i => (R.getD i []).take (b.sz (b.p + i))
theorem dataTo_succ (b : Blk) (R : List (List Int)) (k : Nat) : dataTo b R (k + 1) = dataTo b R k ++ (R.getD k []).take (b.sz (b.p + k)) := by simp [dataTo, List.range_succ]
theorem row_cut {k : IntKind} {w : World} {a : Option Addr} {len cap : Nat} {xs : List Int} (h : Row k w a len cap xs) (n : Nat) (hn : n ≤ len) : Row k w a n cap (xs.take n) := by
  refine ⟨by rw [List.length_take, h.hlen]; omega, Nat.le_trans hn h.hle, h.hmax, h.hnil, fun x hx => h.hwf x (List.mem_of_mem_take hx), ?_⟩
  rcases h.hat with h0 | ⟨b, off, ha, hc⟩
  · exact .inl (by omega)
  · refine .inr ⟨b, off, ha, fun i hi => ?_⟩
    rw [hc i (by omega)]
    simp [List.getD, hi]
theorem back_len {b : Blk} {f : Nat → List Int} {gone : List Nat} (h : b.Fit f gone) {t : Nat} (ht : t < b.m) : ((b.back f gone).getD t []).length = b.long := by
  unfold Blk.back backOf
  rw [← take_getD _ b.m t ht, endN_take, take_getD _ b.m t ht]
  unfold filled
  rw [fillN_lens, startL_get _ _ _ _ _ _ _ (by omega), if_pos (by omega)]
  unfold l0
  split
  · simp
  · have e : t = b.place (b.p + t) := by unfold Blk.place; rw [if_neg (by omega)]; omega
    have := b.all_get f (c := b.p + t) (by omega)
    rw [← e] at this
    rw [this]
    exact fillC_len (h.len _ (by omega))
set_option maxHeartbeats 8000000 in
theorem dataW (b : Blk) (g cap : Nat) {F : Nat → Prop} (al : Option Addr) (cl : Nat) (ps : List (Bool × List Int)) (ag : Option Addr) (lg cg : Nat) (gone : List Nat) (w : World) (f : Nat → List Int) (hf : ∀ c, c < b.p + b.m → (ps.getD c (false, [])).2 = f c) (h : BCols b g cap w) (hps : SRow pcL w F al (b.p + b.m) cl ps) (hgn : Row .i64 w ag lg cg (nats gone)) (hfit : b.Fit f gone) :
    Calls Try.prog 20 #[blkV b g cap, .slice al (b.p + b.m) cl, .slice ag lg cg] w fun e w' => ∃ a' c', e = .returned (.slice a' b.bytes c') ∧ Hid (Own w' w.heap.size 5 1 a' b.bytes c' ((b.data f gone).map (.int .u8))) ∧ Below w.heap.size w w' ∧ Byt (b.data f gone) := by
  have hn8 : b.p + b.m ≤ 8 := b.h2.2
  have hp1 := b.h1
  have hm1 := b.h2.1
  have hlong := b.long_le
  obtain ⟨V, hV⟩ : ∃ V, V = w.alloc (.cells #[.slice (some ⟨g, 0, none⟩) (b.p + b.m) cap, .int .i64 (b.p : Int), .int .i64 (b.long : Int)] 52) := ⟨_, rfl⟩
  obtain ⟨h0, hh0⟩ : ∃ h0, w.heap.size = h0 := ⟨_, rfl⟩
  obtain ⟨B, hB⟩ : ∃ B, Hid (h0 + 1 = B) := ⟨_, rfl⟩
  have hsV : V.heap.size = B := by rw [hV, World.size_alloc, hh0]; exact hB.out
  have hbx : Box V h0 #[.slice (some ⟨g, 0, none⟩) (b.p + b.m) cap, .int .i64 (b.p : Int), .int .i64 (b.long : Int)] 52 := by rw [hV]; exact Box.new hh0.symm
  have hbv : Below w.heap.size w V := by rw [hV]; exact Below_alloc1 _
  have HBV := Lib.hid hbv
  have HBX := Lib.hid hbx
  have HC := Lib.hid (h.below hbv)
  have HPS := Lib.hid (hps.below hbv)
  have HGN := Lib.hid (hgn.below hbv)
  have HFIT := Lib.hid hfit
  have HF := Lib.hid hf
  have hpsl : Hid (ps.length = b.p + b.m) := hps.1
  obtain ⟨lo, hlo⟩ : ∃ lo, b.long = lo := ⟨_, rfl⟩
  obtain ⟨pp, hpp⟩ : ∃ pp, b.p = pp := ⟨_, rfl⟩
  obtain ⟨mm, hmm⟩ : ∃ mm, b.m = mm := ⟨_, rfl⟩
  have HLO := Lib.hid hlo
  have HPP := Lib.hid hpp
  have HMM := Lib.hid hmm
  have b1 : V.cell? ⟨h0, 1, none⟩ = some (.int .i64 (pp : Int)) := by rw [← hpp]; exact hbx.cell 1
  have hpcl := hps.hle
  have hpcm := hps.hmax
  unfold maxLen at hpcm
  clear hbx hbv h hps hgn hfit hf
  unfold blkV
  rw [hpp, hmm, hlo] at hV ⊢
  rw [hpp, hmm] at hn8 hpcl
  obtain ⟨nn, hnn⟩ : ∃ nn, pp + mm = nn := ⟨_, rfl⟩
  rw [hnn] at hV hn8 hpcl ⊢
  have HNN := Lib.hid hnn
  rw [hpp] at hp1
  rw [hmm] at hm1
  rw [hlo] at hlong
  go_enter Try.func20, Try.ntmps20
  go_upto_region 1 with fail
  rw [← hV]
  clear hV
  go_upto_region 2 with (refine wpList_make_room rfl _ _ 46 rfl 22 (.slice none 0 0) 24 Try.underlying46 info_bytes rfl .i64 .i64 nn rfl rfl (by omega) (by unfold maxLen; omega) ?_; intro hbox; have HMK := Lib.hid hbox; clear hbox)
  have hmk2 : Hid (SOwn (Lay.int .u8).slice (V.alloc (.cells (Array.replicate nn (Value.slice none 0 0)) 22)) B 22 (fun b => B ≤ b) (some ⟨B, 0, none⟩) 0 nn (allTo b f 0)) := by
    refine ⟨rfl, [], fun _ => False, ?_, Pt.nil .., fun b hb => hb.elim⟩
    have := HMK.out
    rw [hsV] at this
    exact own_room (by simpa using this) (Nat.le_refl _) (by unfold maxLen; omega)
  have hL1 : Hid (Below B V (V.alloc (.cells (Array.replicate nn (Value.slice none 0 0)) 22))) := (Below.refl _ V).alloc (by omega) _
  obtain ⟨V1, hV1⟩ : ∃ V1, V1 = V.alloc (.cells (Array.replicate nn (Value.slice none 0 0)) 22) := ⟨_, rfl⟩
  rw [← hV1] at hmk2 hL1 ⊢
  have b1' : V1.cell? ⟨h0, 1, none⟩ = some (.int .i64 (pp : Int)) := (hL1.out.cell (p := ⟨h0, 1, none⟩) (by show h0 < B; have := hB.out; omega)).trans b1
  clear hV1 HMK b1 hpp hmm hlo hnn
  go_wp2_with fail
  go_loopw [7, 8] (fun av cv wr => ∃ (k : Nat) (ao : Option Addr) (co : Nat), k ≤ mm ∧ cv = .int .i64 ((pp + k : Nat) : Int) ∧ av = .slice ao k co ∧ Hid (SOwn (Lay.int .u8).slice wr B 22 (fun b => B ≤ b) ao k co (allTo b f k)) ∧ Hid (Below B V wr)) (fun _ cv _ => nn - (intOf cv).toNat)
  case atStart => exact ⟨0, _, _, Nat.zero_le _, rfl, rfl, hmk2, hL1⟩
  case round =>
    obtain ⟨k, ao, co, hk, rfl, rfl, hO, hL⟩ := hrel
    have hBr : B ≤ wr.heap.size := by have := hL.out.size; omega
    have hh0B : h0 < B := by have := hB.out; omega
    have HBXr := Lib.hid (HBX.out.below hL.out hh0B)
    have hnm := HNN.out
    by_cases hlt : k < mm
    · have ci : ((pp + k : Nat) : Int) < (nn : Int) := by omega
      obtain ⟨x, hx⟩ : ∃ x, ps[pp + k]? = some x := ⟨_, List.getElem?_eq_getElem (by rw [hpsl.out, HPP.out, HMM.out]; omega)⟩
      have hxf : x.2 = f (pp + k) := by
        have := HF.out (pp + k) (by rw [HPP.out, HMM.out]; omega)
        rw [← this]; simp [List.getD, hx]
      obtain ⟨bl, ol, ad, nd, cd, rfl, hbl, _, _, hc1, hrow⟩ := pcRow (HPS.out.below (hsV ▸ hL.out)) (pp + k) x hx
      rw [hxf] at hrow
      have hnd : nd ≤ lo := by
        have h1 := hrow.hlen
        have h2 := HFIT.out.len (pp + k) (by rw [HPP.out, HMM.out]; omega)
        rw [HLO.out] at h2; omega
      have HROW := Lib.hid hrow
      have e0 : wr.cell? ⟨h0, 0, none⟩ = some (.slice (some ⟨g, 0, none⟩) nn cap) := by have := HBXr.out.cell 0; rw [HPP.out, HMM.out, hnm] at this; exact this
      have e1 : wr.cell? ⟨h0, 1, none⟩ = some (.int .i64 (pp : Int)) := by have := HBXr.out.cell 1; rw [HPP.out] at this; exact this
      have e2 : wr.cell? ⟨h0, 2, none⟩ = some (.int .i64 (lo : Int)) := by have := HBXr.out.cell 2; rw [HLO.out] at this; exact this
      clear hx hxf hrow
      obtain ⟨kk, hkk⟩ : ∃ kk, pp + k = kk := ⟨_, rfl⟩
      rw [hkk] at ci hc1 HROW ⊢
      have HFW : Hid (∀ w0, Row .u8 w0 ad nd cd (f kk) → Calls Try.prog 25 #[.agg #[.slice (some ⟨g, 0, none⟩) nn cap, .int .i64 (pp : Int), .int .i64 (lo : Int)], .slice ad nd cd] w0 fun e w' => ∃ g', e = .returned (.slice (some ⟨g', 0, none⟩) lo lo) ∧ Hid (Own w' w0.heap.size 5 1 (some ⟨g', 0, none⟩) lo lo ((fillC lo (f kk)).map (.int .u8))) ∧ Below w0.heap.size w0 w') := by
        intro w0 hr
        have := filledW b g cap ad nd cd (f kk) w0 hr (by rw [HLO.out]; exact hnd)
        unfold blkV at this
        rw [HPP.out, HMM.out, hnm, HLO.out] at this
        exact this
      have HKK := Lib.hid hkk
      clear hkk
      go_upto_block 1 with fail
      go_cut [7] from 28 to 37 (fun v7 wx => ∃ (a5 : Option Addr) (c5 : Nat), v7 = .slice a5 (k + 1) c5 ∧ Hid (SOwn (Lay.int .u8).slice wx B 22 (fun b => B ≤ b) a5 (k + 1) c5 (allTo b f (k + 1))) ∧ Hid (Below B V wx))
      case first =>
        go_upto_region 5 with fail
        have hbyt : Byt (fillC lo (f kk)) := fillC_byt (fun v hv => byte_range (HROW.out.hwf v hv))
        have HBYT := Lib.hid hbyt
        have HWD : Hid (Below wr.heap.size wr wr.drew) := (Below.refl _ wr).drew
        clear hbyt
        go_region_law (first
          | (go_simp; go_at_call 25; refine (HFW.out _ (HROW.out.drewN 1)).mono ?_; rintro e w3 ⟨g3, rfl, ho3, hb3⟩; have hb3' := HWD.out.trans hb3; have HB3 := Lib.hid hb3'; have O3 := Lib.hid (hO.out.below hb3'); have HR3 := Lib.hid (ho3.out.row.toRow (fun v hv => WalkArith.wf_u8 (HBYT.out v hv))); have hg3 := World.ownsRow.lt ho3.out g3 rfl; have hg3a : wr.heap.size ≤ g3 := hg3.1; have hg3b : g3 < w3.heap.size := hg3.2; have hno : Hid ((Value.slice ao k co).ownBlock ≠ some g3) := (fun e => (by have := (hO.out.lt g3 e).2; omega)); have hBr3 : B ≤ w3.heap.size := (by omega); have e0' := (hb3'.cell (p := ⟨h0, 0, none⟩) (by show h0 < _; omega)).trans e0; have e1' := (hb3'.cell (p := ⟨h0, 1, none⟩) (by show h0 < _; omega)).trans e1; have e2' := (hb3'.cell (p := ⟨h0, 2, none⟩) (by show h0 < _; omega)).trans e2; have hc1' := (hb3'.cell hbl).trans hc1; clear ho3 hb3 hb3' hg3)
          | (refine step_append_one (L := (Lay.int .u8).slice) (wr := w3) rfl (.tmp 28) (.tmp 36) 46 rfl B 22 _ 24 Try.underlying46 info_bytes rfl (fun b => B ≤ b) ao k co _ rfl O3.out #[.slice (some ⟨g3, 0, none⟩) lo lo] (fillC lo (f kk)) rfl (fun b => b = g3) ⟨_, _, _, rfl, Row.toS HR3.out (fun x hx _ => by cases hx; rfl)⟩ (fun b h => by subst h; exact ⟨by omega, hg3b, hno.out⟩) (by unfold maxLen; omega) (by omega) hBr3 ?_; intro a5 c5 w5 hown5 hg5; have L5 : Hid (Below B V w5) := O3.out.grown (hL.out.trans (HB3.out.mono hBr)) (Nat.le_refl _) hBr3 hg5; have HO5 : Hid (SOwn (Lay.int .u8).slice w5 B 22 (fun b => B ≤ b) a5 (k + 1) c5 (allTo b f (k + 1))) := (by show SOwn _ _ _ _ _ _ _ _ _; rw [allTo_succ, HPP.out, HKK.out, HLO.out]; exact hown5); clear hown5 hg5))
        all_goals
          go_wp2_with fail
          go_meet
          exact ⟨a5, c5, rfl, HO5, L5⟩
      case rest =>
        obtain ⟨a5, c5, rfl, hO5, hL5⟩ := hcut
        have w1 : IntKind.i64.wrap ((kk : Int) + 1) = ((pp + (k + 1) : Nat) : Int) := by have := HKK.out; rw [IntWalk.i64_in _ (by omega)]; omega
        clear HFW HROW e0 e1 e2
        go_wp2_with fail
        have hkk' := HKK.out
        refine ⟨⟨k + 1, a5, c5, by omega, by push_cast; rfl, rfl, hO5, hL5⟩, ?_⟩
        simp [intOf]; omega
    · obtain rfl : k = mm := by omega
      have hpe : Hid (SOwn (Lay.int .u8).slice wr B 22 (fun b => B ≤ b) ao (k + 0) co (parTo b f 0)) := by
        show SOwn _ _ _ _ _ _ _ _ _
        have : parTo b f 0 = allTo b f k := by unfold parTo; rw [HMM.out]; simp
        rw [this]; exact hO.out
      have e1 : wr.cell? ⟨h0, 1, none⟩ = some (.int .i64 (pp : Int)) := by have := HBXr.out.cell 1; rw [HPP.out] at this; exact this
      rw [hnm]
      go_wp2_with fail
      have hL2 := Lib.hid hL.out
      clear hO hL e1
      go_loopw [7, 9, 40] (fun av _ iv wx => ∃ (i : Nat) (ao : Option Addr) (co : Nat), i ≤ pp ∧ iv = .int .i64 (i : Int) ∧ av = .slice ao (k + i) co ∧ Hid (SOwn (Lay.int .u8).slice wx B 22 (fun b => B ≤ b) ao (k + i) co (parTo b f i)) ∧ Hid (Below B V wx)) (fun _ _ iv _ => pp - (intOf iv).toNat)
      case atStart => exact ⟨0, _, _, Nat.zero_le _, rfl, rfl, hpe, hL2⟩
      case round =>
        obtain ⟨i, ap, cp, hi, rfl, rfl, hO, hL⟩ := hrel
        have hBr : B ≤ wr.heap.size := by have := hL.out.size; omega
        have HBXr := Lib.hid (HBX.out.below hL.out hh0B)
        by_cases hlt : i < pp
        · have ci : (i : Int) < (pp : Int) := by omega
          have cn : (i : Int) < (nn : Int) := by omega
          obtain ⟨x, hx⟩ : ∃ x, ps[i]? = some x := ⟨_, List.getElem?_eq_getElem (by rw [hpsl.out, HPP.out, HMM.out]; omega)⟩
          have hxf : x.2 = f i := by
            have := HF.out i (by rw [HPP.out, HMM.out]; omega)
            rw [← this]; simp [List.getD, hx]
          obtain ⟨bl, ol, ad, nd, cd, rfl, hbl, _, _, hc1, hrow⟩ := pcRow (HPS.out.below (hsV ▸ hL.out)) i x hx
          rw [hxf] at hrow
          have hnd : nd ≤ lo := by
            have h1 := hrow.hlen
            have h2 := HFIT.out.len i (by rw [HPP.out, HMM.out]; omega)
            rw [HLO.out] at h2; omega
          have HROW := Lib.hid hrow
          have e0 : wr.cell? ⟨h0, 0, none⟩ = some (.slice (some ⟨g, 0, none⟩) nn cap) := by have := HBXr.out.cell 0; rw [HPP.out, HMM.out, hnm] at this; exact this
          have e1 : wr.cell? ⟨h0, 1, none⟩ = some (.int .i64 (pp : Int)) := by have := HBXr.out.cell 1; rw [HPP.out] at this; exact this
          have e2 : wr.cell? ⟨h0, 2, none⟩ = some (.int .i64 (lo : Int)) := by have := HBXr.out.cell 2; rw [HLO.out] at this; exact this
          clear hx hxf hrow
          have HFW : Hid (∀ w0, Row .u8 w0 ad nd cd (f i) → Calls Try.prog 25 #[.agg #[.slice (some ⟨g, 0, none⟩) nn cap, .int .i64 (pp : Int), .int .i64 (lo : Int)], .slice ad nd cd] w0 fun e w' => ∃ g', e = .returned (.slice (some ⟨g', 0, none⟩) lo lo) ∧ Hid (Own w' w0.heap.size 5 1 (some ⟨g', 0, none⟩) lo lo ((fillC lo (f i)).map (.int .u8))) ∧ Below w0.heap.size w0 w') := by
            intro w0 hr
            have := filledW b g cap ad nd cd (f i) w0 hr (by rw [HLO.out]; exact hnd)
            unfold blkV at this
            rw [HPP.out, HMM.out, hnm, HLO.out] at this
            exact this
          go_upto_block 3 with fail
          go_cut [7, 9] from 42 to 52 (fun v7 v9 wx => ∃ (a5 : Option Addr) (c5 : Nat), v7 = .slice a5 (k + i + 1) c5 ∧ Hid (SOwn (Lay.int .u8).slice wx B 22 (fun b => B ≤ b) a5 (k + i + 1) c5 (parTo b f (i + 1))) ∧ Hid (Below B V wx))
          case first =>
            go_upto_region 9 with fail
            have hbyt : Byt (fillC lo (f i)) := fillC_byt (fun v hv => byte_range (HROW.out.hwf v hv))
            have HBYT := Lib.hid hbyt
            have HWD : Hid (Below wr.heap.size wr wr.drew) := (Below.refl _ wr).drew
            clear hbyt
            go_region_law (first
              | (go_simp; go_at_call 25; refine (HFW.out _ (HROW.out.drewN 1)).mono ?_; rintro e w3 ⟨g3, rfl, ho3, hb3⟩; have hb3' := HWD.out.trans hb3; have HB3 := Lib.hid hb3'; have O3 := Lib.hid (hO.out.below hb3'); have HR3 := Lib.hid (ho3.out.row.toRow (fun v hv => WalkArith.wf_u8 (HBYT.out v hv))); have hg3 := World.ownsRow.lt ho3.out g3 rfl; have hg3a : wr.heap.size ≤ g3 := hg3.1; have hg3b : g3 < w3.heap.size := hg3.2; have hno : Hid ((Value.slice ap (k + i) cp).ownBlock ≠ some g3) := (fun e => (by have := (hO.out.lt g3 e).2; omega)); have hBr3 : B ≤ w3.heap.size := (by omega); have e0' := (hb3'.cell (p := ⟨h0, 0, none⟩) (by show h0 < _; omega)).trans e0; have e1' := (hb3'.cell (p := ⟨h0, 1, none⟩) (by show h0 < _; omega)).trans e1; have e2' := (hb3'.cell (p := ⟨h0, 2, none⟩) (by show h0 < _; omega)).trans e2; have hc1' := (hb3'.cell hbl).trans hc1; clear ho3 hb3 hb3' hg3)
              | (refine step_append_one (L := (Lay.int .u8).slice) (wr := w3) rfl (.tmp 43) (.tmp 51) 46 rfl B 22 _ 24 Try.underlying46 info_bytes rfl (fun b => B ≤ b) ap (k + i) cp _ rfl O3.out #[.slice (some ⟨g3, 0, none⟩) lo lo] (fillC lo (f i)) rfl (fun b => b = g3) ⟨_, _, _, rfl, Row.toS HR3.out (fun x hx _ => by cases hx; rfl)⟩ (fun b h => by subst h; exact ⟨by omega, hg3b, hno.out⟩) (by unfold maxLen; omega) (by omega) hBr3 ?_; intro a5 c5 w5 hown5 hg5; have L5 : Hid (Below B V w5) := O3.out.grown (hL.out.trans (HB3.out.mono hBr)) (Nat.le_refl _) hBr3 hg5; have HO5 : Hid (SOwn (Lay.int .u8).slice w5 B 22 (fun b => B ≤ b) a5 (k + i + 1) c5 (parTo b f (i + 1))) := (by show SOwn _ _ _ _ _ _ _ _ _; rw [parTo_succ, HLO.out]; exact hown5); clear hown5 hg5))
            all_goals
              go_wp2_with fail
              go_meet
              exact ⟨a5, c5, rfl, HO5, L5⟩
          case rest =>
            obtain ⟨a5, c5, rfl, hO5, hL5⟩ := hcut
            have w1 : IntKind.i64.wrap ((i : Int) + 1) = ((i + 1 : Nat) : Int) := by rw [IntWalk.i64_in _ (by omega)]; omega
            clear HFW HROW e0 e1 e2
            go_wp2_with fail
            refine ⟨⟨i + 1, a5, c5, by omega, by push_cast; rfl, by rw [Nat.add_assoc], by rw [← Nat.add_assoc]; exact hO5, hL5⟩, ?_⟩
            simp [intOf]; omega
        · obtain rfl : i = pp := by omega
          have hall : parTo b f i = b.all f := by unfold parTo allTo Blk.all; rw [HPP.out]
          rw [hall] at hO
          obtain ⟨W3, hW3⟩ : ∃ W3, wr = W3 := ⟨_, rfl⟩
          rw [hW3] at hO hL HBXr hBr ⊢
          clear hW3
          have OA := Lib.hid (hO.out.row (fun b hb => hb))
          obtain ⟨B3, hB3⟩ : ∃ B3, Hid (W3.heap.size = B3) := ⟨_, rfl⟩
          have hBB3 : B ≤ B3 := by have := hB3.out; omega
          have RG := Lib.hid (HGN.out.below (hsV ▸ hL.out))
          have hgl := RG.out.hle
          have hgm := RG.out.hmax
          have hgn : Hid (gone.length = lg) := by show _ = _; have := RG.out.hlen; simpa [nats] using this
          unfold maxLen at hgm
          have hlg3 : lg ≤ 3 := by have h1 := HFIT.out.few; have h2 := hgn.out; have h3 := HPP.out; omega
          have S3 : Hid (SOwn (Lay.int .i64) W3 B3 3 (fun _ => True) none 0 0 (nats ((gone.take 0).map b.place))) := SOwn.nil ..
          have L3 := Lib.hid hL.out
          clear hO hL hall
          go_wp2_with fail
          go_loopw [10, 12, 56] (fun pv _ jv wx => ∃ (j : Nat) (aq : Option Addr) (cq : Nat), j ≤ lg ∧ jv = .int .i64 (j : Int) ∧ pv = .slice aq j cq ∧ Hid (SOwn (Lay.int .i64) wx B3 3 (fun _ => True) aq j cq (nats ((gone.take j).map b.place))) ∧ Hid (Below B3 W3 wx)) (fun _ _ jv _ => lg - (intOf jv).toNat)
          case atStart => exact ⟨0, _, _, Nat.zero_le _, rfl, rfl, S3, Below.refl _ _⟩
          case round =>
            obtain ⟨j, aq, cq, hj, rfl, rfl, hq, hLq⟩ := hrel
            have hszq : B3 ≤ wr.heap.size := by have := hLq.out.size; have := hB3.out; omega
            have HBXq := Lib.hid (HBXr.out.below hLq.out (by omega))
            have e1 : wr.cell? ⟨h0, 1, none⟩ = some (.int .i64 (i : Int)) := by have := HBXq.out.cell 1; rw [HPP.out] at this; exact this
            by_cases hjl : j < lg
            · have cj : (j : Int) < (lg : Int) := by omega
              rcases (RG.out.below (hB3.out ▸ hLq.out)).hat with hz | ⟨bg, og, rfl, hcg⟩
              · omega
              have hcj := hcg j hjl
              rw [nats_getD] at hcj
              obtain ⟨c, hc⟩ : ∃ c, gone.getD j 0 = c := ⟨_, rfl⟩
              have hcm : c ∈ gone := by
                have : gone.getD j 0 = gone[j]'(by rw [hgn.out]; exact hjl) := by simp [List.getD, show j < gone.length by rw [hgn.out]; exact hjl]
                rw [← hc, this]; exact List.getElem_mem _
              have hclt : c < nn := by have := HFIT.out.lt c hcm; rw [HPP.out, HMM.out] at this; omega
              rw [hc] at hcj
              have htk : (gone.take (j + 1)).map b.place = (gone.take j).map b.place ++ [b.place c] := by
                rw [List.take_add_one, List.getElem?_eq_getElem (show j < gone.length by rw [hgn.out]; exact hjl)]
                have : gone[j]'(by rw [hgn.out]; exact hjl) = c := by rw [← hc]; simp [List.getD, show j < gone.length by rw [hgn.out]; exact hjl]
                simp [this]
              obtain ⟨v1, hv1⟩ : ∃ v1, Hid (v1 = (c : Int) - (i : Int)) := ⟨_, rfl⟩
              obtain ⟨v2, hv2⟩ : ∃ v2 : Nat, Hid (v2 + i = c + nn) := ⟨c + nn - i, by show _ = _; omega⟩
              obtain ⟨v3, hv3⟩ : ∃ v3, Hid (b.place c = v3) := ⟨_, rfl⟩
              have q1 := hv1.out
              have q2 := hv2.out
              have q3 : v3 = v2 % nn := by
                rw [← hv3.out]
                unfold Blk.place
                rw [HPP.out, HMM.out]
                by_cases hci : c < i
                · rw [if_pos hci, Nat.mod_eq_of_lt (by omega)]; omega
                · rw [if_neg hci, show v2 = (c - i) + nn by omega, Nat.add_mod_right, Nat.mod_eq_of_lt (by omega)]
              have w1 : IntKind.i64.wrap ((c : Int) - (i : Int)) = v1 := by rw [IntWalk.i64_in _ (by omega), q1]
              have w2 : IntKind.i64.wrap (v1 + (nn : Int)) = (v2 : Int) := by rw [IntWalk.i64_in _ (by omega)]; omega
              have w3 : Int.tmod (v2 : Int) (nn : Int) = (v3 : Int) := by rw [Int.tmod_eq_emod_of_nonneg (by omega), q3]; push_cast; rfl
              have w3' : (v2 : Int) % (nn : Int) = (v3 : Int) := by rw [q3]; push_cast; rfl
              have hv3b : v3 < nn := by rw [q3]; exact Nat.mod_lt _ (by omega)
              have w4 : IntKind.i64.wrap (v3 : Int) = (v3 : Int) := IntWalk.i64_in _ (by omega)
              have z1 : ((nn : Int) == 0) = false := by simp; omega
              have z2 : ¬ (nn : Int) = 0 := by omega
              have z3 : ¬ nn = 0 := by omega
              have HTK := Lib.hid htk
              clear q1 q2 q3 htk hc hcg hcm
              go_wp2_with (at_builtin; refine wpList_append_one (L := Lay.int .i64) rfl (.tmp 60) (.tmp 71) 23 rfl B3 3 _ 8 Try.underlying23 info_int rfl (fun _ => True) aq j cq _ rfl hq.out #[.int .i64 (v3 : Int)] (v3 : Int) rfl (fun _ => False) ⟨rfl, int_wf (by omega) (by omega)⟩ (fun b h => h.elim) (by unfold maxLen; omega) (by omega) hszq ?_; intro a6 c6 w6 hown6 hg6; have HO6 := Lib.hid hown6; have HG6 := Lib.hid hg6; clear hown6 hg6)
              have hL6 : Hid (Below B3 W3 w6) := hLq.out.grown HG6.out hszq (fun r hr => (hq.out.lt r hr).1)
              refine ⟨⟨j + 1, a6, c6, by omega, by push_cast; rfl, rfl, ?_, hL6⟩, ?_⟩
              · show SOwn _ _ _ _ _ _ _ _ _
                rw [HTK.out, show nats ((gone.take j).map b.place ++ [b.place c]) = nats ((gone.take j).map b.place) ++ [(v3 : Int)] by simp [nats, hv3.out]]
                exact HO6.out
              · simp [intOf]; omega
            · obtain rfl : j = lg := by omega
              have hgt : gone.take j = gone := by rw [← hgn.out, List.take_length]
              rw [hgt] at hq
              have HLOST : Hid (Lost (b.all f) k i lo (gone.map b.place)) := by
                have := HFIT.out.lost
                rw [HMM.out, HPP.out, HLO.out] at this
                exact this
              have HRB : Hid (∀ w0, Below W3.heap.size W3 w0 → Row .i64 w0 aq j cq (nats (gone.map b.place)) → Calls Try.prog 31 #[.slice ap (k + i) cp, .int .i64 (i : Int), .slice aq j cq] w0 fun e w' => ∃ a' c', e = .returned (.tuple #[.slice a' (k + i) c', .int .i64 0]) ∧ Hid (SRow (Lay.int .u8).slice w' (fun _ => True) a' (k + i) c' (b.back f gone)) ∧ Hid (Below w0.heap.size w0 w')) := by
                intro w0 hb0 hr0
                refine (rebuildW ap cp (b.all f) k i lo aq j cq (gone.map b.place) w0 (OA.out.below hb0) hr0 HLOST.out).mono ?_
                rintro e w' ⟨K, a', c', h1, h2, h3, h4, rfl, h5, h6⟩
                refine ⟨a', c', rfl, ?_, h6⟩
                have : b.back f gone = backOf (b.all f) (goneOf (gone.map b.place) (k + i)) k i lo K := by
                  unfold Blk.back Blk.K
                  rw [HMM.out, HPP.out, HLO.out, h1]
                rw [this]; exact h5
              have HQ := Lib.hid hq.out.ints
              have hLq' := hLq.out
              rw [← hB3.out] at hLq'
              have HLQ := Lib.hid hLq'
              clear hLq' hLq
              have hh0r : h0 < wr.heap.size := by omega
              go_wp2_with (refine (HRB.out _ HLQ.out HQ.out).mono ?_; rintro e W5 ⟨a7, c7, rfl, hS7, hB7⟩; have e15 := (hB7.out.cell (p := ⟨h0, 1, none⟩) hh0r).trans e1)
              obtain ⟨R, hR⟩ : ∃ R, b.back f gone = R := ⟨_, rfl⟩
              have HR := Lib.hid hR
              rw [hR] at hS7
              have hBYT : Hid (∀ t, t < k → Byt (R.getD t [])) := fun t ht => by
                obtain ⟨bs, os, a8, l8, c8, _, _, _, hrow8⟩ := nest_get hS7.out t (by omega)
                exact fun v hv => byte_range (hrow8.hwf v hv)
              have hBL : Hid (∀ t, t < k → (R.getD t []).length = lo) := fun t ht => by rw [← HR.out, back_len HFIT.out (by rw [HMM.out]; exact ht), HLO.out]
              have hBW : Hid (Below B V W5) := (L3.out.trans (HLQ.out.mono (by have := hB3.out; omega))).trans (hB7.out.mono (by omega))
              obtain ⟨B5, hB5⟩ : ∃ B5, Hid (W5.heap.size = B5) := ⟨_, rfl⟩
              have hBB5 : B ≤ B5 := by have h1 := hBW.out.size; have h2 := hB5.out; omega
              clear hR hB7 HRB HQ HLQ HLOST hgt hq OA S3 L3 hBr hszq HBXq
              go_loopw [15, 16] (fun ov cv wx => ∃ (t : Nat) (ao : Option Addr) (co : Nat), t ≤ k ∧ cv = .int .i64 ((i + t : Nat) : Int) ∧ ov = .slice ao (b.off t) co ∧ Hid (Own wx B5 5 1 ao (b.off t) co ((dataTo b R t).map (.int .u8))) ∧ Hid (Below B5 W5 wx)) (fun _ cv _ => nn - (intOf cv).toNat)
              case atStart => exact ⟨0, none, 0, Nat.zero_le _, rfl, rfl, Own.nil .., Below.refl _ _⟩
              case round =>
                obtain ⟨t, ao, co, ht, rfl, rfl, hO, hL⟩ := hrel
                have hBr : B5 ≤ wr.heap.size := by have := hL.out.size; have := hB5.out; omega
                have hBWr : Hid (Below B V wr) := hBW.out.trans (hL.out.mono hBB5)
                by_cases htk : t < k
                · have HBXr2 := Lib.hid (HBX.out.below hBWr.out hh0B)
                  have ci : ((i + t : Nat) : Int) < (nn : Int) := by omega
                  obtain ⟨bs, os, a8, l8, c8, rfl, hbs, hcs, hrow8⟩ := nest_get (hS7.out.below (hB5.out ▸ hL.out)) t (by omega)
                  obtain rfl : l8 = lo := by rw [← hBL.out t htk]; exact hrow8.hlen.symm
                  have hszt : b.sz (i + t) ≤ l8 := by
                    have := b.sz_le (c := i + t) (by rw [HPP.out, HMM.out]; omega)
                    rw [HLO.out] at this; exact this
                  have h8le := hrow8.hle
                  have h8mx := hrow8.hmax
                  unfold maxLen at h8mx
                  have hoff : Hid (b.off (t + 1) = b.off t + b.sz (i + t)) := by show b.off t + b.sz (b.p + t) = _; rw [HPP.out]
                  have hoffb : b.off t ≤ 100000 := by
                    have : ∀ s, s ≤ b.m → b.off s ≤ s * 4096 := by
                      intro s
                      induction s with
                      | zero => intro _; exact Nat.le_refl _
                      | succ s ih =>
                        intro hs
                        have h1 := b.sz_le (c := b.p + s) (by omega)
                        have h2 := b.long_le
                        have h3 := ih (by omega)
                        show b.off s + b.sz (b.p + s) ≤ _
                        omega
                    have h1 := this t (by rw [HMM.out]; omega)
                    omega
                  have e0 : wr.cell? ⟨h0, 0, none⟩ = some (.slice (some ⟨g, 0, none⟩) nn cap) := by have := HBXr2.out.cell 0; rw [HPP.out, HMM.out, hnm] at this; exact this
                  have e1 : wr.cell? ⟨h0, 1, none⟩ = some (.int .i64 (i : Int)) := by have := HBXr2.out.cell 1; rw [HPP.out] at this; exact this
                  have e2 : wr.cell? ⟨h0, 2, none⟩ = some (.int .i64 (l8 : Int)) := by have := HBXr2.out.cell 2; rw [HLO.out] at this; exact this
                  obtain ⟨sz, hsz⟩ : ∃ sz, Hid (b.sz (i + t) = sz) := ⟨_, rfl⟩
                  rw [hsz.out] at hszt
                  obtain ⟨ot, hot⟩ : ∃ ot, Hid (b.off t = ot) := ⟨_, rfl⟩
                  rw [hot.out] at hoffb hO ⊢
                  have HSZ : Hid (∀ w0, BCols b g cap w0 → Calls Try.prog 18 #[.agg #[.slice (some ⟨g, 0, none⟩) nn cap, .int .i64 (i : Int), .int .i64 (l8 : Int)], .int .i64 ((i + t : Nat) : Int)] w0 fun e w' => e = .returned (.int .i64 (sz : Int)) ∧ Below w0.heap.size w0 w') := by
                    intro w0 hc0
                    have := sizeW b g cap (i + t) (by rw [HPP.out, HMM.out]; omega) w0 hc0
                    unfold blkV at this
                    rw [HPP.out, HMM.out, hnm, HLO.out, hsz.out] at this
                    exact this
                  have HC8 := Lib.hid (HC.out.below (hsV ▸ hBWr.out))
                  have HRW8 := Lib.hid (row_cut hrow8 sz hszt)
                  have w1 : IntKind.i64.wrap (((i + t : Nat) : Int) - (i : Int)) = (t : Int) := by rw [IntWalk.i64_in _ (by omega)]; omega
                  have ct : (t : Int) < ((k + i : Nat) : Int) := by omega
                  have ct' : (t : Int) < (k : Int) + (i : Int) := by omega
                  have ct'' : t < k + i := by omega
                  obtain ⟨it, hit⟩ : ∃ it, Hid (i + t = it) := ⟨_, rfl⟩
                  rw [hit.out] at w1 ci HSZ ⊢
                  have s1 : ((sz : Int) ≤ (c8 : Int)) := by omega
                  clear hrow8
                  go_upto_block 7 with fail
                  go_cut [15] from 90 to 102 (fun v15 wx => ∃ (a5 : Option Addr) (c5 : Nat), v15 = .slice a5 (ot + sz) c5 ∧ Hid (Own wx B5 5 1 a5 (ot + sz) c5 ((dataTo b R (t + 1)).map (.int .u8))) ∧ Hid (Below B5 W5 wx))
                  case first =>
                    go_upto_region 22 with fail
                    have HWD : Hid (Below wr.heap.size wr wr.drew) := (Below.refl _ wr).drew
                    go_region_law (first
                      | (go_simp; go_at_call 18; refine (HSZ.out _ (HC8.out.below HWD.out)).mono ?_; rintro e w3 ⟨rfl, hb3⟩; have hb3' := HWD.out.trans hb3; have HB3 := Lib.hid hb3'; have e0' := (hb3'.cell (p := ⟨h0, 0, none⟩) (by show h0 < _; omega)).trans e0; have e1' := (hb3'.cell (p := ⟨h0, 1, none⟩) (by show h0 < _; omega)).trans e1; have e2' := (hb3'.cell (p := ⟨h0, 2, none⟩) (by show h0 < _; omega)).trans e2; have hcs' := (hb3'.cell hbs).trans hcs; have hBr3 : B5 ≤ w3.heap.size := (by have := hb3'.size; omega); clear hb3 hb3')
                      | (refine step_append_any rfl (.tmp 90) (.tmp 101) 22 rfl B5 5 _ 1 1 Try.underlying22 info_byte rfl (by decide) ao ot co _ rfl (Own.below hO.out HB3.out) a8 sz c8 ((((R.getD t []).take sz)).map (.int .u8)) rfl (HRW8.out.below HB3.out).toV (by intro u hu; obtain ⟨y, _, rfl⟩ := List.mem_map.1 hu; rfl) (by unfold maxLen; omega) (by omega) hBr3 ?_; intro a5 c5 w5 hown5 hg5; have HO5 := Lib.hid hown5; have HG5 := Lib.hid hg5; clear hown5 hg5))
                    all_goals
                      go_wp2_with fail
                      go_meet
                      refine ⟨a5, c5, rfl, ?_, ?_⟩
                      · show Own _ _ _ _ _ _ _ _
                        rw [dataTo_succ, List.map_append, HPP.out, hit.out, ← hit.out, hsz.out]
                        exact HO5.out
                      · exact Own.grown (Own.below hO.out HB3.out) (hL.out.trans (HB3.out.mono hBr)) (Nat.le_refl _) hBr3 HG5.out
                  case rest =>
                    obtain ⟨a5, c5, rfl, hO5, hL5⟩ := hcut
                    have w2 : IntKind.i64.wrap ((it : Int) + 1) = ((i + (t + 1) : Nat) : Int) := by have := hit.out; rw [IntWalk.i64_in _ (by omega)]; omega
                    clear HSZ HC8 HRW8 e0 e1 e2
                    go_wp2_with fail
                    have hit' := hit.out
                    have ho' : ot + sz = b.off (t + 1) := by rw [hoff.out, hot.out, hsz.out]
                    refine ⟨⟨t + 1, a5, c5, by omega, by push_cast; rfl, by rw [ho'], by rw [← ho']; exact hO5, hL5⟩, ?_⟩
                    simp [intOf]; omega
                · obtain rfl : t = k := by omega
                  go_wp2_with fail
                  go_ret
                  have hfin : Hid (Below w.heap.size w wr) := HBV.out.trans (hBWr.out.mono (by have := hB.out; omega))
                  refine ⟨ao, co, ?_, ?_, hfin.out, ?_⟩
                  · unfold Blk.bytes; rw [HMM.out]; rfl
                  · show Own _ _ _ _ _ _ _ _
                    have e : b.data f gone = dataTo b R t := by unfold Blk.data dataTo; rw [HMM.out, HR.out]
                    unfold Blk.bytes
                    rw [e, HMM.out]
                    exact Own.mono hO.out (by have := hB.out; omega)
                  · intro v hv
                    have e : b.data f gone = dataTo b R t := by unfold Blk.data dataTo; rw [HMM.out, HR.out]
                    rw [e] at hv
                    obtain ⟨j, hj, hv⟩ := List.mem_flatMap.1 hv
                    exact hBYT.out j (List.mem_range.1 hj) v (List.mem_of_mem_take hv)
end Go.Proofs.Ytkjaddiagembaaa
