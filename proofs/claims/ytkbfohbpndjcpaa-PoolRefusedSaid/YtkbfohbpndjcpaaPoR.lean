/- The walk of PoolRefused. -/
import Derived.Test.YtkbfohbpndjcpaaPoY
import Derived.Test.YtkbfohbpndjcpaaPoZ
import Derived.StillTailTactics
namespace Go.Proofs.Ytkbfohbpndjcpaa
open Go.RowKit
set_option linter.unusedVariables false
set_option maxRecDepth 100000
set_option linter.unusedSimpArgs false

/-- Data that lie in an older world. -/
def oldL {α : Type} (L : Lay α) (W : World) (F : Nat → Prop) : Lay α where
  size := L.size
  pos := L.pos
  at_ := fun _ _ x vs => L.at_ W F x vs
  len := L.len
  one := L.one
  keep := fun h _ _ => h
theorem Own.ofOld {α : Type} {L : Lay α} {W w : World} {F : Nat → Prop} {B : Nat} {e : TypeId} {a : Option Addr} {len cap : Nat} {xs : List α} (h : (thOwn (oldL L W F) B e a len cap xs).holds w) (hB : Below W.heap.size W w) (hF : ∀ b, F b → b < W.heap.size) : SRow L w (fun b => b < w.heap.size) a len cap xs := by
  obtain ⟨hl, vss, F2, ho, hp, hF2⟩ := h
  refine ⟨hl, fun x hx _ => (World.ownsRow.lt ho x.block (by rw [hx]; rfl)).2, vss, ho.row, hp.1, fun i x vs hx hv => ?_⟩
  have := hp.2 i x vs hx hv
  exact L.keep (w := W) (F := F) this (fun b hb => Nat.lt_of_lt_of_le (hF b hb) hB.size) (fun b hb hlt => hB.block b hlt)
theorem ts_lt {w : World} {F : Nat → Prop} {a : Option Addr} {len cap : Nat} {xs : List Td} (h : SRow tdL w F a len cap xs) : xs.length = len := h.1
set_option maxHeartbeats 8000000 in
theorem poolRefused (F : Nat → Prop) (a : Option Addr) (len cap : Nat) (os : List Od) (w : World) (ha : SRow odL w F a len cap os) :
    Calls Try.prog 6 #[.slice a len cap] w fun e w' => e = .returned (.bool true) ∧ Below w.heap.size w w' := by
  have HA := Lib.hid ha
  clear ha
  have HOK := Lib.hid (commandsP_ok os 80 ownK (by decide) ownK_ok)
  have HLC := Lib.hid (commandsP_length os 80 ownK)
  have HRF := Lib.hid (pool_refused (commandsP os 80 ownK) pl0)
  go_enter Try.func6, Try.ntmps6
  go_wp2_with fail
  refine (ownKindsW w).mono ?_
  rintro e w1 ⟨rfl, hK1, hB1⟩
  go_wp2_with fail
  refine (commandsW F a len cap os 80 w.heap.size 0 22 22 ownK w1 (HA.out.below hB1.out) (kindsRow ownK hK1.out (by decide) (by decide)) (by decide) (by decide) (by decide)).mono ?_
  rintro e w2 ⟨a2, l2, c2, rfl, hO2, hB2⟩
  obtain ⟨cs, hcs⟩ : ∃ cs, commandsP os 80 ownK = cs := ⟨_, rfl⟩
  have h1 := HOK.out
  have h2 := HLC.out
  have h3 := HRF.out
  rw [hcs] at hO2 h1 h2 h3
  have HOK2 := Lib.hid h1
  have HRF2 := Lib.hid h3
  have hl2 : cs.length = l2 := hO2.out.1
  have hl2b : l2 ≤ 80 := by omega
  have HL2 := Lib.hid hl2
  have R2 := Lib.hid (SOwn.srowLtP hO2.out)
  have hle2 := R2.out.hle
  have hmx2 := R2.out.hmax
  unfold maxLen at hmx2
  have B2 : Hid (Below w.heap.size w w2) := hB1.out.trans (hB2.out.mono hB1.out.size)
  clear h1 h2 h3 hcs hl2 HOK HLC HRF hO2 hB1 hB2 hK1
  go_wp2_with fail
  refine (pooledW a2 l2 c2 cs w2 R2.out HOK2.out (by omega)).mono ?_
  rintro e w3 ⟨a3, c3, rfl, hR3, hB3⟩
  obtain ⟨ts, hts⟩ : ∃ ts, outsP pl0 cs = ts := ⟨_, rfl⟩
  have h3 := HRF2.out
  rw [hts] at hR3 h3
  have HRF := Lib.hid h3
  have HTL : Hid (ts.length = l2) := hR3.out.1
  have hle3 := hR3.out.hle
  have hmx3 := hR3.out.hmax
  unfold maxLen at hmx3
  clear h3 hts HRF2
  go_wp2_with (go_at_call 12; refine (begunW w3).mono ?_; rintro e w4 ⟨rfl, hB4⟩)
  have B34 : Hid (Below w2.heap.size w2 w4) := hB3.out.trans (hB4.out.mono hB3.out.size)
  have B4 : Hid (Below w.heap.size w w4) := B2.out.trans (B34.out.mono B2.out.size)
  have R4 : Hid (SRow cmL w4 (fun b => b < w2.heap.size) a2 l2 c2 cs) := R2.out.below B34.out
  have T4 : Hid (SRow tdL w4 (fun _ => True) a3 l2 c3 ts) := hR3.out.below hB4.out
  obtain ⟨B, hB⟩ : ∃ B, Hid (w4.heap.size = B) := ⟨_, rfl⟩
  have A0 : Hid (Apt [thOwn (oldL cmL w4 (fun b => b < w2.heap.size)) B 30 none 0 0 [], thOwn (oldL tdL w4 (fun _ => True)) B 41 none 0 0 [], thSince w4] w4) :=
    (((Apt.nil w4).cons (t := thSince w4) (Below.refl _ _) (fun s hs => by cases hs)).cons (t := thOwn (oldL tdL w4 (fun _ => True)) B 41 none 0 0 []) (SOwn.nil ..) (fun s hs b hb => by cases (show (none : Option Nat) = some b from hb))).cons (t := thOwn (oldL cmL w4 (fun b => b < w2.heap.size)) B 30 none 0 0 []) (SOwn.nil ..) (fun s hs b hb => by cases (show (none : Option Nat) = some b from hb))
  clear hR3 hB3 hB4 R2 B2
  go_wp2_with fail
  go_loopw [6, 7, 8] (fun fv wv iv wr => ∃ (i : Nat) (af : Option Addr) (lf cf : Nat) (aw : Option Addr) (lw cw : Nat), i ≤ l2 ∧ lf ≤ i ∧ lw ≤ i ∧ iv = .int .i64 i ∧ fv = .slice af lf cf ∧ wv = .slice aw lw cw ∧ Hid (Apt [thOwn (oldL cmL w4 (fun b => b < w2.heap.size)) B 30 af lf cf (fewP (cs.take i) (ts.take i)), thOwn (oldL tdL w4 (fun _ => True)) B 41 aw lw cw (wantP (ts.take i)), thSince w4] wr)) (fun _ _ iv _ => l2 - (intOf iv).toNat)
  case atStart => exact ⟨0, none, 0, 0, none, 0, 0, by omega, by omega, by omega, rfl, rfl, rfl, A0⟩
  case round =>
    obtain ⟨i, af, lf, cf, aw, lw, cw, hi, hfi, hwi, rfl, rfl, rfl, hApt⟩ := hrel
    by_cases hlt : i < l2
    · have il : (i : Int) < l2 := by omega
      have hBw : Hid (Below w4.heap.size w4 wr) := hApt.out.all 2 _ rfl
      have hBwr : Hid (B ≤ wr.heap.size) := by have := hB.out; have := hBw.out.size; show _ ≤ _; omega
      obtain ⟨b, off, c, ad, ld, cd, rfl, hb, hci, hrow, hrf, c0w, c1w, c2w, c3w, c4w, c5w, c6w, c7w⟩ := cmAt R4.out i hlt
      obtain ⟨b2, off2, r, ed, ld2, cd2, en, ln2, cn2, rfl, hb2, hri, hrow2, hnm2, d0w, d1w, d2w, d3w, d4w⟩ := tdAt T4.out i hlt
      have HY := Lib.hid (show (oldL cmL w4 (fun b => b < w2.heap.size)).at_ wr (fun _ => False) c (cmV c ad ld cd).toList from cm_at c (hrow.toS hrf))
      have HY2 := Lib.hid (show ∀ W, (oldL tdL w4 (fun _ => True)).at_ W (fun _ => False) r (tdV r.code r.size ed ld2 cd2 en ln2 cn2).toList from fun W => td_at (t := r) (hrow2.toS (fun _ _ _ => trivial)) (hnm2.keep (fun _ _ => trivial) (fun _ _ _ => rfl)))
      have hs := fewP_succ cs ts i c r hci hri
      have d0 := (hBw.out.cell (World.block_lt_of_cell? _ _ d0w)).trans d0w
      by_cases hr0 : r.code = 0
      · rw [if_pos hr0, if_pos hr0] at hs
        have HS := Lib.hid hs
        have c0 := (hBw.out.cell (World.block_lt_of_cell? _ _ c0w)).trans c0w
        have c1 := (hBw.out.cell (World.block_lt_of_cell? _ _ c1w)).trans c1w
        have c2 := (hBw.out.cell (World.block_lt_of_cell? _ _ c2w)).trans c2w
        have c3 := (hBw.out.cell (World.block_lt_of_cell? _ _ c3w)).trans c3w
        have c4 := (hBw.out.cell (World.block_lt_of_cell? _ _ c4w)).trans c4w
        have c5 := (hBw.out.cell (World.block_lt_of_cell? _ _ c5w)).trans c5w
        have c6 := (hBw.out.cell (World.block_lt_of_cell? _ _ c6w)).trans c6w
        have c7 := (hBw.out.cell (World.block_lt_of_cell? _ _ c7w)).trans c7w
        have D1 := Lib.hid d1w
        have D2 := Lib.hid d2w
        have D3 := Lib.hid d3w
        have D4 := Lib.hid d4w
        have D0 := Lib.hid d0w
        have hrz : ((r.code : Int) == 0) = true := by simp [hr0]
        clear c0w c1w c2w c3w c4w c5w c6w c7w d0w d1w d2w d3w d4w hs hr0 hrow hrf hrow2 hnm2 hci hri
        unfold cmV at HY
        unfold tdV at HY2
        go_wp2_with (first
          | (at_builtin; refine wpList_append_T1 (L := oldL cmL w4 (fun b => b < w2.heap.size)) (wr := wr) rfl (.tmp 38) (.tmp 43) 23 rfl B 30 _ 96 Try.underlying23 info_cmd rfl af lf cf _ rfl (hApt.out.all 0 _ rfl) _ c rfl HY.out (by unfold maxLen; omega) (by omega) hBwr.out ?_; intro a5 c5v w5 T5; have A5 := Lib.hid (Turns.inside (i := 0) hApt.out rfl T5).now; clear T5; have HB5 : Hid (Below w4.heap.size w4 w5) := A5.out.all 2 _ rfl; have hB5 : B ≤ w5.heap.size := (by have := hB.out; have := HB5.out.size; omega); have d0 := (HB5.out.cell (World.block_lt_of_cell? _ _ D0.out)).trans D0.out; have d1 := (HB5.out.cell (World.block_lt_of_cell? _ _ D1.out)).trans D1.out; have d2 := (HB5.out.cell (World.block_lt_of_cell? _ _ D2.out)).trans D2.out; have d3 := (HB5.out.cell (World.block_lt_of_cell? _ _ D3.out)).trans D3.out; have d4 := (HB5.out.cell (World.block_lt_of_cell? _ _ D4.out)).trans D4.out)
          | (at_builtin; refine wpList_append_T1 (L := oldL tdL w4 (fun _ => True)) (wr := w5) rfl (.tmp 45) (.tmp 50) 34 rfl B 41 _ 72 Try.underlying34 info_told rfl aw lw cw _ rfl (A5.out.all 1 _ rfl) _ r rfl (HY2.out w5) (by unfold maxLen; omega) (by omega) hB5 ?_; intro a6 c6v w6 T6; have A6 := Lib.hid (Turns.inside (i := 1) A5.out rfl T6).now; clear T6)
          | fail)
        go_roundw
        case rel => exact ⟨i + 1, a5, lf + 1, c5v, a6, lw + 1, c6v, by omega, by omega, by omega, by go_num, rfl, rfl, by show Apt _ _; rw [HS.out.1, HS.out.2]; exact A6.out⟩
        case measure => (simp [intOf]; try omega)
      · rw [if_neg hr0, if_neg hr0, List.append_nil, List.append_nil] at hs
        have HS := Lib.hid hs
        have hrz : ((r.code : Int) == 0) = false := by simp; omega
        clear c0w c1w c2w c3w c4w c5w c6w c7w d0w d1w d2w d3w d4w hs hr0 hrow hrf hrow2 hnm2 hci hri
        go_wp2_with fail
        go_roundw
        case rel => exact ⟨i + 1, af, lf, cf, aw, lw, cw, by omega, by omega, by omega, by go_num, rfl, rfl, by show Apt _ _; rw [HS.out.1, HS.out.2]; exact hApt.out⟩
        case measure => (simp [intOf]; try omega)
    · obtain rfl : i = l2 := by omega
      rw [List.take_of_length_le (by have := HL2.out; omega), List.take_of_length_le (by have := HTL.out; omega)] at hApt
      have hBw : Hid (Below w4.heap.size w4 wr) := hApt.out.all 2 _ rfl
      have HBw : Hid (Below w.heap.size w wr) := B4.out.trans (hBw.out.mono B4.out.size)
      have R5 := Lib.hid (Own.ofOld (hApt.out.all 0 _ rfl) hBw.out (fun b hb => Nat.lt_of_lt_of_le hb B34.out.size))
      have T5 : Hid (SRow tdL wr (fun _ => True) aw lw cw (wantP ts)) := by
        obtain ⟨hl, vss, F2, ho, hp, hF2⟩ : SOwn (oldL tdL w4 (fun _ => True)) wr B 41 (fun _ => False) aw lw cw (wantP ts) := hApt.out.all 1 _ rfl
        exact ⟨hl, fun x hx _ => trivial, vss, ho.row, hp.1, fun i x vs hx hv => tdL.keep (w := w4) (F := fun _ => True) (hp.2 i x vs hx hv) (fun _ _ => trivial) (fun b _ hlt => hBw.out.block b hlt)⟩
      clear hApt
      obtain ⟨wo, rfl⟩ : ∃ wo : World, wo = wr := ⟨_, rfl⟩
      go_wp2_with fail
      refine (pooledW af lf cf _ wo R5.out (fun c hc => HOK2.out c (fewP_mem hc)) (by omega)).mono ?_
      rintro e w6 ⟨a6, c6, rfl, hR6, hB6⟩
      rw [HRF.out] at hR6
      have T6 : Hid (SRow tdL w6 (fun _ => True) aw lw cw (wantP ts)) := T5.out.below hB6.out
      have B6 : Hid (Below w.heap.size w w6) := HBw.out.trans (hB6.out.mono HBw.out.size)
      obtain rfl : lw = lf := by rw [← T6.out.1, ← hR6.out.1]
      have hle6 := hR6.out.hle
      have hmx6 := hR6.out.hmax
      unfold maxLen at hmx6
      have hle7 := T6.out.hle
      have hmx7 := T6.out.hmax
      unfold maxLen at hmx7
      clear hBw HBw R5 T5 hB6
      go_wp2_with fail
      go_loopw [11] (fun iv wq => ∃ (j : Nat), j ≤ lw ∧ iv = .int .i64 j ∧ Hid (Below w6.heap.size w6 wq)) (fun iv _ => lw - (intOf iv).toNat)
      case atStart => exact ⟨0, by omega, rfl, Below.refl _ _⟩
      case round =>
        obtain ⟨j, hj, rfl, hBq⟩ := hrel
        by_cases hlt : j < lw
        · have il : (j : Int) < lw := by omega
          obtain ⟨b, off, r, ad, ld, cd, an, ln, cn, rfl, hb, hri, hrow, hnm, d0w, d1w, d2w, d3w, d4w⟩ := tdAt hR6.out j hlt
          obtain ⟨b2, off2, r2, ed, ld2, cd2, en, ln2, cn2, rfl, hb2, hri2, hrow2, hnm2, e0w, e1w, e2w, e3w, e4w⟩ := tdAt T6.out j hlt
          obtain rfl : r = r2 := by rw [hri] at hri2; exact Option.some.inj hri2
          have d0 := (hBq.out.cell (World.block_lt_of_cell? _ _ d0w)).trans d0w
          have d1 := (hBq.out.cell (World.block_lt_of_cell? _ _ d1w)).trans d1w
          have d2 := (hBq.out.cell (World.block_lt_of_cell? _ _ d2w)).trans d2w
          have d3 := (hBq.out.cell (World.block_lt_of_cell? _ _ d3w)).trans d3w
          have d4 := (hBq.out.cell (World.block_lt_of_cell? _ _ d4w)).trans d4w
          have e0 := (hBq.out.cell (World.block_lt_of_cell? _ _ e0w)).trans e0w
          have e1 := (hBq.out.cell (World.block_lt_of_cell? _ _ e1w)).trans e1w
          have e2 := (hBq.out.cell (World.block_lt_of_cell? _ _ e2w)).trans e2w
          have e3 := (hBq.out.cell (World.block_lt_of_cell? _ _ e3w)).trans e3w
          have e4 := (hBq.out.cell (World.block_lt_of_cell? _ _ e4w)).trans e4w
          have HST := Lib.hid (sameToldW r _ _ ad ld cd an ln cn ed ld2 cd2 en ln2 cn2 wr.drew ((hrow.below hBq.out).drewN 1) ((hnm.below hBq.out).drewN 1) ((hrow2.below hBq.out).drewN 1) ((hnm2.below hBq.out).drewN 1))
          unfold tdV at HST
          clear d0w d1w d2w d3w d4w e0w e1w e2w e3w e4w hrow hnm hrow2 hnm2 hri hri2 hb hb2
          go_wp2_with fail
          go_still_tail 8, (by kernel_rfl)
          change wpList _ _ _ _ _ wr.drew
          obtain ⟨W, hW⟩ : ∃ W, W = wr.drew := ⟨_, rfl⟩
          rw [← hW] at HST ⊢
          have HBW : Hid (Below w6.heap.size w6 W) := by rw [hW]; exact hBq.out.drew
          clear hW d0 d1 d2 d3 d4 e0 e1 e2 e3 e4
          go_wp2_with fail
          refine HST.out.mono ?_
          rintro e w8 ⟨rfl, hB8⟩
          go_wp2_with fail
          go_roundw
          case rel => exact ⟨j + 1, by omega, by go_num, HBW.out.trans (hB8.out.mono HBW.out.size)⟩
          case measure => (simp [intOf]; try omega)
        · obtain rfl : j = lw := by omega
          go_wp2_with fail
          go_ret
          exact ⟨rfl, B6.out.trans (hBq.out.mono B6.out.size)⟩
end Go.Proofs.Ytkbfohbpndjcpaa
