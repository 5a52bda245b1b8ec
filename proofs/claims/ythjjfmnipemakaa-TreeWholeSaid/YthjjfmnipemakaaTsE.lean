/- The walk of TreeReads. -/
import Derived.Test.YthjjfmnipemakaaTsD
namespace Go.Proofs.Ythjjfmnipemakaa
open Go.RowKit
set_option linter.unusedVariables false
set_option maxRecDepth 100000

theorem SOwn.srowLt {α : Type} {L : Lay α} {B : Nat} {e : TypeId} {G : Nat → Prop} {a : Option Addr} {len cap : Nat} {xs : List α} {w : World} (h : SOwn L w B e G a len cap xs) : SRow L w (fun b => b < w.heap.size) a len cap xs := by
  obtain ⟨hl, vss, F, ho, hp, hF⟩ := h
  exact ⟨hl, fun x hx _ => (World.ownsRow.lt ho x.block (by rw [hx]; rfl)).2, vss, ho.row, hp.keep (fun b hb => (hF b hb).2.1) (fun _ _ _ => rfl)⟩
theorem SOwn.apartLt {α : Type} {L : Lay α} {B : Nat} {e : TypeId} {G : Nat → Prop} {a : Option Addr} {len cap : Nat} {xs : List α} {w : World} (h : SOwn L w B e G a len cap xs) (hB : B ≤ w.heap.size) : ∀ b, b < B → b < B ∧ b < w.heap.size ∧ (Value.slice a len cap).ownBlock ≠ some b := by
  obtain ⟨hl, vss, F, ho, hp, hF⟩ := h
  intro b hb
  refine ⟨hb, by omega, fun e => ?_⟩
  have := (World.ownsRow.lt ho b e).1
  omega
def wrS (v off : Nat) (data : List Int) : St := ⟨1, v, off, 0, data⟩
theorem wr_at {w : World} {N v off : Nat} {a : Option Addr} {n c : Nat} {data : List Int} (h : SRow (Lay.int .u8) w (fun b => b < N) a n c data) : stL.at_ w (fun b => b < N) (wrS v off data) (stepV 1 v off 0 a n c).toList :=
  ⟨four (wrS v off data), [.slice a n c], rfl, rfl, a, n, c, rfl, h⟩
set_option maxHeartbeats 8000000 in
theorem treeReads (F : Nat → Prop) (a : Option Addr) (len cap : Nat) (es : List Ed) (off : Int) (ad : Option Addr) (ld cd : Nat) (data : List Int) (which : Int) (w : World) (ha : SRow edL w F a len cap es) (hd : Row .u8 w ad ld cd data) :
    Calls Try.prog 3 #[.slice a len cap, .int .i64 off, .slice ad ld cd, .int .i64 which] w fun e w' => e = .returned (.bool true) ∧ Below w.heap.size w w' := by
  have hS := Lib.hid (stepsW F a len cap es 20 w ha (by decide))
  have HD := Lib.hid hd
  obtain ⟨hok, hmk⟩ := stepsP_ok es 20
  have hsl : (stepsP es 20).length ≤ 20 := by rw [stepsP_length]; omega
  obtain ⟨ss, hss⟩ : ∃ ss, stepsP es 20 = ss := ⟨_, rfl⟩
  rw [hss] at hok hmk hsl
  have HS1 := hS.out
  rw [hss] at HS1
  have HS := Lib.hid HS1
  have HOK := Lib.hid hok
  have HMK := Lib.hid hmk
  clear ha hd hS HS1 hss hok hmk
  go_enter Try.func3, Try.ntmps3
  go_wp2_with fail
  refine HS.out.mono ?_
  rintro e w1 ⟨a1, l1, c1, G1, rfl, hT1⟩
  have hl1 : Hid (ss.length = l1) := hT1.out.now.1.1
  have hl1b : l1 ≤ 20 := by have := hl1.out; omega
  have HB1 : Hid (Below w.heap.size w w1) := hT1.out.nilBelowT
  have w1l : IntKind.i64.wrap ((l1 : Int) + 1) = (l1 : Int) + 1 := IntWalk.i64_in _ (by omega)
  go_wp2_with fail
  refine (picked which ((l1 : Int) + 1) w1 (by omega) (by omega)).mono ?_
  rintro e w' ⟨vI, hvI, hv0, hv1, rfl, rfl⟩
  obtain ⟨v, rfl⟩ := Int.eq_ofNat_of_zero_le hv0
  go_wp2_with fail
  refine (picked off 3000 w1 (by decide) (by decide)).mono ?_
  rintro e w' ⟨oI, hoI, ho0, ho1, rfl, rfl⟩
  obtain ⟨o, rfl⟩ := Int.eq_ofNat_of_zero_le ho0
  go_wp2_with fail
  refine (blockW ad ld cd data 400 w1 (HD.out.below HB1.out) (by decide) (by decide)).mono ?_
  rintro e w2 ⟨ag, lg, cg, rfl, hT2⟩
  obtain ⟨D, hDe⟩ : ∃ D, blockP data 400 = D := ⟨_, rfl⟩
  have hDl := blockP_len data 400 (by decide)
  rw [hDe] at hT2 hDl
  have hlg : Hid (D.length = lg) := hT2.out.now.1
  have hlg0 : 0 < lg := by have := hlg.out; omega
  have hlg1 : lg ≤ 400 := by have := hlg.out; omega
  have TA := hT1.out.put1 hT2.out
  have TB := Lib.hid (TA.putBox (stepV 1 (v : Int) (o : Int) 0 ag lg cg) 29)
  obtain ⟨g, hg⟩ : ∃ g, Hid (w2.heap.size = g) := ⟨_, rfl⟩
  obtain ⟨w3, hw3⟩ : ∃ w3, w3 = w2.alloc (.cells (stepV 1 (v : Int) (o : Int) 0 ag lg cg) 29) := ⟨_, rfl⟩
  rw [← hw3, hg.out] at TB
  have hvl : v < l1 + 1 := by omega
  have hol : o < 3000 := by omega
  obtain ⟨hok2, hmax, hget⟩ := reads_law ss HOK.out HMK.out v o D (by have := hl1.out; omega) hDl.1 (by omega)
  have hcnt := fin_count ss HMK.out
  have HB := Lib.hid (bytesOfW a1 l1 c1 ss v w3 (thRow_srow (TB.out.now.all 2 _ rfl)) HOK.out (by have := hl1.out; omega) (by omega))
  have HOK2 := Lib.hid hok2
  have HMAX := Lib.hid hmax
  have HGET := Lib.hid hget
  have HCNT2 : Hid (ss.length + 1 < (fo0.fin (ss ++ [(⟨1, v, o, 0, D⟩ : St)])).vers.length) := by
    show _ < _
    have := fin_count (ss ++ [(⟨1, v, o, 0, D⟩ : St)]) (fun s hs => by
      rcases List.mem_append.1 hs with hs | hs
      · exact HMK.out s hs
      · obtain rfl := List.mem_singleton.1 hs; exact .inl rfl)
    rw [this, List.length_append]; simp
  unfold stepV at hw3
  have hg1 : w2.heap.size = g := hg.out
  clear TA hvI hoI hv0 hv1 ho0 ho1 hok2 hmax hget hcnt hDe hDl HD hT1 hT2 HS
  go_wp2_with fail
  rw [← hw3]
  refine HB.out.mono ?_
  rintro e w5 ⟨a5, l5, c5, rfl, hr5, hb5⟩
  have T5 := Lib.hid (TB.out.stays hb5)
  have BX := Lib.hid (show Box w5 g #[.int .i64 1, .int .i64 (v : Int), .int .i64 (o : Int), .int .i64 0, .slice ag lg cg] 29 from T5.out.now.all 0 _ rfl)
  have OD := Lib.hid (show (thOwn (Lay.int .u8) w1.heap.size 5 ag lg cg D).holds w5 from T5.out.now.all 1 _ rfl)
  have OS := Lib.hid (show SRow stL w5 (fun b => b < w5.heap.size) a1 l1 c1 ss from thRow_srow (T5.out.now.all 2 _ rfl))
  have HBw5 : Hid (Below w.heap.size w w5) := T5.out.nilBelowT
  obtain ⟨N, hN⟩ : ∃ N, Hid (w5.heap.size = N) := ⟨_, rfl⟩
  have OS2 := OS.out
  rw [hN.out] at OS2
  obtain ⟨uss, hV0, hP0, hL0⟩ := OS2.whole
  have HL0 := Lib.hid hL0
  have HV0 : Hid (VRow w5.drew stL.size a1 l1 c1 uss.flatten) := hV0.below (below_drewN (Below.refl _ _) 1)
  have HP0 : Hid (Pt stL w5.drew (fun b => b < N) ss uss) := hP0.keep (fun _ h => h) (fun _ _ _ => rfl)
  have HDS : Hid (SRow (Lay.int .u8) w5 (fun b => b < N) ag lg cg D) := by rw [← hN.out]; exact SOwn.srowLt OD.out
  have hlit : Hid (Below w5.heap.size w5 (w5.alloc (.cells #[.int .i64 1, .int .i64 (v : Int), .int .i64 (o : Int), .int .i64 0, .slice ag lg cg] 29)).drew) := (Below_alloc1 _).drew
  have HV1 : Hid (VRow (w5.alloc (.cells #[.int .i64 1, .int .i64 (v : Int), .int .i64 (o : Int), .int .i64 0, .slice ag lg cg] 29)).drew stL.size a1 l1 c1 uss.flatten) := hV0.below hlit.out
  have HP1 : Hid (Pt stL (w5.alloc (.cells #[.int .i64 1, .int .i64 (v : Int), .int .i64 (o : Int), .int .i64 0, .slice ag lg cg] 29)).drew (fun b => b < N) ss uss) := hP0.keep (fun _ h => h) (fun b _ hlt => hlit.out.block b hlt)
  have S0 : Hid (SOwn stL w5.drew N 29 (fun b => b < N) none 0 0 []) := SOwn.nil ..
  have S1 : Hid (SOwn stL (w5.alloc (.cells #[.int .i64 1, .int .i64 (v : Int), .int .i64 (o : Int), .int .i64 0, .slice ag lg cg] 29)).drew N 29 (fun b => b < N) none 0 0 []) := SOwn.nil ..
  have HF0 : Hid (∀ b, b < N → b < N ∧ b < w5.drew.heap.size ∧ (Value.slice none 0 0).ownBlock ≠ some b) := SOwn.apartLt S0.out (by show N ≤ w5.heap.size; have := hN.out; omega)
  have hNA : N ≤ (w5.alloc (.cells #[.int .i64 1, .int .i64 (v : Int), .int .i64 (o : Int), .int .i64 0, .slice ag lg cg] 29)).drew.heap.size := by show N ≤ (w5.alloc _).heap.size; have := hN.out; simp; omega
  have HF1 : Hid (∀ b, b < N → b < N ∧ b < (w5.alloc (.cells #[.int .i64 1, .int .i64 (v : Int), .int .i64 (o : Int), .int .i64 0, .slice ag lg cg] 29)).drew.heap.size ∧ (Value.slice none 0 0).ownBlock ≠ some b) := SOwn.apartLt S1.out hNA
  have hN5 : N ≤ w5.drew.heap.size := by show N ≤ w5.heap.size; have := hN.out; omega
  have HVL : Hid (VRow (w5.alloc (.cells #[.int .i64 1, .int .i64 (v : Int), .int .i64 (o : Int), .int .i64 0, .slice ag lg cg] 29)).drew stL.size (some ⟨w5.heap.size, 0, none⟩) 1 1 ([(#[.int .i64 1, .int .i64 (v : Int), .int .i64 (o : Int), .int .i64 0, .slice ag lg cg] : Array Value).toList] : List (List Value)).flatten) := VRow.below (VRow.single (L := stL) (wr_at HDS.out) 29 #[.int .i64 1, .int .i64 (v : Int), .int .i64 (o : Int), .int .i64 0, .slice ag lg cg] rfl rfl) (below_drewN (Below.refl _ _) 1)
  have x0 : w5.cell? ⟨g, 0, none⟩ = some (.int .i64 1) := BX.out.cell 0
  have x1 : w5.cell? ⟨g, 1, none⟩ = some (.int .i64 (v : Int)) := BX.out.cell 1
  have x2 : w5.cell? ⟨g, 2, none⟩ = some (.int .i64 (o : Int)) := BX.out.cell 2
  have x3 : w5.cell? ⟨g, 3, none⟩ = some (.int .i64 0) := BX.out.cell 3
  have x4 : w5.cell? ⟨g, 4, none⟩ = some (.slice ag lg cg) := BX.out.cell 4
  have hgl : g < w5.heap.size := BX.out.lt
  clear hV0 hP0 hL0 OS2 hw3 hg1 HB
  go_upto_region 5 with fail
  go_cut [14, 15] from 37 to 48 (fun v14 v15 wx => ∃ (a7 : Option Addr) (l7 c7 : Nat), v14 = .slice a7 l7 c7 ∧ v15 = .bool true ∧ Hid (SRow (Lay.int .u8) wx (fun _ => True) a7 l7 c7 (bytesV (verAt (ss ++ [(⟨1, v, o, 0, D⟩ : St)]) (ss.length + 1)))) ∧ Hid (Below w5.heap.size w5 wx))
  case first =>
    go_region_law (first
      | (refine step_append_data (L := stL) (w := w5.drew) rfl (.const (.slice none 0 0)) (.tmp 38) 24 rfl N 29 _ 56 Try.underlying24 info_step rfl (fun b => b < N) none 0 0 [] rfl S0.out a1 l1 c1 ss uss rfl HV0.out (fun b => b < N) HP0.out HL0.out HF0.out (by unfold maxLen; omega) (by omega) hN5 ?_; intro a6 c6 w6 hown6 hg6; rw [Nat.zero_add] at hown6; have HO6 := Lib.hid (show SOwn stL w6 N 29 (fun b => b < N) a6 l1 c6 ss from hown6); have HB6 : Hid (Below w5.heap.size w5 w6) := ((Below.refl _ _).drew).grown hg6 (Nat.le_refl _) (fun k hk => by cases hk); have hN6 : N ≤ w6.heap.size := (by have := HB6.out.size; have := hN.out; omega); have HF6 := Lib.hid (SOwn.apartLt HO6.out hN6); have HD6 : Hid (SRow (Lay.int .u8) w6 (fun b => b < N) ag lg cg D) := HDS.out.below HB6.out; have y0 : w6.cell? ⟨g, 0, none⟩ = some (.int .i64 1) := (HB6.out.cell hgl).trans x0; have y1 : w6.cell? ⟨g, 1, none⟩ = some (.int .i64 (v : Int)) := (HB6.out.cell hgl).trans x1; have y2 : w6.cell? ⟨g, 2, none⟩ = some (.int .i64 (o : Int)) := (HB6.out.cell hgl).trans x2; have y3 : w6.cell? ⟨g, 3, none⟩ = some (.int .i64 0) := (HB6.out.cell hgl).trans x3; have y4 : w6.cell? ⟨g, 4, none⟩ = some (.slice ag lg cg) := (HB6.out.cell hgl).trans x4; clear hown6 hg6)
      | (refine step_append_one (L := stL) (wr := w6) rfl (.tmp 39) (.tmp 41) 24 rfl N 29 _ 56 Try.underlying24 info_step rfl (fun b => b < N) a6 l1 c6 ss rfl HO6.out #[.int .i64 1, .int .i64 (v : Int), .int .i64 (o : Int), .int .i64 0, .slice ag lg cg] (wrS v o D) rfl (fun b => b < N) (wr_at HD6.out) HF6.out (by unfold maxLen; omega) (by omega) hN6 ?_; intro a7 c7 w7 hown7 hg7; have HO7 := Lib.hid hown7; have HB7 : Hid (Below w5.heap.size w5 w7) := Own.grown HO6.out.2.choose_spec.choose_spec.1 HB6.out (by have := hN.out; omega) HB6.out.size hg7; have HC := Lib.hid (bytesOfW a7 (l1 + 1) c7 (ss ++ [wrS v o D]) (ss.length + 1) w7 (SOwn.srowLt HO7.out) HOK2.out HCNT2.out (by omega)); rw [hl1.out] at HC; have HCL := HC; push_cast at HCL; clear hown7 hg7)
      | (refine step_append_data (L := stL) (w := (w5.alloc (.cells #[.int .i64 1, .int .i64 (v : Int), .int .i64 (o : Int), .int .i64 0, .slice ag lg cg] 29)).drew) rfl (.const (.slice none 0 0)) (.tmp 38) 24 rfl N 29 _ 56 Try.underlying24 info_step rfl (fun b => b < N) none 0 0 [] rfl S1.out a1 l1 c1 ss uss rfl HV1.out (fun b => b < N) HP1.out HL0.out HF1.out (by unfold maxLen; omega) (by omega) hNA ?_; intro a6 c6 w6 hown6 hg6; rw [Nat.zero_add] at hown6; have HO6 := Lib.hid (show SOwn stL w6 N 29 (fun b => b < N) a6 l1 c6 ss from hown6); have HBx6 : Hid (Below (w5.alloc (.cells #[.int .i64 1, .int .i64 (v : Int), .int .i64 (o : Int), .int .i64 0, .slice ag lg cg] 29)).drew.heap.size (w5.alloc (.cells #[.int .i64 1, .int .i64 (v : Int), .int .i64 (o : Int), .int .i64 0, .slice ag lg cg] 29)).drew w6) := (Below.refl _ _).grown hg6 (Nat.le_refl _) (fun k hk => by cases hk); have HB6 : Hid (Below w5.heap.size w5 w6) := hlit.out.trans (HBx6.out.mono hlit.out.size); have hN6 : N ≤ w6.heap.size := (by have := HB6.out.size; have := hN.out; omega); have HF6 := Lib.hid (SOwn.apartLt HO6.out hN6); have HD6 : Hid (SRow (Lay.int .u8) w6 (fun b => b < N) ag lg cg D) := HDS.out.below HB6.out; have HVL6 := Lib.hid (HVL.out.below HBx6.out); have HPL6 : Hid (Pt stL w6 (fun b => b < N) [wrS v o D] [(#[.int .i64 1, .int .i64 (v : Int), .int .i64 (o : Int), .int .i64 0, .slice ag lg cg] : Array Value).toList]) := Pt.single (wr_at HD6.out); clear hown6 hg6)
      | (refine step_append_data (L := stL) (w := w6) rfl (.tmp 39) (.tmp 41) 24 rfl N 29 _ 56 Try.underlying24 info_step rfl (fun b => b < N) a6 l1 c6 ss rfl HO6.out (some ⟨w5.heap.size, 0, none⟩) 1 1 [wrS v o D] [(#[.int .i64 1, .int .i64 (v : Int), .int .i64 (o : Int), .int .i64 0, .slice ag lg cg] : Array Value).toList] rfl HVL6.out (fun b => b < N) HPL6.out rfl HF6.out (by unfold maxLen; omega) (by omega) hN6 ?_; intro a7 c7 w7 hown7 hg7; have HO7 := Lib.hid hown7; have HB7 : Hid (Below w5.heap.size w5 w7) := Own.grown HO6.out.2.choose_spec.choose_spec.1 HB6.out (by have := hN.out; omega) HB6.out.size hg7; have HC := Lib.hid (bytesOfW a7 (l1 + 1) c7 (ss ++ [wrS v o D]) (ss.length + 1) w7 (SOwn.srowLt HO7.out) HOK2.out HCNT2.out (by omega)); rw [hl1.out] at HC; have HCL := HC; push_cast at HCL; clear hown7 hg7)
      | (go_simp; go_at_call 13; refine HCL.out.mono ?_; rintro e w8 ⟨a8, l8, c8, rfl, hr8, hb8⟩))
    all_goals
      have HB8 := Lib.hid (HB7.out.trans (hb8.mono HB7.out.size))
      clear hb8 HC
      go_wp2_with fail
      go_meet
      exact ⟨a8, l8, c8, rfl, rfl, by show SRow _ _ _ _ _ _ _; rw [hl1.out]; exact hr8.out, HB8.out⟩
  case rest =>
    obtain ⟨a7, l7, c7, rfl, rfl, hr7, hb7⟩ := hcut
    have RA := Lib.hid ((hr5.out.below hb7.out).toRow)
    have RB := Lib.hid hr7.out.toRow
    have RD := Lib.hid ((SOwn.ints OD.out).below hb7.out)
    have BXc := Lib.hid (Box.below BX.out hb7.out hgl)
    have HBE := Lib.hid (HBw5.out.trans (hb7.out.mono HBw5.out.size))
    have y2 : wc.cell? ⟨g, 2, none⟩ = some (.int .i64 (o : Int)) := BXc.out.cell 2
    have y4 : wc.cell? ⟨g, 4, none⟩ = some (.slice ag lg cg) := BXc.out.cell 4
    have hglc : g < wc.heap.size := BXc.out.lt
    obtain ⟨A, hA⟩ : ∃ A, bytesV (verAt ss v) = A := ⟨_, rfl⟩
    obtain ⟨V2, hV2⟩ : ∃ V2, verAt (ss ++ [(⟨1, v, o, 0, D⟩ : St)]) (ss.length + 1) = V2 := ⟨_, rfl⟩
    have hA1 : A.length = (verAt ss v).size := by rw [← hA, bytesV_length]
    have hB1 : (bytesV V2).length = V2.size := bytesV_length V2
    have hmx := HMAX.out
    have hgt := HGET.out
    rw [hV2] at hmx hgt RB
    rw [hA, ← hA1] at hgt
    rw [← hA1] at hmx
    rw [hA] at RA
    obtain ⟨Bs, hBs⟩ : ∃ Bs, bytesV V2 = Bs := ⟨_, rfl⟩
    rw [hBs] at hB1 hgt RB
    rw [← hB1] at hmx hgt
    have hl5 : A.length = l5 := RA.out.hlen
    have hl7 : Bs.length = l7 := RB.out.hlen
    rw [hl5, hlg.out, hl7] at hmx
    rw [hl5, hlg.out, hl7] at hgt
    have HGT := Lib.hid hgt
    have HMX := Lib.hid hmx
    have hsm := Lib.hid (show l5 ≤ 4096 from by rw [← hl5, hA1]; exact (verAt_good ss HOK.out v).small)
    have hl5b := hsm.out
    have hl7b : l7 ≤ 10000 := by omega
    have w2o : IntKind.i64.wrap ((o : Int) + (lg : Int)) = (o : Int) + (lg : Int) := IntWalk.i64_in _ (by omega)
    clear hA1 hB1 hA hBs hV2 hgt hmx hl5 hl7 x0 x1 x2 x3 x4 hr5 hr7 hb5 HGET HMAX hN5 hNA
    refine ‹∀ (a : Act) (w : World), Code.wp _ _ _ a w → _› _ _ ?_
    refine wp_seq_k ?_
    intro KK hKK
    go_cut [14] from 49 to 68 (fun v14 wx => v14 = .slice a7 l7 c7 ∧ wx = wc)
    case first =>
      by_cases hmx : l5 < o + lg
      · have q1 : (l5 : Int) < (o : Int) + (lg : Int) := by omega
        have q2 : ¬ ((o : Int) + (lg : Int) ≤ (l5 : Int)) := by omega
        have q3 : (l7 : Int) = (o : Int) + (lg : Int) := by have := HMX.out; omega
        have q4 : ((l7 : Int) == (o : Int) + (lg : Int)) = true := by simp; omega
        have Q3 := Lib.hid q3
        clear q3
        go_wp2_with fail
        go_meet
        exact ⟨rfl, rfl⟩
      · have q1 : ¬ ((l5 : Int) < (o : Int) + (lg : Int)) := by omega
        have q2 : (o : Int) + (lg : Int) ≤ (l5 : Int) := by omega
        obtain rfl : l7 = l5 := by have := HMX.out; omega
        go_wp2_with fail
        go_meet
        exact ⟨rfl, rfl⟩
    case rest =>
      obtain ⟨rfl, rfl⟩ := hcut
      refine hKK _ _ ?_
      have hAat : 0 < l5 → ∃ b off, a5 = some ⟨b, off, none⟩ ∧ ∀ i, i < l5 → wc.cell? ⟨b, off + i, none⟩ = some (.int .u8 (A.getD i 0)) := fun h => by
        rcases RA.out.hat with h0 | ⟨b, off, e, hc⟩
        · omega
        · exact ⟨b, off, e, hc⟩
      have hDat : ∃ b off, ag = some ⟨b, off, none⟩ ∧ ∀ i, i < lg → wc.cell? ⟨b, off + i, none⟩ = some (.int .u8 (D.getD i 0)) := by
        rcases RD.out.hat with h0 | ⟨b, off, e, hc⟩
        · omega
        · exact ⟨b, off, e, hc⟩
      obtain ⟨bB, oB, rfl, hBat⟩ : ∃ b off, a7 = some ⟨b, off, none⟩ ∧ ∀ i, i < l7 → wc.cell? ⟨b, off + i, none⟩ = some (.int .u8 (Bs.getD i 0)) := by
        rcases RB.out.hat with h0 | ⟨b, off, e, hc⟩
        · exfalso; have := HMX.out; omega
        · exact ⟨b, off, e, hc⟩
      have HBat := Lib.hid hBat
      have HAat := Lib.hid hAat
      have HDat := Lib.hid hDat
      clear hBat hAat hDat
      go_wp2_with fail
      go_loop [16] (fun iv => ∃ i : Nat, i ≤ l7 ∧ iv = .int .i64 i) (fun iv => l7 - (intOf iv).toNat)
      case atStart => exact ⟨0, by omega, rfl⟩
      case round =>
        obtain ⟨i, hi, rfl⟩ := hrel
        by_cases hlt : i < l7
        · have ii : (i : Int) < (l7 : Int) := by omega
          have cB := HBat.out i hlt
          by_cases hw : o ≤ i ∧ i < o + lg
          · by_cases h5 : i < l5
            · have e1 := HGT.out i hlt
              rw [if_pos hw] at e1
              rw [e1] at cB
              obtain ⟨bA, oA, rfl, cAf⟩ := HAat.out (by omega)
              have cA := cAf i h5
              obtain ⟨va, hva⟩ : ∃ va, A.getD i 0 = va := ⟨_, rfl⟩
              rw [hva] at cA
              have h5i : (i : Int) < (l5 : Int) := by omega
              obtain ⟨kk, hkk⟩ : ∃ kk, i - o = kk := ⟨_, rfl⟩
              rw [hkk] at cB
              obtain ⟨bD, oD, rfl, cDf⟩ := HDat.out
              have cD := cDf kk (by omega)
              have wk : IntKind.i64.wrap ((i : Int) - (o : Int)) = (kk : Int) := by rw [IntWalk.i64_in _ (by omega)]; omega
              have hk0 : (0 : Int) ≤ (kk : Int) := by omega
              have hkl : (kk : Int) < (lg : Int) := by omega
              have ho1 : (o : Int) ≤ (i : Int) := by omega
              have ho2 : (i : Int) < (o : Int) + (lg : Int) := by omega
              obtain ⟨vd, hvd⟩ : ∃ vd, D.getD kk 0 = vd := ⟨_, rfl⟩
              rw [hvd] at cB cD
              clear hw h5 e1 cAf hva hkk cDf hvd
              go_wp2_with fail
              go_round
              case rel => exact ⟨i + 1, by omega, by go_num⟩
              case measure => (simp [intOf]; try omega)
            · have e1 := HGT.out i hlt
              rw [if_pos hw] at e1
              rw [e1] at cB
              have h5i : ¬ ((i : Int) < (l5 : Int)) := by omega
              obtain ⟨kk, hkk⟩ : ∃ kk, i - o = kk := ⟨_, rfl⟩
              rw [hkk] at cB
              obtain ⟨bD, oD, rfl, cDf⟩ := HDat.out
              have cD := cDf kk (by omega)
              have wk : IntKind.i64.wrap ((i : Int) - (o : Int)) = (kk : Int) := by rw [IntWalk.i64_in _ (by omega)]; omega
              have hk0 : (0 : Int) ≤ (kk : Int) := by omega
              have hkl : (kk : Int) < (lg : Int) := by omega
              have ho1 : (o : Int) ≤ (i : Int) := by omega
              have ho2 : (i : Int) < (o : Int) + (lg : Int) := by omega
              obtain ⟨vd, hvd⟩ : ∃ vd, D.getD kk 0 = vd := ⟨_, rfl⟩
              rw [hvd] at cB cD
              clear hw h5 e1 hkk cDf hvd
              go_wp2_with fail
              go_round
              case rel => exact ⟨i + 1, by omega, by go_num⟩
              case measure => (simp [intOf]; try omega)
          · by_cases h5 : i < l5
            · by_cases hlo : o ≤ i
              · have e1 := HGT.out i hlt
                rw [if_neg hw] at e1
                rw [if_pos h5] at e1
                rw [e1] at cB
                obtain ⟨bA, oA, rfl, cAf⟩ := HAat.out (by omega)
                have cA := cAf i h5
                obtain ⟨va, hva⟩ : ∃ va, A.getD i 0 = va := ⟨_, rfl⟩
                rw [hva] at cA
                have h5i : (i : Int) < (l5 : Int) := by omega
                rw [hva] at cB
                have ho1 : (o : Int) ≤ (i : Int) := by omega
                have ho2 : ¬ ((i : Int) < (o : Int) + (lg : Int)) := by omega
                clear hw h5 e1 cAf hva
                go_wp2_with fail
                go_round
                case rel => exact ⟨i + 1, by omega, by go_num⟩
                case measure => (simp [intOf]; try omega)
              · have e1 := HGT.out i hlt
                rw [if_neg hw] at e1
                rw [if_pos h5] at e1
                rw [e1] at cB
                obtain ⟨bA, oA, rfl, cAf⟩ := HAat.out (by omega)
                have cA := cAf i h5
                obtain ⟨va, hva⟩ : ∃ va, A.getD i 0 = va := ⟨_, rfl⟩
                rw [hva] at cA
                have h5i : (i : Int) < (l5 : Int) := by omega
                rw [hva] at cB
                have ho1 : ¬ ((o : Int) ≤ (i : Int)) := by omega
                clear hw h5 e1 cAf hva
                go_wp2_with fail
                go_round
                case rel => exact ⟨i + 1, by omega, by go_num⟩
                case measure => (simp [intOf]; try omega)
            · by_cases hlo : o ≤ i
              · have e1 := HGT.out i hlt
                rw [if_neg hw] at e1
                rw [if_neg h5] at e1
                rw [e1] at cB
                have h5i : ¬ ((i : Int) < (l5 : Int)) := by omega
                have ho1 : (o : Int) ≤ (i : Int) := by omega
                have ho2 : ¬ ((i : Int) < (o : Int) + (lg : Int)) := by omega
                clear hw h5 e1
                go_wp2_with fail
                go_round
                case rel => exact ⟨i + 1, by omega, by go_num⟩
                case measure => (simp [intOf]; try omega)
              · have e1 := HGT.out i hlt
                rw [if_neg hw] at e1
                rw [if_neg h5] at e1
                rw [e1] at cB
                have h5i : ¬ ((i : Int) < (l5 : Int)) := by omega
                have ho1 : ¬ ((o : Int) ≤ (i : Int)) := by omega
                clear hw h5 e1
                go_wp2_with fail
                go_round
                case rel => exact ⟨i + 1, by omega, by go_num⟩
                case measure => (simp [intOf]; try omega)
        · obtain rfl : i = l7 := by omega
          go_wp2_with fail
          go_ret
          exact ⟨rfl, HBE.out⟩
end Go.Proofs.Ythjjfmnipemakaa
