/- The walk of TreeStays. -/
import Derived.Test.YthjjfmnipemakaaTuH
namespace Go.Proofs.Ythjjfmnipemakaa
open Go.RowKit
set_option linter.unusedVariables false
set_option maxRecDepth 100000

structure Whole (v : Ver) (r : Rt) : Prop where
  size : 0 < v.size
  big : v.size ≤ room r.1
  low : ∀ i, i < v.size → (wholeP (some r)).getD i 0 = (bytesV v).getD i 0
  high : ∀ i, v.size ≤ i → i < room r.1 → (wholeP (some r)).getD i 0 = 0
  level : r.1 = levelOf v.size
  least : 0 < r.1 → room (r.1 - 1) < v.size
theorem wholeP_get (r : Rt) (i : Nat) (h : i < room r.1) : (wholeP (some r)).getD i 0 = Rt.get (some r) i := by
  show ((List.range (room r.1)).map fun p => T.get r.1 (some r.2) p).getD i 0 = if i < room r.1 then T.get r.1 (some r.2) i else 0
  rw [if_pos h, List.getD_eq_getElem?_getD, List.getElem?_map, List.getElem?_range h]; rfl
theorem whole_law (v : Ver) (hg : v.Good) (r : Rt) (hr : v.root = some r) : Whole v r := by
  have hl := hg.level r hr
  have hs : 0 < v.size := Nat.pos_of_ne_zero fun e => by rw [hg.nil.2 e] at hr; cases hr
  have hrm : v.size ≤ room r.1 := by rw [hl]; exact levelOf_room hg.small
  refine ⟨hs, hrm, fun i hi => ?_, fun i hi hi2 => ?_, hl, fun h0 => ?_⟩
  · rw [wholeP_get r i (by omega), bytesV_get v i hi, hr]
  · rw [wholeP_get r i hi2, ← hr]; exact hg.zero i hi
  · rw [hl] at h0 ⊢; exact levelOf_least h0
theorem stepsFrom_ok2 : ∀ (es : List Ed) (i : Nat) (f : Fo), i + 1 ≤ f.vers.length → f.Okays (stepsFrom i es)
  | [], _, _, _ => trivial
  | e :: es, i, f, h => by
    have h1 := stOf_ok i e
    refine ⟨⟨h1.kind, Nat.lt_of_lt_of_le h1.version h, h1.write, h1.resize⟩, stepsFrom_ok2 es (i + 1) _ ?_⟩
    obtain ⟨v, hv⟩ := step_makes f (stOf i e) (stepsFrom_makes [e] i _ (List.mem_cons_self ..))
    rw [hv, List.length_append]
    show i + 1 + 1 ≤ f.vers.length + 1
    omega
theorem verAt_more (ss mm : List St) (hm : Makes mm) (v : Nat) (hv : v < (fo0.fin ss).vers.length) : verAt (ss ++ mm) v = verAt ss v := by
  unfold verAt
  rw [Fo.fin_append]
  obtain ⟨l, hl, _⟩ := fin_makes mm (fo0.fin ss) hm
  rw [hl, List.getD_eq_getElem?_getD, List.getD_eq_getElem?_getD, List.getElem?_append_left hv]
theorem SOwn.srowLt {α : Type} {L : Lay α} {B : Nat} {e : TypeId} {G : Nat → Prop} {a : Option Addr} {len cap : Nat} {xs : List α} {w : World} (h : SOwn L w B e G a len cap xs) : SRow L w (fun b => b < w.heap.size) a len cap xs := by
  obtain ⟨hl, vss, F, ho, hp, hF⟩ := h
  exact ⟨hl, fun x hx _ => (World.ownsRow.lt ho x.block (by rw [hx]; rfl)).2, vss, ho.row, hp.keep (fun b hb => (hF b hb).2.1) (fun _ _ _ => rfl)⟩
theorem rowNew {α : Type} {L : Lay α} {B : Nat} {e : TypeId} {G : Nat → Prop} {a : Option Addr} {len cap : Nat} {xs : List α} {w w' : World} (h : Turns (thAll []) (thRow L B e G a len cap xs) w w') : SRow L w' (fun b => w.heap.size ≤ b ∧ b < w'.heap.size) a len cap xs := by
  have own : ∀ b, (thRow L B e G a len cap xs).foot b → w.heap.size ≤ b := fun b hb => by
    rcases h.own b hb with ⟨s, hs, _⟩ | h1
    · cases hs
    · exact h1
  obtain ⟨⟨hl, vss, F, ho, hp, hF⟩, hG⟩ := h.now
  exact ⟨hl, fun x hx _ => ⟨own x.block (.inr (by show (Value.slice a len cap).ownBlock = _; rw [hx]; rfl)), (World.ownsRow.lt ho x.block (by rw [hx]; rfl)).2⟩, vss, ho.row, hp.keep (fun b hb => ⟨own b (.inl (hF b hb).1), (hF b hb).2.1⟩) (fun _ _ _ => rfl)⟩
theorem whole_wf (v : Ver) (hg : v.Good) {w : World} {a : Option Addr} {l c : Nat} (hr : Row .u8 w a l c (bytesV v)) : ∀ x ∈ wholeP v.root, (Lit.int .u8 x).wf = true := by
  intro x hx
  cases hrt : v.root with
  | none => rw [hrt] at hx; cases hx
  | some r =>
    rw [hrt] at hx
    have hw := whole_law v hg r hrt
    obtain ⟨i, hi, rfl⟩ := List.mem_iff_getElem.1 hx
    have hi2 : i < room r.1 := by have : (wholeP (some r)).length = room r.1 := by simp [wholeP]
                                  omega
    have e : (wholeP (some r))[i] = (wholeP (some r)).getD i 0 := by simp [List.getD, hi]
    rw [e]
    by_cases h : i < v.size
    · rw [hw.low i h]
      have hb : i < (bytesV v).length := by rw [bytesV_length]; exact h
      have e2 : (bytesV v).getD i 0 = (bytesV v)[i] := by simp [List.getD, hb]
      rw [e2]; exact hr.hwf _ (List.getElem_mem hb)
    · rw [hw.high i (by omega) hi2]; rfl
theorem whole_row {w : World} {a : Option Addr} {c : Nat} {xs : List Int} (hc : c = xs.length) (hn : a = none → c = 0) (hm : xs.length ≤ 5000) (hx : ∀ i, i < xs.length → ∃ g, a = some ⟨g, 0, none⟩ ∧ w.cell? ⟨g, i, none⟩ = some (.int .u8 (xs.getD i 0)) ∧ g < w.heap.size) (hw : ∀ x ∈ xs, (Lit.int .u8 x).wf = true) : Row .u8 w a xs.length c xs := by
  refine ⟨rfl, by omega, by unfold maxLen; omega, hn, hw, ?_⟩
  by_cases h0 : xs.length = 0
  · exact .inl h0
  · right
    obtain ⟨g, hg, _⟩ := hx 0 (by omega)
    refine ⟨g, 0, hg, fun i hi => ?_⟩
    obtain ⟨g', hg', hc', _⟩ := hx i hi
    obtain rfl : g = g' := by rw [hg] at hg'; simpa using hg'
    rw [Nat.zero_add]; exact hc'
theorem wholeP_len (root : Option Rt) (h : ∀ r, root = some r → r.1 ≤ 3) : (wholeP root).length ≤ 5000 := by
  cases root with
  | none => exact Nat.zero_le _
  | some r =>
    have : (wholeP (some r)).length = room r.1 := by simp [wholeP]
    have h2 : room r.1 ≤ room 3 := room_mono (h r rfl)
    have h3 : room 3 = 4096 := by decide
    omega
theorem sameSelf {a : Option Addr} {la ca : Nat} {xs : List Int} {b : Option Addr} {lb cb : Nat} {w : World} (ha : Row .u8 w a la ca xs) (hb : Row .u8 w b lb cb xs) : Calls Try.prog 18 #[.slice a la ca, .slice b lb cb] w fun e w' => e = .returned (.bool true) ∧ ∃ k, w' = w.drewN k := by
  refine (sameBytes a la ca xs b lb cb xs w ha hb).mono ?_
  rintro e w' ⟨rfl, h⟩
  exact ⟨by rw [decide_eq_true rfl], h⟩
set_option maxHeartbeats 8000000 in
theorem treeStays (F : Nat → Prop) (a : Option Addr) (len cap : Nat) (es : List Ed) (F2 : Nat → Prop) (b : Option Addr) (lb cb : Nat) (es2 : List Ed) (which : Int) (w : World) (ha : SRow edL w F a len cap es) (hb : SRow edL w F2 b lb cb es2) :
    Calls Try.prog 6 #[.slice a len cap, .slice b lb cb, .int .i64 which] w fun e w' => e = .returned (.bool true) ∧ Below w.heap.size w w' := by
  have hS := Lib.hid (stepsW F a len cap es 20 w ha (by decide))
  have HB0 := Lib.hid hb
  obtain ⟨hok, hmk⟩ := stepsP_ok es 20
  have hsl : (stepsP es 20).length ≤ 20 := by rw [stepsP_length]; omega
  obtain ⟨ss, hss⟩ : ∃ ss, stepsP es 20 = ss := ⟨_, rfl⟩
  obtain ⟨mm, hmm⟩ : ∃ mm, stepsP es2 20 = mm := ⟨_, rfl⟩
  have hsm : mm.length ≤ 20 := by rw [← hmm, stepsP_length]; omega
  have hmk2 : Makes mm := by rw [← hmm]; exact (stepsP_ok es2 20).2
  have hokm : ∀ f : Fo, 1 ≤ f.vers.length → f.Okays mm := fun f hf => by rw [← hmm]; exact stepsFrom_ok2 _ 0 f (by omega)
  rw [hss] at hok hmk hsl
  have HS1 := hS.out
  rw [hss] at HS1
  have HS := Lib.hid HS1
  have HOK := Lib.hid hok
  have HMK := Lib.hid hmk
  have HMM := Lib.hid hmm
  have hcnt := fin_count ss hmk
  have HOK2 : Hid (fo0.Okays (ss ++ mm)) := (Fo.okays_append _ _ _).2 ⟨hok, hokm _ (by omega)⟩
  have HMK2 := Lib.hid hmk2
  clear ha hb hS HS1 hss hok hmk hmm hokm
  go_enter Try.func6, Try.ntmps6
  go_wp2_with fail
  refine HS.out.mono ?_
  rintro e w1 ⟨a1, l1, c1, G1, rfl, hT1⟩
  have hl1 : Hid (ss.length = l1) := hT1.out.now.1.1
  have hl1b : l1 ≤ 20 := by have := hl1.out; omega
  have HB1 : Hid (Below w.heap.size w w1) := hT1.out.nilBelowT
  have w1l : IntKind.i64.wrap ((l1 : Int) + 1) = (l1 : Int) + 1 := IntWalk.i64_in _ (by omega)
  go_wp2_with fail
  refine (picked which ((l1 : Int) + 1) w1 (by omega) (by omega)).mono ?_
  rintro e w' ⟨vI, hvI, hv0, hv1, rfl, rfl⟩
  obtain ⟨v, rfl⟩ := Int.eq_ofNat_of_zero_le hv0
  have hvl : v < l1 + 1 := by omega
  have hvv : v < (fo0.fin ss).vers.length := by have := hl1.out; omega
  have hmore := verAt_more ss mm HMK2.out v hvv
  have OS := Lib.hid (thRow_srow hT1.out.now)
  obtain ⟨uss, hV0, hP0, hL0⟩ := OS.out.whole
  have HV0 := Lib.hid hV0
  have HP0 := Lib.hid hP0
  have HL0 := Lib.hid hL0
  obtain ⟨N, hN⟩ : ∃ N, Hid (w1.heap.size = N) := ⟨_, rfl⟩
  have S0 : Hid (SOwn stL w1 N 29 (fun _ => True) none 0 0 []) := SOwn.nil ..
  have hF2 : Hid (∀ b, b < w1.heap.size → True ∧ b < w1.heap.size ∧ (Value.slice none 0 0).ownBlock ≠ some b) := fun b hb => ⟨trivial, hb, fun e => by cases (show (none : Option Nat) = some b from e)⟩
  have hNw : N ≤ w1.heap.size := by have := hN.out; omega
  clear hvI hv0 hv1 hV0 hP0 hL0
  go_wp2_with (at_builtin; refine wpList_append_data (L := stL) rfl (.const (.slice none 0 0)) (.tmp 29) 24 rfl N 29 _ 56 Try.underlying24 info_step rfl (fun _ => True) none 0 0 [] rfl S0.out a1 l1 c1 ss uss rfl HV0.out (fun b => b < w1.heap.size) HP0.out HL0.out hF2.out (by unfold maxLen; omega) (by omega) hNw ?_; intro a2 c2 w2 hown2 hg2; rw [Nat.zero_add] at hown2; have HO2 := Lib.hid (show SOwn stL w2 N 29 (fun _ => True) a2 l1 c2 ss from hown2); have HB2 : Hid (Below w1.heap.size w1 w2) := (Below.refl _ _).grown hg2 (Nat.le_refl _) (fun k hk => by cases hk); clear hown2 hg2)
  have HBw2 := Lib.hid (HB1.out.trans (HB2.out.mono HB1.out.size))
  have hS2 := stepsW F2 b lb cb es2 20 w2 (HB0.out.below HBw2.out) (by decide)
  rw [HMM.out] at hS2
  refine hS2.mono ?_
  rintro e w3 ⟨a3, l3, c3, G3, rfl, hT3⟩
  have hl3 : Hid (mm.length = l3) := hT3.out.now.1.1
  have hl3b : l3 ≤ 20 := by have := hl3.out; omega
  have HB3 := Lib.hid (HB2.out.trans (hT3.out.nilBelowT.mono HB2.out.size))
  have HO3 := Lib.hid (HO2.out.below hT3.out.nilBelowT)
  have OM := Lib.hid (rowNew hT3.out)
  obtain ⟨uss3, hV3, hP3, hL3⟩ := OM.out.whole
  have HV3 := Lib.hid hV3
  have HP3 := Lib.hid hP3
  have HL3 := Lib.hid hL3
  have hF3 : Hid (∀ b, (w2.heap.size ≤ b ∧ b < w3.heap.size) → True ∧ b < w3.heap.size ∧ (Value.slice a2 l1 c2).ownBlock ≠ some b) := fun b hb => ⟨trivial, hb.2, fun e => by
    have := (World.ownsRow.lt HO2.out.2.choose_spec.choose_spec.1 b e).2
    omega⟩
  have hN3 : N ≤ w3.heap.size := by have := HB3.out.size; have := hN.out; omega
  clear hS2 hV3 hP3 hL3 hT3
  go_wp2_with (at_builtin; refine wpList_append_data (L := stL) rfl (.tmp 30) (.tmp 32) 24 rfl N 29 _ 56 Try.underlying24 info_step rfl (fun _ => True) a2 l1 c2 ss rfl HO3.out a3 l3 c3 mm uss3 rfl HV3.out (fun b => w2.heap.size ≤ b ∧ b < w3.heap.size) HP3.out HL3.out hF3.out (by unfold maxLen; omega) (by omega) hN3 ?_; intro a4 c4 w4 hown4 hg4; have HO4 := Lib.hid hown4; have HB4 : Hid (Below w1.heap.size w1 w4) := Own.grown HO3.out.2.choose_spec.choose_spec.1 HB3.out (by have := hN.out; omega) HB3.out.size hg4; clear hown4 hg4)
  have hl13 : (ss ++ mm).length = l1 + l3 := by have := hl1.out; have := hl3.out; simp; omega
  have hcnt2 := fin_count (ss ++ mm) (fun s hs => by
    rcases List.mem_append.1 hs with hs | hs
    · exact HMK.out s hs
    · exact HMK2.out s hs)
  have HVV2 : Hid (v < (fo0.fin (ss ++ mm)).vers.length) := by show _ < _; rw [hcnt2, hl13]; omega
  have HVV := Lib.hid hvv
  have HA := Lib.hid (bytesOfW a1 l1 c1 ss v w4 ((OS.out.below HB4.out).keep (fun b hb => Nat.lt_of_lt_of_le hb HB4.out.size) (fun _ _ _ => rfl)) HOK.out HVV.out (by omega))
  have HMORE := Lib.hid hmore
  have hgood := verAt_good ss HOK.out v
  have hbir := verAt_bir ss HOK.out v
  have HNO := Lib.hid (fun (a' : Option Addr) (c' : Nat) (F' : Nat → Prop) (w' : World) (h : SRow stL w' F' a' l1 c' ss) => nodesW F' a' l1 c' ss v w' h HOK.out (by omega) HVV.out)
  have HNO2 := Lib.hid (fun (a' : Option Addr) (c' : Nat) (F' : Nat → Prop) (w' : World) (h : SRow stL w' F' a' (l1 + l3) c' (ss ++ mm)) => nodesW F' a' (l1 + l3) c' (ss ++ mm) v w' h HOK2.out (by omega) HVV2.out)
  have HBO2 := Lib.hid (fun (a' : Option Addr) (c' : Nat) (w' : World) (h : SRow stL w' (fun b => b < w'.heap.size) a' (l1 + l3) c' (ss ++ mm)) => bytesOfW a' (l1 + l3) c' (ss ++ mm) v w' h HOK2.out HVV2.out (by omega))
  obtain ⟨vr, hvr⟩ : ∃ vr, verAt ss v = vr := ⟨_, rfl⟩
  rw [hmore] at HNO2 HBO2
  rw [hvr] at HA HNO HNO2 HBO2 hgood hbir
  have HG := Lib.hid hgood
  have HBI := Lib.hid hbir
  have hlv3 : Hid (∀ r, vr.root = some r → r.1 ≤ 3) := fun r hr => by rw [HG.out.level r hr]; exact levelOf_le _
  clear hgood hbir hvr hmore hcnt2 hl13 HMORE hvv
  go_wp2_with fail
  refine HA.out.mono ?_
  rintro e w5 ⟨a5, l5, c5, rfl, hr5, hb5⟩
  have HC5 := Lib.hid (HB4.out.trans (hb5.mono HB4.out.size))
  have HO5 := Lib.hid (HO4.out.below hb5)
  have R5 := Lib.hid hr5.out.toRow
  clear hb5 hr5 HA
  go_wp2_with fail
  refine (HBO2.out a4 c4 w5 (SOwn.srowLt HO5.out)).mono ?_
  rintro e w6 ⟨a6, l6, c6, rfl, hr6, hb6⟩
  have HC6 := Lib.hid (HC5.out.trans (hb6.mono HC5.out.size))
  have HO6 := Lib.hid (HO5.out.below hb6)
  have R56 := Lib.hid (R5.out.below hb6)
  have R6 := Lib.hid hr6.out.toRow
  clear hb6 hr6
  go_wp2_with fail
  refine (HNO.out a1 c1 _ w6 (OS.out.below HC6.out)).mono ?_
  rintro e w7 ⟨a7, l7, c7, rfl, hr7, hb7⟩
  have HC7 := Lib.hid (HC6.out.trans (hb7.mono HC6.out.size))
  have HO7 := Lib.hid (HO6.out.below hb7)
  have R57 := Lib.hid (R56.out.below hb7)
  have R67 := Lib.hid (R6.out.below hb7)
  have R7 := Lib.hid hr7.out
  clear hb7 hr7
  go_wp2_with fail
  refine (HNO2.out a4 c4 _ w7 (SOwn.sRow HO7.out)).mono ?_
  rintro e w8 ⟨a8, l8, c8, rfl, hr8, hb8⟩
  have HC8 := Lib.hid (HC7.out.trans (hb8.mono HC7.out.size))
  have R58 := Lib.hid (R57.out.below hb8)
  have R68 := Lib.hid (R67.out.below hb8)
  have R78 := Lib.hid (R7.out.below hb8)
  have R8 := Lib.hid hr8.out
  have HSB := Lib.hid (sameSelf R58.out R68.out)
  clear hb8 hr8
  go_wp2_with fail
  refine HSB.out.mono ?_
  rintro e w9 ⟨rfl, k9, hw9⟩
  have HD9 : Hid (Below w8.heap.size w8 w9) := by show Below _ _ _; rw [hw9]; exact below_drewN (Below.refl _ _) k9
  have HC9 := Lib.hid (HC8.out.trans (HD9.out.mono HC8.out.size))
  have R59 := Lib.hid (R58.out.below HD9.out)
  have R79 := Lib.hid (R78.out.below HD9.out)
  have R89 := Lib.hid (R8.out.below HD9.out)
  have HW := Lib.hid (wholeW (fun _ => True) a7 l7 c7 vr.root v w9 R79.out HG.out.ok HBI.out hlv3.out)
  have HWL := Lib.hid (wholeP_len vr.root hlv3.out)
  clear hw9
  go_wp2_with fail
  refine HW.out.mono ?_
  rintro e w10 ⟨a10, c10, rfl, hc10, hb10, he10, hn10⟩
  have X10 := Lib.hid (whole_row he10 hn10 HWL.out hc10 (whole_wf vr HG.out R59.out))
  have HC10 := Lib.hid (HC9.out.trans (hb10.mono HC9.out.size))
  have HW2 := Lib.hid (wholeW (fun _ => True) a8 l8 c8 vr.root v w10 (R89.out.below hb10) HG.out.ok HBI.out hlv3.out)
  clear hc10 hb10 he10 hn10 HW
  go_wp2_with fail
  refine HW2.out.mono ?_
  rintro e w11 ⟨a11, c11, rfl, hc11, hb11, he11, hn11⟩
  have X11 := Lib.hid (whole_row he11 hn11 HWL.out hc11 (whole_wf vr HG.out R59.out))
  have X101 := Lib.hid (X10.out.below hb11)
  have HC11 := Lib.hid (HC10.out.trans (hb11.mono HC10.out.size))
  obtain ⟨RM, hRM⟩ : ∃ RM, (wholeP vr.root).length = RM := ⟨_, rfl⟩
  have HLAST : Hid ((l5 = 0 ∧ l7 = 0) ∨ (0 < l5 ∧ 0 < l7 ∧ l5 ≤ RM)) := by
    have h5 : vr.size = l5 := by have := R59.out.hlen; rw [bytesV_length] at this; exact this
    have h7 : (nodesP vr.root).length = l7 := R79.out.1
    cases hr : vr.root with
    | none => exact .inl ⟨by rw [← h5]; exact HG.out.nil.1 hr, by rw [← h7, hr]; rfl⟩
    | some r =>
      have hW := whole_law vr HG.out r hr
      refine .inr ⟨by rw [← h5]; exact hW.size, ?_, ?_⟩
      · have h0 := nodesUpTo_get (allT (some r)) (allT (some r)).length 0 r (tree_of r).pos (Nat.le_refl _) (tree_of r).root
        rw [← h7, hr]
        exact Nat.lt_of_not_le fun hle => by
          rw [List.getElem?_eq_none (by show (nodesP (some r)).length ≤ 0; omega)] at h0
          cases h0
      · have : (wholeP (some r)).length = room r.1 := by simp [wholeP]
        rw [← hRM, hr, this, ← h5]; exact hW.big
  have HSB2 := Lib.hid (sameSelf X101.out X11.out)
  have HFIN := Lib.hid ((HB1.out.trans (HC11.out.mono HB1.out.size)))
  rw [hRM] at HSB2 ⊢
  have hRMl : RM ≤ 5000 := by rw [← hRM]; exact HWL.out
  clear hc11 hb11 he11 hn11 HW2 hRM
  rcases HLAST.out with ⟨rfl, rfl⟩ | ⟨h5p, h7p, h5r⟩
  · go_wp2_with fail
    refine HSB2.out.mono ?_
    rintro e w12 ⟨rfl, k12, hw12⟩
    have HD12 : Hid (Below w.heap.size w w12) := by show Below _ _ _; rw [hw12]; exact below_drewN HFIN.out k12
    clear hw12
    go_wp2_with fail
    go_ret
    exact ⟨rfl, HD12.out⟩
  · have q5 : ((l5 : Int) == 0) = false := by simp; omega
    have q7 : ((l7 : Int) == 0) = false := by simp; omega
    have qr : decide ((l5 : Int) ≤ (RM : Int)) = true := by simp; omega
    have qr' : decide (l5 ≤ RM) = true := by simp; omega
    go_wp2_with fail
    refine HSB2.out.mono ?_
    rintro e w12 ⟨rfl, k12, hw12⟩
    have HD12 : Hid (Below w.heap.size w w12) := by show Below _ _ _; rw [hw12]; exact below_drewN HFIN.out k12
    clear hw12
    go_wp2_with fail
    go_ret
    exact ⟨rfl, HD12.out⟩
end Go.Proofs.Ythjjfmnipemakaa
