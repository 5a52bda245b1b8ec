/- The walk of PoolSnaps. -/
import Derived.Test.YtkbfohbpndjcpaaPoI
namespace Go.Proofs.Ytkbfohbpndjcpaa
open Go.RowKit Go.Sort
set_option linter.unusedVariables false
set_option maxRecDepth 1000000
set_option linter.unusedSimpArgs false

def modC (c : Cm) : Cm := if c.kind = 10 ∧ c.other = [115] then { c with other := [116] } else c
theorem modC_not (c : Cm) : ¬ ((modC c).kind = 10 ∧ (modC c).other = [115]) := by
  unfold modC
  split
  · rintro ⟨_, h⟩
    have : ([116] : Nm) = [115] := h
    exact absurd this (by decide)
  · rename_i h; exact h
theorem modC_ok {c : Cm} (h : c.Ok) : (modC c).Ok := by
  unfold modC
  split
  · exact ⟨h.lo, h.hi, h.off, h.count, h.data, h.nlen, (by decide : 1 ≤ 100)⟩
  · exact h
theorem modC_data (c : Cm) : (modC c).data = c.data := by unfold modC; split <;> rfl
def modsP (os : List Od) (i : Nat) : List Cm := (commandsP os i ownK).map modC
theorem modsP_succ (os : List Od) (i : Nat) (o : Od) (h : os[i]? = some o) : modsP os (i + 1) = modsP os i ++ [modC (commandP o ownK)] := by
  unfold modsP; rw [commandsP_succ os i ownK o h, List.map_append]; rfl
theorem modsP_not (os : List Od) (i : Nat) : ∀ c ∈ modsP os i, ¬ (c.kind = 10 ∧ c.other = [115]) := by
  intro c hc
  obtain ⟨x, _, rfl⟩ := List.mem_map.1 hc
  exact modC_not x
theorem modsP_ok (os : List Od) (i : Nat) : ∀ c ∈ modsP os i, c.Ok := by
  intro c hc
  obtain ⟨x, hx, rfl⟩ := List.mem_map.1 hc
  exact modC_ok (commandsP_ok os i ownK (by decide) ownK_ok x hx)
theorem modsP_length (os : List Od) (i : Nat) : (modsP os i).length = min i os.length := by unfold modsP; rw [List.length_map, commandsP_length]
theorem grown_set8 (w : World) (g : Nat) (v0 v1 v2 v3 v4 v5 v6 v7 : Value) : w.grownBy ((((((((w.setCell ⟨g, 0, none⟩ v0).setCell ⟨g, 1, none⟩ v1).setCell ⟨g, 2, none⟩ v2).setCell ⟨g, 3, none⟩ v3).setCell ⟨g, 4, none⟩ v4).setCell ⟨g, 5, none⟩ v5).setCell ⟨g, 6, none⟩ v6).setCell ⟨g, 7, none⟩ v7) (some g) :=
  ((((((((grown_set _ g 0 v0).trans (grown_set _ g 1 v1)).trans (grown_set _ g 2 v2)).trans (grown_set _ g 3 v3)).trans (grown_set _ g 4 v4)).trans (grown_set _ g 5 v5)).trans (grown_set _ g 6 v6)).trans (grown_set _ g 7 v7))
theorem snapEnd1 {wr w5 w6 : World} {ag : Option Addr} {lg cg : Nat} {xd : List Int} (hb : Below wr.heap.size wr w5) (hN : NewB w5 w6 ag lg cg xd) (o : Obj) : NewB wr (w6.alloc o) ag lg cg xd ∧ (wr.heap.size ≤ w6.heap.size ∧ ∀ p, ag = some p → p.block ≠ w6.heap.size) := by
  have h1 := newB_mono hN hb
  refine ⟨⟨h1.row.below (Below_alloc1 _), fun x hx => ⟨(h1.new x hx).1, by have := (h1.new x hx).2; simp; omega⟩, h1.below.alloc h1.below.size _⟩, h1.below.size, fun p hp => ?_⟩
  have := (h1.new p hp).2
  omega
theorem snapEnd2 {wr w5 w6 : World} {ag : Option Addr} {lg cg : Nat} {xd : List Int} (hb : Below wr.heap.size wr w5) (hN : NewB w5 w6 ag lg cg xd) (g : Nat) (h1 : wr.heap.size ≤ g) (h2 : g < w5.heap.size) (v0 v1 v2 v3 v4 v5 v6 v7 : Value) :
    NewB wr ((((((((w6.setCell ⟨g, 0, none⟩ v0).setCell ⟨g, 1, none⟩ v1).setCell ⟨g, 2, none⟩ v2).setCell ⟨g, 3, none⟩ v3).setCell ⟨g, 4, none⟩ v4).setCell ⟨g, 5, none⟩ v5).setCell ⟨g, 6, none⟩ v6).setCell ⟨g, 7, none⟩ v7) ag lg cg xd ∧ (wr.heap.size ≤ g ∧ ∀ p, ag = some p → p.block ≠ g) := by
  have hne : ∀ p, ag = some p → p.block ≠ g := fun p hp => by have := (hN.new p hp).1; omega
  exact ⟨newB_set (newB_mono hN hb) (grown_set8 w6 g v0 v1 v2 v3 v4 v5 v6 v7) h1 hne, h1, hne⟩
set_option maxHeartbeats 8000000 in
theorem poolSnaps (F : Nat → Prop) (a : Option Addr) (len cap : Nat) (os : List Od) (F2 : Nat → Prop) (am : Option Addr) (lm cm : Nat) (os2 : List Od) (n : Int) (w : World) (ha : SRow odL w F a len cap os) (hm : SRow odL w F2 am lm cm os2) :
    Calls Try.prog 3 #[.slice a len cap, .slice am lm cm, .int .i64 n] w fun e w' => e = .returned (.bool true) ∧ Below w.heap.size w w' := by
  have HA := Lib.hid ha
  have HM := Lib.hid hm
  have hmxm := hm.hmax
  have hlem := hm.hle
  unfold maxLen at hmxm
  clear ha hm
  have HOK := Lib.hid (commandsP_ok os 40 ownK (by decide) ownK_ok)
  have HLC := Lib.hid (commandsP_length os 40 ownK)
  have HLT := Lib.hid (litOk n)
  obtain ⟨N, hN⟩ : ∃ N, Hid (objN n = N) := ⟨_, rfl⟩
  rw [hN.out] at HLT
  have HPS := Lib.hid (fun k => pool_snaps (commandsP os 40 ownK) (modsP os2 k) N (commandsP_named os 40 ownK) (modsP_not os2 k))
  go_enter Try.func3, Try.ntmps3
  go_wp2_with fail
  refine (ownKindsW w).mono ?_
  rintro e w1 ⟨rfl, hK1, hB1⟩
  go_wp2_with fail
  refine (commandsW F a len cap os 40 w.heap.size 0 22 22 ownK w1 (HA.out.below hB1.out) (kindsRow ownK hK1.out (by decide) (by decide)) (by decide) (by decide) (by decide)).mono ?_
  rintro e w2 ⟨a2, l2, c2, rfl, hO2, hB2⟩
  obtain ⟨cs, hcs⟩ : ∃ cs, commandsP os 40 ownK = cs := ⟨_, rfl⟩
  have h1 := HOK.out
  have h2 := HLC.out
  have h3 := HPS.out
  rw [hcs] at hO2 h1 h2 h3
  have HOK2 := Lib.hid h1
  have HPS2 := Lib.hid h3
  have hl2 : cs.length = l2 := hO2.out.1
  have hl2b : l2 ≤ 40 := by omega
  have HL2 := Lib.hid hl2
  have B2 : Hid (Below w.heap.size w w2) := hB1.out.trans (hB2.out.mono hB1.out.size)
  clear h1 h2 h3 hcs hl2 HOK HLC HPS hB1 hB2 hK1
  go_wp2_with fail
  refine (objectNameW n w2).mono ?_
  rintro e w3 ⟨rfl, hB3⟩
  rw [hN.out]
  have B3 : Hid (Below w.heap.size w w3) := B2.out.trans (hB3.out.mono B2.out.size)
  have R3 := Lib.hid (SOwn.srowLtP (hO2.out.below hB3.out))
  have hle3 := R3.out.hle
  have hmx3 := R3.out.hmax
  unfold maxLen at hmx3
  obtain ⟨uss, hV3, hP3, hL3⟩ := R3.out.whole
  have HV3 := Lib.hid hV3
  have HP3 := Lib.hid hP3
  have HL3 := Lib.hid hL3
  obtain ⟨B, hB⟩ : ∃ B, Hid (w3.heap.size = B) := ⟨_, rfl⟩
  have hBw3 : B ≤ w3.heap.size := by have := hB.out; omega
  have hwB : Hid (w.heap.size ≤ B) := by have := B3.out.size; have := hB.out; show _ ≤ _; omega
  have S3 : Hid (SOwn cmL w3 B 30 (fun _ => True) none 0 0 []) := SOwn.nil ..
  have hF3 : Hid (∀ b, b < w3.heap.size → True ∧ b < w3.heap.size ∧ (Value.slice none 0 0).ownBlock ≠ some b) := fun b hb => ⟨trivial, hb, fun e => by cases (show (none : Option Nat) = some b from e)⟩
  clear hV3 hP3 hL3
  go_upto_region 4 with (first
    | (at_builtin; refine wpList_append_data (L := cmL) rfl (.const (.slice none 0 0)) (.tmp 20) 23 rfl B 30 _ 96 Try.underlying23 info_cmd rfl (fun _ => True) none 0 0 [] rfl S3.out a2 l2 c2 cs uss rfl HV3.out (fun b => b < w3.heap.size) HP3.out HL3.out hF3.out (by unfold maxLen; omega) (by omega) hBw3 ?_; intro a4 c4 w4 hown4 hg4; rw [Nat.zero_add] at hown4 ⊢; have HO4 := Lib.hid (show SOwn cmL w4 B 30 (fun _ => True) a4 l2 c4 cs from hown4); have B4 : Hid (Below w.heap.size w w4) := B3.out.trans (((Below.refl _ _).grown hg4 (Nat.le_refl _) (fun k hk => by cases hk) : Below w3.heap.size w3 w4).mono B3.out.size); have hB4 : Hid (B ≤ w4.heap.size) := Nat.le_trans hBw3 hg4.size; clear hown4 hg4;
       have hboxX : Box (w4.alloc (.cells #[.int .i64 10, .string ⟨#[]⟩, .string ⟨#[115]⟩, .int .i64 0, .int .i64 0, .int .i64 0, .int .i64 0, .slice none 0 0, .int .i64 10, .string ⟨#[]⟩, .string ⟨#[116]⟩, .int .i64 0, .int .i64 0, .int .i64 0, .int .i64 0, .slice none 0 0, .int .i64 7, .string ⟨#[]⟩, .string ⟨#[115]⟩, .int .i64 0, .int .i64 0, .int .i64 0, .int .i64 0, .slice none 0 0, .int .i64 3, encStr N, .string ⟨#[]⟩, .int .i64 0, .int .i64 2000, .int .i64 0, .int .i64 0, .slice none 0 0] 30)) w4.heap.size #[.int .i64 10, .string ⟨#[]⟩, .string ⟨#[115]⟩, .int .i64 0, .int .i64 0, .int .i64 0, .int .i64 0, .slice none 0 0, .int .i64 10, .string ⟨#[]⟩, .string ⟨#[116]⟩, .int .i64 0, .int .i64 0, .int .i64 0, .int .i64 0, .slice none 0 0, .int .i64 7, .string ⟨#[]⟩, .string ⟨#[115]⟩, .int .i64 0, .int .i64 0, .int .i64 0, .int .i64 0, .slice none 0 0, .int .i64 3, encStr N, .string ⟨#[]⟩, .int .i64 0, .int .i64 2000, .int .i64 0, .int .i64 0, .slice none 0 0] 30 := Box.new rfl; have hPtX : Hid (Pt cmL (w4.alloc (.cells #[.int .i64 10, .string ⟨#[]⟩, .string ⟨#[115]⟩, .int .i64 0, .int .i64 0, .int .i64 0, .int .i64 0, .slice none 0 0, .int .i64 10, .string ⟨#[]⟩, .string ⟨#[116]⟩, .int .i64 0, .int .i64 0, .int .i64 0, .int .i64 0, .slice none 0 0, .int .i64 7, .string ⟨#[]⟩, .string ⟨#[115]⟩, .int .i64 0, .int .i64 0, .int .i64 0, .int .i64 0, .slice none 0 0, .int .i64 3, encStr N, .string ⟨#[]⟩, .int .i64 0, .int .i64 2000, .int .i64 0, .int .i64 0, .slice none 0 0] 30)) (fun _ => False) [unS, unT, snS, ftC N] _) := lits [unS, unT, snS, ftC N] (by intro c hc; simp only [List.mem_cons, List.mem_nil_iff, or_false] at hc; rcases hc with rfl | rfl | rfl | rfl <;> rfl); have hVRX := Lib.hid (vrowBox [unS, unT, snS, ftC N] _ (by rfl) hboxX hPtX.out (by simp)); have HOX : Hid (SOwn cmL (w4.alloc (.cells #[.int .i64 10, .string ⟨#[]⟩, .string ⟨#[115]⟩, .int .i64 0, .int .i64 0, .int .i64 0, .int .i64 0, .slice none 0 0, .int .i64 10, .string ⟨#[]⟩, .string ⟨#[116]⟩, .int .i64 0, .int .i64 0, .int .i64 0, .int .i64 0, .slice none 0 0, .int .i64 7, .string ⟨#[]⟩, .string ⟨#[115]⟩, .int .i64 0, .int .i64 0, .int .i64 0, .int .i64 0, .slice none 0 0, .int .i64 3, encStr N, .string ⟨#[]⟩, .int .i64 0, .int .i64 2000, .int .i64 0, .int .i64 0, .slice none 0 0] 30)) B 30 (fun _ => True) a4 l2 c4 cs) := HO4.out.alloc _; have hFX : Hid (∀ b, False → True ∧ b < (w4.alloc (.cells #[.int .i64 10, .string ⟨#[]⟩, .string ⟨#[115]⟩, .int .i64 0, .int .i64 0, .int .i64 0, .int .i64 0, .slice none 0 0, .int .i64 10, .string ⟨#[]⟩, .string ⟨#[116]⟩, .int .i64 0, .int .i64 0, .int .i64 0, .int .i64 0, .slice none 0 0, .int .i64 7, .string ⟨#[]⟩, .string ⟨#[115]⟩, .int .i64 0, .int .i64 0, .int .i64 0, .int .i64 0, .slice none 0 0, .int .i64 3, encStr N, .string ⟨#[]⟩, .int .i64 0, .int .i64 2000, .int .i64 0, .int .i64 0, .slice none 0 0] 30)).heap.size ∧ (Value.slice a4 l2 c4).ownBlock ≠ some b) := (fun b hb => hb.elim); have BX : Hid (Below w.heap.size w (w4.alloc (.cells #[.int .i64 10, .string ⟨#[]⟩, .string ⟨#[115]⟩, .int .i64 0, .int .i64 0, .int .i64 0, .int .i64 0, .slice none 0 0, .int .i64 10, .string ⟨#[]⟩, .string ⟨#[116]⟩, .int .i64 0, .int .i64 0, .int .i64 0, .int .i64 0, .slice none 0 0, .int .i64 7, .string ⟨#[]⟩, .string ⟨#[115]⟩, .int .i64 0, .int .i64 0, .int .i64 0, .int .i64 0, .slice none 0 0, .int .i64 3, encStr N, .string ⟨#[]⟩, .int .i64 0, .int .i64 2000, .int .i64 0, .int .i64 0, .slice none 0 0] 30))) := B4.out.alloc B4.out.size _; have hBX : B ≤ (w4.alloc (.cells #[.int .i64 10, .string ⟨#[]⟩, .string ⟨#[115]⟩, .int .i64 0, .int .i64 0, .int .i64 0, .int .i64 0, .slice none 0 0, .int .i64 10, .string ⟨#[]⟩, .string ⟨#[116]⟩, .int .i64 0, .int .i64 0, .int .i64 0, .int .i64 0, .slice none 0 0, .int .i64 7, .string ⟨#[]⟩, .string ⟨#[115]⟩, .int .i64 0, .int .i64 0, .int .i64 0, .int .i64 0, .slice none 0 0, .int .i64 3, encStr N, .string ⟨#[]⟩, .int .i64 0, .int .i64 2000, .int .i64 0, .int .i64 0, .slice none 0 0] 30)).heap.size := (by have := hB4.out; simp; omega); clear hboxX)
    | (at_builtin; refine wpList_append_data (L := cmL) (w := w4.alloc (.cells #[.int .i64 10, .string ⟨#[]⟩, .string ⟨#[115]⟩, .int .i64 0, .int .i64 0, .int .i64 0, .int .i64 0, .slice none 0 0, .int .i64 10, .string ⟨#[]⟩, .string ⟨#[116]⟩, .int .i64 0, .int .i64 0, .int .i64 0, .int .i64 0, .slice none 0 0, .int .i64 7, .string ⟨#[]⟩, .string ⟨#[115]⟩, .int .i64 0, .int .i64 0, .int .i64 0, .int .i64 0, .slice none 0 0, .int .i64 3, encStr N, .string ⟨#[]⟩, .int .i64 0, .int .i64 2000, .int .i64 0, .int .i64 0, .slice none 0 0] 30)) rfl (.tmp 21) (.tmp 27) 23 rfl B 30 _ 96 Try.underlying23 info_cmd rfl (fun _ => True) a4 l2 c4 cs rfl HOX.out (some ⟨w4.heap.size, 0, none⟩) 4 4 [unS, unT, snS, ftC N] _ rfl hVRX.out _ hPtX.out rfl hFX.out (by unfold maxLen; omega) (by omega) hBX ?_; intro a5 c5 w5 hown5 hg5; have HO5 := Lib.hid hown5; have B5 : Hid (Below w.heap.size w w5) := SOwn.grown HOX.out BX.out hwB.out BX.out.size hg5; have hB5 : Hid (B ≤ w5.heap.size) := Nat.le_trans hBX hg5.size; clear hown5 hg5)
    | fail)
  obtain ⟨m5, hm5⟩ : ∃ m5, Hid (l2 + 4 = m5) := ⟨_, rfl⟩
  rw [hm5.out] at HO5 ⊢
  have hm5b : m5 ≤ 44 := by have := hm5.out; omega
  have hm5c : 4 ≤ m5 := by have := hm5.out; omega
  clear HOX hFX hBX hVRX hPtX BX HO4 B4 hB4 S3 hF3 HV3 HP3 HL3
  obtain ⟨j3, hj3⟩ : ∃ j3, Hid (l2 + 3 = j3) := ⟨_, rfl⟩
  have ej3 : (m5 : Int) - 1 = (j3 : Int) := by have := hj3.out; have := hm5.out; omega
  go_wp2_with fail
  clear ej3
  go_loopw [9, 11] (fun ov iv wr => ∃ (i : Nat) (ao : Option Addr) (mo co : Nat), i ≤ 40 ∧ i ≤ lm ∧ mo ≤ m5 + i ∧ iv = .int .i64 i ∧ ov = .slice ao mo co ∧ Hid (SOwn cmL wr B 30 (fun _ => True) ao mo co (cs ++ [unS, unT, snS, ftC N] ++ modsP os2 i)) ∧ Hid (Below w.heap.size w wr) ∧ Hid (B ≤ wr.heap.size)) (fun _ iv _ => 40 - (intOf iv).toNat)
  case atStart => exact ⟨0, a5, m5, c5, by omega, by omega, by omega, rfl, rfl, by show SOwn _ _ _ _ _ _ _ _ _; rw [show modsP os2 0 = [] from rfl, List.append_nil]; exact HO5.out, B5, hB5⟩
  case round =>
    obtain ⟨i, ao, mo, co, hi, hi2, hmo, rfl, rfl, hO, hBW, hBr⟩ := hrel
    by_cases hlt : i < lm
    · have il : (i : Int) < lm := by omega
      by_cases hln : i < 40
      · have iln : (i : Int) < 40 := by omega
        have hBw : Below w.heap.size w wr := hBW.out
        obtain ⟨b, off, o, ad, ld, cd, rfl, hb, hoi, hroww, c0w, c1w, c2w, c3w, c4w, c5w⟩ := odAt (HM.out.below hBw) i hlt
        have hnext := Lib.hid (modsP_succ os2 i o hoi)
        have hxo : (commandP o ownK).other ∈ snapNames := snapN_mem _
        obtain ⟨x, hx⟩ : ∃ x, Hid (commandP o ownK = x) := ⟨_, rfl⟩
        rw [hx.out] at hnext hxo
        have HC : Hid (∀ (kb : Nat) (W' : World), Below wr.heap.size wr W' → Box W' kb (intsA ownK) 3 → Calls Try.prog 10 #[.agg (odV o ad ld cd), .slice (some ⟨kb, 0, none⟩) 22 22] W' fun e w' => ∃ a' l' c', e = .returned (.agg (cmV x a' l' c')) ∧ Hid (NewB W' w' a' l' c' x.data)) := fun kb W' h1 h2 => by
          have := commandOfW o ad ld cd kb 0 22 22 ownK W' (hroww.below h1) (kindsRow ownK h2 (by decide) (by decide)) (by decide) (by decide)
          rw [hx.out] at this
          exact this
        have hBwr : B ≤ wr.heap.size := hBr.out
        have HHO : Hid (∀ wx, Below wr.heap.size wr wx → SOwn cmL wx B 30 (fun _ => True) ao mo co (cs ++ [unS, unT, snS, ftC N] ++ modsP os2 i)) := fun wx h => hO.out.below h
        have hOlt : Hid (∀ g, (Value.slice ao mo co).ownBlock = some g → g < wr.heap.size) := fun g hg => (World.ownsRow.lt hO.out.2.choose_spec.choose_spec.1 g hg).2
        have wi : IntKind.i64.wrap ((i : Int) + 1) = (i : Int) + 1 := IntWalk.i64_in _ (by omega)
        obtain ⟨ek, en, eo, ef, ec, ed⟩ := o
        unfold odV at HC
        simp only at c0w c1w c2w c3w c4w c5w HC
        have HKS : Hid (∀ w', Below wr.heap.size wr w' → Below wr.heap.size wr w' ∧ w'.cell? ⟨b, off + i * 6, none⟩ = some (.int .i64 ek) ∧ w'.cell? ⟨b, off + i * 6 + 1, none⟩ = some (.int .i64 en) ∧ w'.cell? ⟨b, off + i * 6 + 2, none⟩ = some (.int .i64 eo) ∧ w'.cell? ⟨b, off + i * 6 + 3, none⟩ = some (.int .i64 ef) ∧ w'.cell? ⟨b, off + i * 6 + 4, none⟩ = some (.int .i64 ec) ∧ w'.cell? ⟨b, off + i * 6 + 5, none⟩ = some (.slice ad ld cd)) := fun w' h => ⟨h, (h.cell (World.block_lt_of_cell? _ _ c0w)).trans c0w, (h.cell (World.block_lt_of_cell? _ _ c1w)).trans c1w, (h.cell (World.block_lt_of_cell? _ _ c2w)).trans c2w, (h.cell (World.block_lt_of_cell? _ _ c3w)).trans c3w, (h.cell (World.block_lt_of_cell? _ _ c4w)).trans c4w, (h.cell (World.block_lt_of_cell? _ _ c5w)).trans c5w⟩
        have HS0 := Lib.hid (HKS.out wr.drew ((Below.refl _ _).drew))
        have hBA : Hid (Below wr.heap.size wr (wr.alloc (.cells #[.int .i64 0, .string ⟨#[]⟩, .string ⟨#[]⟩, .int .i64 0, .int .i64 0, .int .i64 0, .int .i64 0, .slice none 0 0] 30)).drew) := (Below_alloc1 _).drew
        have HSA := Lib.hid (HKS.out _ hBA.out)
        have HK1 : Hid (Calls Try.prog 8 #[] wr.drew fun e w' => e = .returned (.slice (some ⟨wr.heap.size, 0, none⟩) 22 22) ∧ Hid (Box w' wr.heap.size (intsA ownK) 3) ∧ Hid (Below wr.heap.size wr w')) := (ownKindsW wr.drew).mono fun _ _ ⟨h1, h2, h3⟩ => ⟨h1, h2, ((Below.refl _ _).drew).trans h3.out⟩
        have HK2 : Hid (Calls Try.prog 8 #[] (wr.alloc (.cells #[.int .i64 0, .string ⟨#[]⟩, .string ⟨#[]⟩, .int .i64 0, .int .i64 0, .int .i64 0, .int .i64 0, .slice none 0 0] 30)).drew fun e w' => e = .returned (.slice (some ⟨wr.heap.size + 1, 0, none⟩) 22 22) ∧ Hid (Box w' (wr.heap.size + 1) (intsA ownK) 3) ∧ Hid (Below wr.heap.size wr w') ∧ Hid (Box w' wr.heap.size #[.int .i64 0, .string ⟨#[]⟩, .string ⟨#[]⟩, .int .i64 0, .int .i64 0, .int .i64 0, .int .i64 0, .slice none 0 0] 30)) := by
          have hsz : (wr.alloc (.cells #[.int .i64 0, .string ⟨#[]⟩, .string ⟨#[]⟩, .int .i64 0, .int .i64 0, .int .i64 0, .int .i64 0, .slice none 0 0] 30)).drew.heap.size = wr.heap.size + 1 := by simp
          refine (ownKindsW (wr.alloc (.cells #[.int .i64 0, .string ⟨#[]⟩, .string ⟨#[]⟩, .int .i64 0, .int .i64 0, .int .i64 0, .int .i64 0, .slice none 0 0] 30)).drew).mono ?_
          rintro e w' ⟨h1, h2, h3⟩
          rw [hsz] at h1 h2
          exact ⟨h1, h2, hBA.out.trans (h3.out.mono (by simp)), Box.below (w := (wr.alloc (.cells #[.int .i64 0, .string ⟨#[]⟩, .string ⟨#[]⟩, .int .i64 0, .int .i64 0, .int .i64 0, .int .i64 0, .slice none 0 0] 30)).drew) (Box.drew (Box.new rfl)) h3.out (by show wr.heap.size < (wr.alloc _).heap.size; simp)⟩
        clear c0w c1w c2w c3w c4w c5w hroww hoi hx hBw
        obtain ⟨xk, xn, xo, xf, xc, xd⟩ := x
        unfold cmV at HC
        simp only at HC hxo
        go_wp2_with fail
        go_upto_region 8 with fail
        go_cut [12] from 42 to 47 (fun v12 wx => ∃ (g : Nat) (ag : Option Addr) (lg cg : Nat), v12 = .pointer (some ⟨g, 0, none⟩) ∧ Hid (Box wx g #[.int .i64 (xk : Int), encStr xn, encStr xo, .int .i64 (xf : Int), .int .i64 (xc : Int), .int .i64 0, .int .i64 0, .slice ag lg cg] 30) ∧ Hid (NewB wr wx ag lg cg xd) ∧ Hid (wr.heap.size ≤ g ∧ ∀ p, ag = some p → p.block ≠ g))
        case first =>
          go_region_held3 (fun w' => Below wr.heap.size wr w' ∧ w'.cell? ⟨b, off + i * 6, none⟩ = some (.int .i64 ek) ∧ w'.cell? ⟨b, off + i * 6 + 1, none⟩ = some (.int .i64 en) ∧ w'.cell? ⟨b, off + i * 6 + 2, none⟩ = some (.int .i64 eo) ∧ w'.cell? ⟨b, off + i * 6 + 3, none⟩ = some (.int .i64 ef) ∧ w'.cell? ⟨b, off + i * 6 + 4, none⟩ = some (.int .i64 ec) ∧ w'.cell? ⟨b, off + i * 6 + 5, none⟩ = some (.slice ad ld cd))
            (first | with_reducible exact HS0.out | with_reducible exact HSA.out | with_reducible exact HKS.out _ hbS5.out | with_reducible exact HKS.out _ hbS6.out | with_reducible exact HKS.out _ (hbS5.out.alloc hbS5.out.size _) | with_reducible exact HKS.out _ (hbS6.out.alloc hbS6.out.size _) | with_reducible exact HKS.out _ (set8_below hbS6.out _ (Nat.le_refl _) _ _ _ _ _ _ _ _) | with_reducible exact HKS.out _ (set8_below hbS6.out _ hbS5.out.size _ _ _ _ _ _ _ _) | (go_keep; done))
            (first
              | (go_at_call 8; (with_reducible refine HK1.out.mono ?_); rintro e w5 ⟨rfl, hKx, hbS5⟩; have hkb : Hid (wr.heap.size < w5.heap.size) := hKx.out.lt)
              | (go_at_call 8; (with_reducible refine HK2.out.mono ?_); rintro e w5 ⟨rfl, hKx, hbS5, hBX5⟩; have za0 : w5.cell? ⟨wr.heap.size, 0, none⟩ = some (.int .i64 0) := hBX5.out.cell 0; have ya0 : w5.frozen? ⟨wr.heap.size, 0, none⟩ = false := hBX5.out.free 0; have za1 : w5.cell? ⟨wr.heap.size, 1, none⟩ = some (.string ⟨#[]⟩) := hBX5.out.cell 1; have ya1 : w5.frozen? ⟨wr.heap.size, 1, none⟩ = false := hBX5.out.free 1; have za2 : w5.cell? ⟨wr.heap.size, 2, none⟩ = some (.string ⟨#[]⟩) := hBX5.out.cell 2; have ya2 : w5.frozen? ⟨wr.heap.size, 2, none⟩ = false := hBX5.out.free 2; have za3 : w5.cell? ⟨wr.heap.size, 3, none⟩ = some (.int .i64 0) := hBX5.out.cell 3; have ya3 : w5.frozen? ⟨wr.heap.size, 3, none⟩ = false := hBX5.out.free 3; have za4 : w5.cell? ⟨wr.heap.size, 4, none⟩ = some (.int .i64 0) := hBX5.out.cell 4; have ya4 : w5.frozen? ⟨wr.heap.size, 4, none⟩ = false := hBX5.out.free 4; have za5 : w5.cell? ⟨wr.heap.size, 5, none⟩ = some (.int .i64 0) := hBX5.out.cell 5; have ya5 : w5.frozen? ⟨wr.heap.size, 5, none⟩ = false := hBX5.out.free 5; have za6 : w5.cell? ⟨wr.heap.size, 6, none⟩ = some (.int .i64 0) := hBX5.out.cell 6; have ya6 : w5.frozen? ⟨wr.heap.size, 6, none⟩ = false := hBX5.out.free 6; have za7 : w5.cell? ⟨wr.heap.size, 7, none⟩ = some (.slice none 0 0) := hBX5.out.cell 7; have ya7 : w5.frozen? ⟨wr.heap.size, 7, none⟩ = false := hBX5.out.free 7)
              | (go_at_call 10; (with_reducible refine (HC.out (wr.heap.size + 1) w5 hbS5.out hKx.out).mono ?_); rintro e w6 ⟨ag, lg, cg, rfl, hNx⟩; have hBX6 : Hid (Box w6 wr.heap.size #[.int .i64 0, .string ⟨#[]⟩, .string ⟨#[]⟩, .int .i64 0, .int .i64 0, .int .i64 0, .int .i64 0, .slice none 0 0] 30) := Box.below hBX5.out hNx.out.below hBX5.out.lt; have hbS6 : Hid (Below wr.heap.size wr w6) := hbS5.out.trans (hNx.out.below.mono hbS5.out.size); have hglt : Hid (wr.heap.size < w5.heap.size) := hBX5.out.lt; have zb0 : w6.cell? ⟨wr.heap.size, 0, none⟩ = some (.int .i64 0) := hBX6.out.cell 0; have yb0 : w6.frozen? ⟨wr.heap.size, 0, none⟩ = false := hBX6.out.free 0; have zb1 : w6.cell? ⟨wr.heap.size, 1, none⟩ = some (.string ⟨#[]⟩) := hBX6.out.cell 1; have yb1 : w6.frozen? ⟨wr.heap.size, 1, none⟩ = false := hBX6.out.free 1; have zb2 : w6.cell? ⟨wr.heap.size, 2, none⟩ = some (.string ⟨#[]⟩) := hBX6.out.cell 2; have yb2 : w6.frozen? ⟨wr.heap.size, 2, none⟩ = false := hBX6.out.free 2; have zb3 : w6.cell? ⟨wr.heap.size, 3, none⟩ = some (.int .i64 0) := hBX6.out.cell 3; have yb3 : w6.frozen? ⟨wr.heap.size, 3, none⟩ = false := hBX6.out.free 3; have zb4 : w6.cell? ⟨wr.heap.size, 4, none⟩ = some (.int .i64 0) := hBX6.out.cell 4; have yb4 : w6.frozen? ⟨wr.heap.size, 4, none⟩ = false := hBX6.out.free 4; have zb5 : w6.cell? ⟨wr.heap.size, 5, none⟩ = some (.int .i64 0) := hBX6.out.cell 5; have yb5 : w6.frozen? ⟨wr.heap.size, 5, none⟩ = false := hBX6.out.free 5; have zb6 : w6.cell? ⟨wr.heap.size, 6, none⟩ = some (.int .i64 0) := hBX6.out.cell 6; have yb6 : w6.frozen? ⟨wr.heap.size, 6, none⟩ = false := hBX6.out.free 6; have zb7 : w6.cell? ⟨wr.heap.size, 7, none⟩ = some (.slice none 0 0) := hBX6.out.cell 7; have yb7 : w6.frozen? ⟨wr.heap.size, 7, none⟩ = false := hBX6.out.free 7)
              | (go_at_call 10; (with_reducible refine (HC.out wr.heap.size w5 hbS5.out hKx.out).mono ?_); rintro e w6 ⟨ag, lg, cg, rfl, hNx⟩; have hbS6 : Hid (Below wr.heap.size wr w6) := hbS5.out.trans (hNx.out.below.mono hbS5.out.size))
              | (go_at_call 10; (with_reducible refine (HC.out wr.heap.size (w5.alloc (.cells #[.int .i64 0, .string ⟨#[]⟩, .string ⟨#[]⟩, .int .i64 0, .int .i64 0, .int .i64 0, .int .i64 0, .slice none 0 0] 30)) (hbS5.out.alloc hbS5.out.size _) (Box.alloc hKx.out _)).mono ?_); rintro e w6 ⟨ag, lg, cg, rfl, hNx⟩; have hBX6 : Hid (Box w6 w5.heap.size #[.int .i64 0, .string ⟨#[]⟩, .string ⟨#[]⟩, .int .i64 0, .int .i64 0, .int .i64 0, .int .i64 0, .slice none 0 0] 30) := Box.below (w := w5.alloc (.cells #[.int .i64 0, .string ⟨#[]⟩, .string ⟨#[]⟩, .int .i64 0, .int .i64 0, .int .i64 0, .int .i64 0, .slice none 0 0] 30)) (Box.new rfl) hNx.out.below (by simp); have hbS5a : Hid (Below wr.heap.size wr (w5.alloc (.cells #[.int .i64 0, .string ⟨#[]⟩, .string ⟨#[]⟩, .int .i64 0, .int .i64 0, .int .i64 0, .int .i64 0, .slice none 0 0] 30))) := hbS5.out.alloc hbS5.out.size _; have hglt2 : Hid (w5.heap.size < (w5.alloc (.cells #[.int .i64 0, .string ⟨#[]⟩, .string ⟨#[]⟩, .int .i64 0, .int .i64 0, .int .i64 0, .int .i64 0, .slice none 0 0] 30)).heap.size) := (by show _ < _; simp); have hbS6 : Hid (Below wr.heap.size wr w6) := (hbS5.out.alloc hbS5.out.size _).trans (hNx.out.below.mono (by have := hbS5.out.size; simp; omega)); have zb0 : w6.cell? ⟨w5.heap.size, 0, none⟩ = some (.int .i64 0) := hBX6.out.cell 0; have yb0 : w6.frozen? ⟨w5.heap.size, 0, none⟩ = false := hBX6.out.free 0; have zb1 : w6.cell? ⟨w5.heap.size, 1, none⟩ = some (.string ⟨#[]⟩) := hBX6.out.cell 1; have yb1 : w6.frozen? ⟨w5.heap.size, 1, none⟩ = false := hBX6.out.free 1; have zb2 : w6.cell? ⟨w5.heap.size, 2, none⟩ = some (.string ⟨#[]⟩) := hBX6.out.cell 2; have yb2 : w6.frozen? ⟨w5.heap.size, 2, none⟩ = false := hBX6.out.free 2; have zb3 : w6.cell? ⟨w5.heap.size, 3, none⟩ = some (.int .i64 0) := hBX6.out.cell 3; have yb3 : w6.frozen? ⟨w5.heap.size, 3, none⟩ = false := hBX6.out.free 3; have zb4 : w6.cell? ⟨w5.heap.size, 4, none⟩ = some (.int .i64 0) := hBX6.out.cell 4; have yb4 : w6.frozen? ⟨w5.heap.size, 4, none⟩ = false := hBX6.out.free 4; have zb5 : w6.cell? ⟨w5.heap.size, 5, none⟩ = some (.int .i64 0) := hBX6.out.cell 5; have yb5 : w6.frozen? ⟨w5.heap.size, 5, none⟩ = false := hBX6.out.free 5; have zb6 : w6.cell? ⟨w5.heap.size, 6, none⟩ = some (.int .i64 0) := hBX6.out.cell 6; have yb6 : w6.frozen? ⟨w5.heap.size, 6, none⟩ = false := hBX6.out.free 6; have zb7 : w6.cell? ⟨w5.heap.size, 7, none⟩ = some (.slice none 0 0) := hBX6.out.cell 7; have yb7 : w6.frozen? ⟨w5.heap.size, 7, none⟩ = false := hBX6.out.free 7)
              | fail)
          all_goals
            go_wp2_with fail
            go_meet
            refine ⟨_, ag, lg, cg, rfl, ?_, ?_, ?_⟩
            · show Box _ _ _ _
              first | (with_reducible exact Box.new rfl) | (with_reducible exact set8_box hBX6.out _ _ _ _ _ _ _ _)
            · show NewB _ _ _ _ _ _
              first | (with_reducible exact (snapEnd1 hbS5.out hNx.out _).1) | (with_reducible exact (snapEnd2 hbS5.out hNx.out _ (Nat.le_refl _) hglt.out _ _ _ _ _ _ _ _).1) | (with_reducible exact (snapEnd2 hbS5a.out hNx.out _ hbS5.out.size hglt2.out _ _ _ _ _ _ _ _).1)
            · show _ ∧ _
              first | (with_reducible exact (snapEnd1 hbS5.out hNx.out (.map #[] 0)).2) | (with_reducible exact (snapEnd2 hbS5.out hNx.out _ (Nat.le_refl _) hglt.out undef undef undef undef undef undef undef undef).2) | (with_reducible exact (snapEnd2 hbS5a.out hNx.out _ hbS5.out.size hglt2.out undef undef undef undef undef undef undef undef).2)
        case rest =>
          obtain ⟨g, ag, lg, cg, rfl, hBX, hNx, hgx⟩ := hcut
          refine ‹∀ (a : Act) (w : World), Code.wp _ _ _ a w → _› _ _ ?_
          clear HKS HS0 hBA HSA HK1 HK2 HC
          have hOc := Lib.hid (hO.out.below hNx.out.below)
          have hBc : Hid (Below w.heap.size w wc) := hBW.out.trans (hNx.out.below.mono hBW.out.size)
          have hBrc : B ≤ wc.heap.size := by have := hNx.out.below.size; have := hBr.out; omega
          by_cases hk : xk = 10
          · subst hk
            have hcase : xo = [115] ∨ xo = [116] ∨ xo = [117, 48] ∨ xo = [118] := by
              unfold snapNames at hxo
              simpa only [List.mem_cons, List.mem_nil_iff, or_false] using hxo
            rcases hcase with rfl | rfl | rfl | rfl
            · have g0 : wc.cell? ⟨g, 0, none⟩ = some (.int .i64 10) := hBX.out.cell 0
              have g2 : wc.cell? ⟨g, 2, none⟩ = some (.string ⟨#[115]⟩) := hBX.out.cell 2
              have hmx : Hid (modC ⟨10, xn, [115], xf, xc, xd⟩ = ⟨10, xn, [116], xf, xc, xd⟩) := by show _ = _; unfold modC; rw [if_pos ⟨rfl, rfl⟩]
              rw [hmx.out] at hnext
              have HN2 : Hid (cs ++ [unS, unT, snS, ftC N] ++ modsP os2 (i + 1) = cs ++ [unS, unT, snS, ftC N] ++ modsP os2 i ++ [(⟨10, xn, [116], xf, xc, xd⟩ : Cm)]) := by show _ = _; rw [hnext.out, ← List.append_assoc]
              clear hnext hmx
              have f2 : wc.frozen? ⟨g, 2, none⟩ = false := hBX.out.free 2
              have HXs : Hid (Box (wc.setCell ⟨g, 2, none⟩ (.string ⟨#[116]⟩)) g #[.int .i64 10, encStr xn, .string ⟨#[116]⟩, .int .i64 (xf : Int), .int .i64 (xc : Int), .int .i64 0, .int .i64 0, .slice ag lg cg] 30) := hBX.out.set 2 (.string ⟨#[116]⟩)
              have hNs : Hid (NewB wr (wc.setCell ⟨g, 2, none⟩ (.string ⟨#[116]⟩)) ag lg cg xd) := newB_set hNx.out (grown_set wc g 2 _) hgx.out.1 hgx.out.2
              have hOs : Hid (SOwn cmL (wc.setCell ⟨g, 2, none⟩ (.string ⟨#[116]⟩)) B 30 (fun _ => True) ao mo co (cs ++ [unS, unT, snS, ftC N] ++ modsP os2 i)) := hO.out.below hNs.out.below
              have hBs : Hid (Below w.heap.size w (wc.setCell ⟨g, 2, none⟩ (.string ⟨#[116]⟩))) := hBW.out.trans (hNs.out.below.mono hBW.out.size)
              have hszs : Hid ((wc.setCell ⟨g, 2, none⟩ (.string ⟨#[116]⟩)).heap.size = wc.heap.size) := by show _ = _; simp [World.setCell]
              have hBrs : B ≤ (wc.setCell ⟨g, 2, none⟩ (.string ⟨#[116]⟩)).heap.size := by have := hNs.out.below.size; have := hBr.out; omega
              have HX := Lib.hid (cm_next (w := wr) (w2 := (wc.setCell ⟨g, 2, none⟩ (.string ⟨#[116]⟩))) ⟨10, xn, [116], xf, xc, xd⟩ hNs.out hO.out)
              unfold cmV at HX
              simp only at HX
              clear hxo
              go_wp2_with (first
                | (refine wpList_load_box rfl 30 (.tmp 12) rfl g rfl 30 _ HXs.out _ Try.underlying30 rfl (by kernel_rfl) ?_)
                | (at_builtin; refine wpList_append_one (L := cmL) (wr := (wc.setCell ⟨g, 2, none⟩ (.string ⟨#[116]⟩))) rfl (.tmp 57) (.tmp 59) 23 rfl B 30 _ 96 Try.underlying23 info_cmd rfl (fun _ => True) ao mo co _ rfl hOs.out #[.int .i64 10, encStr xn, .string ⟨#[116]⟩, .int .i64 (xf : Int), .int .i64 (xc : Int), .int .i64 0, .int .i64 0, .slice ag lg cg] (⟨10, xn, [116], xf, xc, xd⟩ : Cm) (by rw [hszs.out]; rfl) _ HX.out.1 HX.out.2 (by unfold maxLen; omega) (by omega) hBrs ?_; intro a7 c7 w7 hown7 hg7; have HO7 := Lib.hid hown7; have HB7 : Hid (Below w.heap.size w w7) := SOwn.grown hOs.out hBs.out hwB.out hBs.out.size hg7; have HBr7 : Hid (B ≤ w7.heap.size) := Nat.le_trans hBrs hg7.size; clear hown7 hg7)
                | fail)
              go_roundw
              case rel => exact ⟨i + 1, a7, mo + 1, c7, by omega, by omega, by omega, by go_num, rfl, by show SOwn _ _ _ _ _ _ _ _ _; rw [HN2.out]; exact HO7.out, HB7, HBr7⟩
              case measure => (simp [intOf]; try omega)
            · have g0 : wc.cell? ⟨g, 0, none⟩ = some (.int .i64 10) := hBX.out.cell 0
              have g2 : wc.cell? ⟨g, 2, none⟩ = some (.string ⟨#[116]⟩) := hBX.out.cell 2
              have hmx : Hid (modC ⟨10, xn, [116], xf, xc, xd⟩ = ⟨10, xn, [116], xf, xc, xd⟩) := by show _ = _; unfold modC; rw [if_neg (fun h => absurd (show ([116] : Nm) = [115] from h.2) (by decide))]
              rw [hmx.out] at hnext
              have HN2 : Hid (cs ++ [unS, unT, snS, ftC N] ++ modsP os2 (i + 1) = cs ++ [unS, unT, snS, ftC N] ++ modsP os2 i ++ [(⟨10, xn, [116], xf, xc, xd⟩ : Cm)]) := by show _ = _; rw [hnext.out, ← List.append_assoc]
              clear hnext hmx
              have HXs : Hid (Box wc g #[.int .i64 10, encStr xn, .string ⟨#[116]⟩, .int .i64 (xf : Int), .int .i64 (xc : Int), .int .i64 0, .int .i64 0, .slice ag lg cg] 30) := hBX.out
              have hNs := hNx
              have hOs := hOc
              have hBs := hBc
              have hBrs := hBrc
              have HX := Lib.hid (cm_next (w := wr) (w2 := wc) ⟨10, xn, [116], xf, xc, xd⟩ hNs.out hO.out)
              unfold cmV at HX
              simp only at HX
              clear hxo
              go_wp2_with (first
                | (refine wpList_load_box rfl 30 (.tmp 12) rfl g rfl 30 _ HXs.out _ Try.underlying30 rfl (by kernel_rfl) ?_)
                | (at_builtin; refine wpList_append_one (L := cmL) (wr := wc) rfl (.tmp 57) (.tmp 59) 23 rfl B 30 _ 96 Try.underlying23 info_cmd rfl (fun _ => True) ao mo co _ rfl hOs.out #[.int .i64 10, encStr xn, .string ⟨#[116]⟩, .int .i64 (xf : Int), .int .i64 (xc : Int), .int .i64 0, .int .i64 0, .slice ag lg cg] (⟨10, xn, [116], xf, xc, xd⟩ : Cm) rfl _ HX.out.1 HX.out.2 (by unfold maxLen; omega) (by omega) hBrs ?_; intro a7 c7 w7 hown7 hg7; have HO7 := Lib.hid hown7; have HB7 : Hid (Below w.heap.size w w7) := SOwn.grown hOs.out hBs.out hwB.out hBs.out.size hg7; have HBr7 : Hid (B ≤ w7.heap.size) := Nat.le_trans hBrs hg7.size; clear hown7 hg7)
                | fail)
              go_roundw
              case rel => exact ⟨i + 1, a7, mo + 1, c7, by omega, by omega, by omega, by go_num, rfl, by show SOwn _ _ _ _ _ _ _ _ _; rw [HN2.out]; exact HO7.out, HB7, HBr7⟩
              case measure => (simp [intOf]; try omega)
            · have g0 : wc.cell? ⟨g, 0, none⟩ = some (.int .i64 10) := hBX.out.cell 0
              have g2 : wc.cell? ⟨g, 2, none⟩ = some (.string ⟨#[117, 48]⟩) := hBX.out.cell 2
              have hmx : Hid (modC ⟨10, xn, [117, 48], xf, xc, xd⟩ = ⟨10, xn, [117, 48], xf, xc, xd⟩) := by show _ = _; unfold modC; rw [if_neg (fun h => absurd (show ([117, 48] : Nm) = [115] from h.2) (by decide))]
              rw [hmx.out] at hnext
              have HN2 : Hid (cs ++ [unS, unT, snS, ftC N] ++ modsP os2 (i + 1) = cs ++ [unS, unT, snS, ftC N] ++ modsP os2 i ++ [(⟨10, xn, [117, 48], xf, xc, xd⟩ : Cm)]) := by show _ = _; rw [hnext.out, ← List.append_assoc]
              clear hnext hmx
              have HXs : Hid (Box wc g #[.int .i64 10, encStr xn, .string ⟨#[117, 48]⟩, .int .i64 (xf : Int), .int .i64 (xc : Int), .int .i64 0, .int .i64 0, .slice ag lg cg] 30) := hBX.out
              have hNs := hNx
              have hOs := hOc
              have hBs := hBc
              have hBrs := hBrc
              have HX := Lib.hid (cm_next (w := wr) (w2 := wc) ⟨10, xn, [117, 48], xf, xc, xd⟩ hNs.out hO.out)
              unfold cmV at HX
              simp only at HX
              clear hxo
              go_wp2_with (first
                | (refine wpList_load_box rfl 30 (.tmp 12) rfl g rfl 30 _ HXs.out _ Try.underlying30 rfl (by kernel_rfl) ?_)
                | (at_builtin; refine wpList_append_one (L := cmL) (wr := wc) rfl (.tmp 57) (.tmp 59) 23 rfl B 30 _ 96 Try.underlying23 info_cmd rfl (fun _ => True) ao mo co _ rfl hOs.out #[.int .i64 10, encStr xn, .string ⟨#[117, 48]⟩, .int .i64 (xf : Int), .int .i64 (xc : Int), .int .i64 0, .int .i64 0, .slice ag lg cg] (⟨10, xn, [117, 48], xf, xc, xd⟩ : Cm) rfl _ HX.out.1 HX.out.2 (by unfold maxLen; omega) (by omega) hBrs ?_; intro a7 c7 w7 hown7 hg7; have HO7 := Lib.hid hown7; have HB7 : Hid (Below w.heap.size w w7) := SOwn.grown hOs.out hBs.out hwB.out hBs.out.size hg7; have HBr7 : Hid (B ≤ w7.heap.size) := Nat.le_trans hBrs hg7.size; clear hown7 hg7)
                | fail)
              go_roundw
              case rel => exact ⟨i + 1, a7, mo + 1, c7, by omega, by omega, by omega, by go_num, rfl, by show SOwn _ _ _ _ _ _ _ _ _; rw [HN2.out]; exact HO7.out, HB7, HBr7⟩
              case measure => (simp [intOf]; try omega)
            · have g0 : wc.cell? ⟨g, 0, none⟩ = some (.int .i64 10) := hBX.out.cell 0
              have g2 : wc.cell? ⟨g, 2, none⟩ = some (.string ⟨#[118]⟩) := hBX.out.cell 2
              have hmx : Hid (modC ⟨10, xn, [118], xf, xc, xd⟩ = ⟨10, xn, [118], xf, xc, xd⟩) := by show _ = _; unfold modC; rw [if_neg (fun h => absurd (show ([118] : Nm) = [115] from h.2) (by decide))]
              rw [hmx.out] at hnext
              have HN2 : Hid (cs ++ [unS, unT, snS, ftC N] ++ modsP os2 (i + 1) = cs ++ [unS, unT, snS, ftC N] ++ modsP os2 i ++ [(⟨10, xn, [118], xf, xc, xd⟩ : Cm)]) := by show _ = _; rw [hnext.out, ← List.append_assoc]
              clear hnext hmx
              have HXs : Hid (Box wc g #[.int .i64 10, encStr xn, .string ⟨#[118]⟩, .int .i64 (xf : Int), .int .i64 (xc : Int), .int .i64 0, .int .i64 0, .slice ag lg cg] 30) := hBX.out
              have hNs := hNx
              have hOs := hOc
              have hBs := hBc
              have hBrs := hBrc
              have HX := Lib.hid (cm_next (w := wr) (w2 := wc) ⟨10, xn, [118], xf, xc, xd⟩ hNs.out hO.out)
              unfold cmV at HX
              simp only at HX
              clear hxo
              go_wp2_with (first
                | (refine wpList_load_box rfl 30 (.tmp 12) rfl g rfl 30 _ HXs.out _ Try.underlying30 rfl (by kernel_rfl) ?_)
                | (at_builtin; refine wpList_append_one (L := cmL) (wr := wc) rfl (.tmp 57) (.tmp 59) 23 rfl B 30 _ 96 Try.underlying23 info_cmd rfl (fun _ => True) ao mo co _ rfl hOs.out #[.int .i64 10, encStr xn, .string ⟨#[118]⟩, .int .i64 (xf : Int), .int .i64 (xc : Int), .int .i64 0, .int .i64 0, .slice ag lg cg] (⟨10, xn, [118], xf, xc, xd⟩ : Cm) rfl _ HX.out.1 HX.out.2 (by unfold maxLen; omega) (by omega) hBrs ?_; intro a7 c7 w7 hown7 hg7; have HO7 := Lib.hid hown7; have HB7 : Hid (Below w.heap.size w w7) := SOwn.grown hOs.out hBs.out hwB.out hBs.out.size hg7; have HBr7 : Hid (B ≤ w7.heap.size) := Nat.le_trans hBrs hg7.size; clear hown7 hg7)
                | fail)
              go_roundw
              case rel => exact ⟨i + 1, a7, mo + 1, c7, by omega, by omega, by omega, by go_num, rfl, by show SOwn _ _ _ _ _ _ _ _ _; rw [HN2.out]; exact HO7.out, HB7, HBr7⟩
              case measure => (simp [intOf]; try omega)
          · have hkq : ((xk : Int) == 10) = false := by simp; omega
            have g0 : wc.cell? ⟨g, 0, none⟩ = some (.int .i64 (xk : Int)) := hBX.out.cell 0
            have hmx : Hid (modC ⟨xk, xn, xo, xf, xc, xd⟩ = ⟨xk, xn, xo, xf, xc, xd⟩) := by show _ = _; unfold modC; rw [if_neg (fun h => hk h.1)]
            rw [hmx.out] at hnext
            have HN2 : Hid (cs ++ [unS, unT, snS, ftC N] ++ modsP os2 (i + 1) = cs ++ [unS, unT, snS, ftC N] ++ modsP os2 i ++ [(⟨xk, xn, xo, xf, xc, xd⟩ : Cm)]) := by show _ = _; rw [hnext.out, ← List.append_assoc]
            clear hnext
            have HX := Lib.hid (cm_next (w := wr) ⟨xk, xn, xo, xf, xc, xd⟩ hNx.out hO.out)
            unfold cmV at HX
            simp only at HX
            clear hk hmx
            go_wp2_with (first
              | (refine wpList_load_box rfl 30 (.tmp 12) rfl g rfl 30 _ hBX.out _ Try.underlying30 rfl (by kernel_rfl) ?_)
              | (at_builtin; refine wpList_append_one (L := cmL) (wr := wc) rfl (.tmp 57) (.tmp 59) 23 rfl B 30 _ 96 Try.underlying23 info_cmd rfl (fun _ => True) ao mo co _ rfl hOc.out #[.int .i64 (xk : Int), encStr xn, encStr xo, .int .i64 (xf : Int), .int .i64 (xc : Int), .int .i64 0, .int .i64 0, .slice ag lg cg] (⟨xk, xn, xo, xf, xc, xd⟩ : Cm) rfl _ HX.out.1 HX.out.2 (by unfold maxLen; omega) (by omega) hBrc ?_; intro a7 c7 w7 hown7 hg7; have HO7 := Lib.hid hown7; have HB7 : Hid (Below w.heap.size w w7) := SOwn.grown hOc.out hBc.out hwB.out hBc.out.size hg7; have HBr7 : Hid (B ≤ w7.heap.size) := Nat.le_trans hBrc hg7.size; clear hown7 hg7)
              | fail)
            go_roundw
            case rel => exact ⟨i + 1, a7, mo + 1, c7, by omega, by omega, by omega, by go_num, rfl, by show SOwn _ _ _ _ _ _ _ _ _; rw [HN2.out]; exact HO7.out, HB7, HBr7⟩
            case measure => (simp [intOf]; try omega)
      · have iln : ¬ ((i : Int) < 40) := by omega
        obtain ⟨ms, hms⟩ : ∃ ms, modsP os2 i = ms := ⟨_, rfl⟩
        have hg := HPS2.out i
        have hOKm := modsP_ok os2 i
        rw [hms] at hO hg hOKm
        have HG := Lib.hid hg
        have HOKm := Lib.hid hOKm
        have hLO : cs.length + 4 + ms.length = mo := by have := hO.out.1; simp at this; omega
        have HLO := Lib.hid hLO
        have hmo2 : mo ≤ 84 := by omega
        obtain ⟨wo, rfl⟩ : ∃ wo : World, wo = wr := ⟨_, rfl⟩
        have HLK : Hid (cmL.at_ wo (fun _ => False) (lkC N) #[.int .i64 8, encStr N, .string ⟨#[115]⟩, .int .i64 0, .int .i64 2000, .int .i64 0, .int .i64 0, .slice none 0 0].toList) := cells1 (lkC N) rfl
        have hFL : Hid (∀ b, False → True ∧ b < wo.heap.size ∧ (Value.slice ao mo co).ownBlock ≠ some b) := fun b hb => hb.elim
        have hBr' : B ≤ wo.heap.size := hBr.out
        clear hms hg hOKm hLO HPS2 hBr
        go_upto_region 13 with (at_builtin; refine wpList_append_one (L := cmL) (wr := wo) rfl (.tmp 61) (.tmp 64) 23 rfl B 30 _ 96 Try.underlying23 info_cmd rfl (fun _ => True) ao mo co _ rfl hO.out #[.int .i64 8, encStr N, .string ⟨#[115]⟩, .int .i64 0, .int .i64 2000, .int .i64 0, .int .i64 0, .slice none 0 0] (lkC N) rfl _ HLK.out hFL.out (by unfold maxLen; omega) (by omega) hBr' ?_; intro a9 c9 w9 hown9 hg9; have HO9 := Lib.hid hown9; have B9 : Hid (Below w.heap.size w w9) := SOwn.grown hO.out hBW.out hwB.out hBW.out.size hg9; clear hown9 hg9)
        obtain ⟨m, hm⟩ : ∃ m, Hid (mo + 1 = m) := ⟨_, rfl⟩
        rw [hm.out] at HO9 ⊢
        have hmb : m ≤ 85 := by have := hm.out; omega
        have eL : cs ++ [unS, unT, snS, ftC N] ++ ms ++ [lkC N] = cs ++ [unS, unT, snS] ++ [ftC N] ++ ms ++ [lkC N] := by simp
        have hO9 := HO9.out
        rw [eL] at hO9
        have HOall : ∀ c ∈ cs ++ [unS, unT, snS] ++ [ftC N] ++ ms ++ [lkC N], c.Ok := by
          obtain ⟨k1, k2, k3, k4, k5⟩ := HLT.out
          intro c hc
          simp only [List.mem_append, List.mem_cons, List.mem_nil_iff, or_false] at hc
          rcases hc with (((h | h) | h) | h) | h
          · exact HOK2.out c h
          · exact k1 c (by simpa using h)
          · rw [h]; exact k2
          · exact HOKm.out c h
          · rw [h]; exact k3
        go_wp2_with fail
        refine (pooledW a9 m c9 _ w9 (SOwn.srowLtP hO9) HOall (by omega)).mono ?_
        rintro e wa ⟨aa, ca, rfl, hRa, hBa⟩
        clear eL hO9 HOall
        obtain ⟨r, r0, g4, g3, g1, g2⟩ := HG.out
        have Ba : Hid (Below w.heap.size w wa) := B9.out.trans (hBa.out.mono B9.out.size)
        go_upto_region 14 with fail
        have hl2' := HL2.out
        have hm' := hm.out
        have hj3' := hj3.out
        have hLO' := HLO.out
        obtain ⟨j2, hj2⟩ : ∃ j2, cs.length + 2 = j2 := ⟨_, rfl⟩
        obtain ⟨n1, hn1⟩ : ∃ n1, cs.length + 4 + ms.length = n1 := ⟨_, rfl⟩
        rw [hl2', hj3'] at g1
        rw [hj2] at g4
        rw [hn1] at g2
        have lj3 : j3 < m := by omega
        have lj2 : j2 < m := by omega
        have ln1 : n1 < m := by omega
        have ij3 : (j3 : Int) < (m : Int) := by omega
        have ij2 : (j2 : Int) < (m : Int) := by omega
        have in1 : (n1 : Int) < (m : Int) := by omega
        have wj2 : IntKind.i64.wrap ((j3 : Int) - 1) = (j2 : Int) := by rw [IntWalk.i64_in _ (by omega)]; omega
        have wn1 : IntKind.i64.wrap ((m : Int) - 1) = (n1 : Int) := by rw [IntWalk.i64_in _ (by omega)]; omega
        have hmxa := hRa.out.hmax
        have hlea := hRa.out.hle
        unfold maxLen at hmxa
        obtain ⟨b, off, rA, aA, lA, cA, aA2, lA2, cA2, rfl, hb1, hA, hrA, hsA, zA0, zA1, zA2, zA3, zA4⟩ := tdAt hRa.out j2 (by omega)
        obtain rfl : r0 = rA := by rw [g4] at hA; exact Option.some.inj hA
        obtain ⟨b', off', rB, aB, lB, cB, aB2, lB2, cB2, e1, _, hB', hrB, hsB, zB0, zB1, zB2, zB3, zB4⟩ := tdAt hRa.out j3 (by omega)
        obtain ⟨rfl, rfl⟩ : b = b' ∧ off = off' := by simpa using e1
        clear e1
        obtain rfl : r = rB := by rw [g1] at hB'; exact Option.some.inj hB'
        obtain ⟨b', off', rC, aC, lC, cC, aC2, lC2, cC2, e1, _, hC', hrC, hsC, zC0, zC1, zC2, zC3, zC4⟩ := tdAt hRa.out n1 (by omega)
        obtain ⟨rfl, rfl⟩ : b = b' ∧ off = off' := by simpa using e1
        clear e1
        obtain rfl : r = rC := by rw [g2] at hC'; exact Option.some.inj hC'
        rw [g3] at zA0
        have zA0 : wa.cell? ⟨b, off + j2 * 5, none⟩ = some (.int .i64 0) := zA0
        have kA0 := cell_regrown zA0
        have kB0 := cell_regrown zB0
        have kB1 := cell_regrown zB1
        have kB2 := cell_regrown zB2
        have kB3 := cell_regrown zB3
        have kB4 := cell_regrown zB4
        have kC0 := cell_regrown zC0
        have kC1 := cell_regrown zC1
        have kC2 := cell_regrown zC2
        have kC3 := cell_regrown zC3
        have kC4 := cell_regrown zC4
        have CB : Hid (∀ d os, Calls Try.prog 12 #[] (grow (redrawn wa d) os) fun e w'' => e = .returned (.bool true) ∧ ∃ p : Regrown, w'' = grow (redrawn wa p.d) p.os) := fun d os => Calls.regrown_of ((begunW _).mono fun _ _ ⟨h1, h2⟩ => ⟨h1, h2.out⟩)
        have K1 : Hid (∀ d os, Calls Try.prog 13 #[.agg (tdV r.code r.size aB lB cB aB2 lB2 cB2), .agg (tdV r.code r.size aC lC cC aC2 lC2 cC2)] (grow (redrawn wa d) os) fun e w'' => e = .returned (.bool true) ∧ ∃ p : Regrown, w'' = grow (redrawn wa p.d) p.os) := fun d os => Calls.regrown_of ((sameToldW r _ _ aB lB cB aB2 lB2 cB2 aC lC cC aC2 lC2 cC2 _ (hrB.below (below_regrown wa d os)) (hsB.below (below_regrown wa d os)) (hrC.below (below_regrown wa d os)) (hsC.below (below_regrown wa d os))).mono fun _ _ ⟨h1, h2⟩ => ⟨h1, h2.out⟩)
        unfold tdV at K1
        clear g1 g2 g3 g4 hA hB' hC' hrA hsA hrB hsB hrC hsC zA1 zA2 zA3 zA4 hj2 hn1 hl2' hm' hj3' hLO' hRa hBa HG hb1
        clear zA0 zB0 zB1 zB2 zB3 zB4 zC0 zC1 zC2 zC3 zC4
        refine wp_region_quiet_below (by kernel_rfl) (by kernel_rfl) ?_
        repeat (go_big_quiet_step (first | (go_at_call 12; exact CB.out _ _) | (go_at_call 13; (with_reducible exact K1.out _ _))))
        refine wpQuiet_nil ?_
        intro _ hw'
        obtain ⟨⟨dq, osq⟩, hw''⟩ := hw'
        subst hw''
        have hbq := below_regrown wa dq osq
        obtain ⟨W2, hW2⟩ : ∃ V, V = grow (redrawn wa dq) osq := ⟨_, rfl⟩
        change Exit.then _ _ _ _ (grow (redrawn wa dq) osq)
        rw [← hW2] at hbq ⊢
        go_wp2_with fail
        go_ret
        exact ⟨rfl, Ba.out.trans (hbq.mono Ba.out.size)⟩
    · have il : ¬ ((i : Int) < lm) := by omega
      obtain ⟨ms, hms⟩ : ∃ ms, modsP os2 i = ms := ⟨_, rfl⟩
      have hg := HPS2.out i
      have hOKm := modsP_ok os2 i
      rw [hms] at hO hg hOKm
      have HG := Lib.hid hg
      have HOKm := Lib.hid hOKm
      have hLO : cs.length + 4 + ms.length = mo := by have := hO.out.1; simp at this; omega
      have HLO := Lib.hid hLO
      have hmo2 : mo ≤ 84 := by omega
      obtain ⟨wo, rfl⟩ : ∃ wo : World, wo = wr := ⟨_, rfl⟩
      have HLK : Hid (cmL.at_ wo (fun _ => False) (lkC N) #[.int .i64 8, encStr N, .string ⟨#[115]⟩, .int .i64 0, .int .i64 2000, .int .i64 0, .int .i64 0, .slice none 0 0].toList) := cells1 (lkC N) rfl
      have hFL : Hid (∀ b, False → True ∧ b < wo.heap.size ∧ (Value.slice ao mo co).ownBlock ≠ some b) := fun b hb => hb.elim
      have hBr' : B ≤ wo.heap.size := hBr.out
      clear hms hg hOKm hLO HPS2 hBr
      go_upto_region 13 with (at_builtin; refine wpList_append_one (L := cmL) (wr := wo) rfl (.tmp 61) (.tmp 64) 23 rfl B 30 _ 96 Try.underlying23 info_cmd rfl (fun _ => True) ao mo co _ rfl hO.out #[.int .i64 8, encStr N, .string ⟨#[115]⟩, .int .i64 0, .int .i64 2000, .int .i64 0, .int .i64 0, .slice none 0 0] (lkC N) rfl _ HLK.out hFL.out (by unfold maxLen; omega) (by omega) hBr' ?_; intro a9 c9 w9 hown9 hg9; have HO9 := Lib.hid hown9; have B9 : Hid (Below w.heap.size w w9) := SOwn.grown hO.out hBW.out hwB.out hBW.out.size hg9; clear hown9 hg9)
      obtain ⟨m, hm⟩ : ∃ m, Hid (mo + 1 = m) := ⟨_, rfl⟩
      rw [hm.out] at HO9 ⊢
      have hmb : m ≤ 85 := by have := hm.out; omega
      have eL : cs ++ [unS, unT, snS, ftC N] ++ ms ++ [lkC N] = cs ++ [unS, unT, snS] ++ [ftC N] ++ ms ++ [lkC N] := by simp
      have hO9 := HO9.out
      rw [eL] at hO9
      have HOall : ∀ c ∈ cs ++ [unS, unT, snS] ++ [ftC N] ++ ms ++ [lkC N], c.Ok := by
        obtain ⟨k1, k2, k3, k4, k5⟩ := HLT.out
        intro c hc
        simp only [List.mem_append, List.mem_cons, List.mem_nil_iff, or_false] at hc
        rcases hc with (((h | h) | h) | h) | h
        · exact HOK2.out c h
        · exact k1 c (by simpa using h)
        · rw [h]; exact k2
        · exact HOKm.out c h
        · rw [h]; exact k3
      go_wp2_with fail
      refine (pooledW a9 m c9 _ w9 (SOwn.srowLtP hO9) HOall (by omega)).mono ?_
      rintro e wa ⟨aa, ca, rfl, hRa, hBa⟩
      clear eL hO9 HOall
      obtain ⟨r, r0, g4, g3, g1, g2⟩ := HG.out
      have Ba : Hid (Below w.heap.size w wa) := B9.out.trans (hBa.out.mono B9.out.size)
      go_upto_region 14 with fail
      have hl2' := HL2.out
      have hm' := hm.out
      have hj3' := hj3.out
      have hLO' := HLO.out
      obtain ⟨j2, hj2⟩ : ∃ j2, cs.length + 2 = j2 := ⟨_, rfl⟩
      obtain ⟨n1, hn1⟩ : ∃ n1, cs.length + 4 + ms.length = n1 := ⟨_, rfl⟩
      rw [hl2', hj3'] at g1
      rw [hj2] at g4
      rw [hn1] at g2
      have lj3 : j3 < m := by omega
      have lj2 : j2 < m := by omega
      have ln1 : n1 < m := by omega
      have ij3 : (j3 : Int) < (m : Int) := by omega
      have ij2 : (j2 : Int) < (m : Int) := by omega
      have in1 : (n1 : Int) < (m : Int) := by omega
      have wj2 : IntKind.i64.wrap ((j3 : Int) - 1) = (j2 : Int) := by rw [IntWalk.i64_in _ (by omega)]; omega
      have wn1 : IntKind.i64.wrap ((m : Int) - 1) = (n1 : Int) := by rw [IntWalk.i64_in _ (by omega)]; omega
      have hmxa := hRa.out.hmax
      have hlea := hRa.out.hle
      unfold maxLen at hmxa
      obtain ⟨b, off, rA, aA, lA, cA, aA2, lA2, cA2, rfl, hb1, hA, hrA, hsA, zA0, zA1, zA2, zA3, zA4⟩ := tdAt hRa.out j2 (by omega)
      obtain rfl : r0 = rA := by rw [g4] at hA; exact Option.some.inj hA
      obtain ⟨b', off', rB, aB, lB, cB, aB2, lB2, cB2, e1, _, hB', hrB, hsB, zB0, zB1, zB2, zB3, zB4⟩ := tdAt hRa.out j3 (by omega)
      obtain ⟨rfl, rfl⟩ : b = b' ∧ off = off' := by simpa using e1
      clear e1
      obtain rfl : r = rB := by rw [g1] at hB'; exact Option.some.inj hB'
      obtain ⟨b', off', rC, aC, lC, cC, aC2, lC2, cC2, e1, _, hC', hrC, hsC, zC0, zC1, zC2, zC3, zC4⟩ := tdAt hRa.out n1 (by omega)
      obtain ⟨rfl, rfl⟩ : b = b' ∧ off = off' := by simpa using e1
      clear e1
      obtain rfl : r = rC := by rw [g2] at hC'; exact Option.some.inj hC'
      rw [g3] at zA0
      have zA0 : wa.cell? ⟨b, off + j2 * 5, none⟩ = some (.int .i64 0) := zA0
      have kA0 := cell_regrown zA0
      have kB0 := cell_regrown zB0
      have kB1 := cell_regrown zB1
      have kB2 := cell_regrown zB2
      have kB3 := cell_regrown zB3
      have kB4 := cell_regrown zB4
      have kC0 := cell_regrown zC0
      have kC1 := cell_regrown zC1
      have kC2 := cell_regrown zC2
      have kC3 := cell_regrown zC3
      have kC4 := cell_regrown zC4
      have CB : Hid (∀ d os, Calls Try.prog 12 #[] (grow (redrawn wa d) os) fun e w'' => e = .returned (.bool true) ∧ ∃ p : Regrown, w'' = grow (redrawn wa p.d) p.os) := fun d os => Calls.regrown_of ((begunW _).mono fun _ _ ⟨h1, h2⟩ => ⟨h1, h2.out⟩)
      have K1 : Hid (∀ d os, Calls Try.prog 13 #[.agg (tdV r.code r.size aB lB cB aB2 lB2 cB2), .agg (tdV r.code r.size aC lC cC aC2 lC2 cC2)] (grow (redrawn wa d) os) fun e w'' => e = .returned (.bool true) ∧ ∃ p : Regrown, w'' = grow (redrawn wa p.d) p.os) := fun d os => Calls.regrown_of ((sameToldW r _ _ aB lB cB aB2 lB2 cB2 aC lC cC aC2 lC2 cC2 _ (hrB.below (below_regrown wa d os)) (hsB.below (below_regrown wa d os)) (hrC.below (below_regrown wa d os)) (hsC.below (below_regrown wa d os))).mono fun _ _ ⟨h1, h2⟩ => ⟨h1, h2.out⟩)
      unfold tdV at K1
      clear g1 g2 g3 g4 hA hB' hC' hrA hsA hrB hsB hrC hsC zA1 zA2 zA3 zA4 hj2 hn1 hl2' hm' hj3' hLO' hRa hBa HG hb1
      clear zA0 zB0 zB1 zB2 zB3 zB4 zC0 zC1 zC2 zC3 zC4
      refine wp_region_quiet_below (by kernel_rfl) (by kernel_rfl) ?_
      repeat (go_big_quiet_step (first | (go_at_call 12; exact CB.out _ _) | (go_at_call 13; (with_reducible exact K1.out _ _))))
      refine wpQuiet_nil ?_
      intro _ hw'
      obtain ⟨⟨dq, osq⟩, hw''⟩ := hw'
      subst hw''
      have hbq := below_regrown wa dq osq
      obtain ⟨W2, hW2⟩ : ∃ V, V = grow (redrawn wa dq) osq := ⟨_, rfl⟩
      change Exit.then _ _ _ _ (grow (redrawn wa dq) osq)
      rw [← hW2] at hbq ⊢
      go_wp2_with fail
      go_ret
      exact ⟨rfl, Ba.out.trans (hbq.mono Ba.out.size)⟩
end Go.Proofs.Ytkbfohbpndjcpaa
