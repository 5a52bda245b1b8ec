/- The drive laws: DriveStays. -/
import Derived.Test.YteidmdakglkkfaaDrW
namespace Go.Proofs.Yteidmdakglkkfaa
open Go.RowKit
set_option linter.unusedVariables false
set_option maxRecDepth 100000

theorem stays {js ks : List JobV} (keep : Int) (hj : ∀ j ∈ js, Mild j) (hk : ∀ j ∈ ks, j.ok ∧ (j.kind = 1 ∨ j.kind = 2)) (i : Nat) :
    dataD (runS DS.new ((js ++ [plainJ 3 0]) ++ ks ++ [plainJ 4 keep])) i = dataD (runS DS.new (js ++ [plainJ 3 0])) i ∨
    ∃ j ∈ ks, (j.kind = 1 ∧ j.at_ = i) ∧ j.data.getD [] = dataD (runS DS.new ((js ++ [plainJ 3 0]) ++ ks ++ [plainJ 4 keep])) i := by
  have e : runS DS.new ((js ++ [plainJ 3 0]) ++ ks ++ [plainJ 4 keep]) = runS (runS (runS DS.new (js ++ [plainJ 3 0])) ks) [plainJ 4 keep] := by
    rw [runS_append DS.new _ [plainJ 4 keep], runS_append DS.new (js ++ [plainJ 3 0]) ks]
  rw [e]
  have h0 : Sound (runS DS.new js) := run_sound new_sound js hj
  have hs0 : runS DS.new (js ++ [plainJ 3 0]) = ⟨settleN (fun _ => true) (runS DS.new js).plate (runS DS.new js).waits (runS DS.new js).waits.length, [], (runS DS.new js).dead⟩ := by
    rw [runS_append, runS_cons, step_flush h0.cl.1 rfl]; rfl
  have hS0 : Sound (runS DS.new (js ++ [plainJ 3 0])) := by rw [hs0]; exact settle_sound h0
  have hw0 : (runS DS.new (js ++ [plainJ 3 0])).waits = [] := by rw [hs0]
  clear e
  generalize runS DS.new (js ++ [plainJ 3 0]) = s0 at *
  clear hs0
  obtain ⟨hp, hw⟩ := puts_run hS0 ks hk
  have hS1 : Sound (runS s0 ks) := run_sound hS0 ks (fun j h => ⟨(hk j h).1, by have := (hk j h).2; omega⟩)
  have e2 : runS (runS s0 ks) [plainJ 4 keep] = ⟨settleN (bitSet keep) (runS s0 ks).plate (runS s0 ks).waits (runS s0 ks).waits.length, [], (runS s0 ks).dead⟩ := by
    rw [runS_cons, step_crash hS1.cl.1 rfl]; rfl
  have hS2 := settle_sound (f := bitSet keep) hS1
  rw [e2, dataD_nil hS2.cl]
  have h00 : dataD s0 i = vp s0.plate i := by
    obtain ⟨pl, ws, d⟩ := s0
    obtain rfl : ws = [] := hw0
    exact dataD_nil hS0.cl i
  rcases crash_view (f := bitSet keep) hS1 i _ (Nat.le_refl _) with h | ⟨x, hx, hxi, h⟩
  · left; rw [h, hp, h00]
  · right
    rw [hw, hw0, List.nil_append] at hx
    obtain ⟨j, hj2, rfl⟩ := List.mem_map.1 hx
    obtain ⟨hj3, hj4⟩ := List.mem_filter.1 hj2
    exact ⟨j, hj3, ⟨by simpa using hj4, hxi⟩, h.symm⟩
def putB (ks : List JobV) (i : Nat) : Bool := ks.any (fun j => decide (j.kind = 1 ∧ j.at_ = i))
def hadB (ks : List JobV) (i : Nat) (c : List Int) : Bool := ks.any (fun j => decide ((j.kind = 1 ∧ j.at_ = i) ∧ j.data.getD [] = c))
theorem putB_snoc (ks : List JobV) (j : JobV) (i : Nat) : putB (ks ++ [j]) i = (putB ks i || decide (j.kind = 1 ∧ j.at_ = i)) := by simp [putB, List.any_append]
theorem hadB_snoc (ks : List JobV) (j : JobV) (i : Nat) (c : List Int) : hadB (ks ++ [j]) i c = (hadB ks i c || decide ((j.kind = 1 ∧ j.at_ = i) ∧ j.data.getD [] = c)) := by simp [hadB, List.any_append]
theorem stays_bool {js ks : List JobV} (keep : Int) (hj : ∀ j ∈ js, Mild j) (hk : ∀ j ∈ ks, j.ok ∧ (j.kind = 1 ∨ j.kind = 2)) (i : Nat) {b c : List Int}
    (hb : b = dataD (runS DS.new (js ++ [plainJ 3 0])) i) (hc : c = dataD (runS DS.new ((js ++ [plainJ 3 0]) ++ ks ++ [plainJ 4 keep])) i) :
    (decide (b = c) || hadB ks i c) = true ∧ (putB ks i = false → decide (b = c) = true) := by
  subst hb hc
  rcases stays keep hj hk i with h | ⟨j, hjk, h1, h2⟩
  · rw [decide_eq_true h.symm]; exact ⟨rfl, fun _ => rfl⟩
  · have e1 : hadB ks i (dataD (runS DS.new ((js ++ [plainJ 3 0]) ++ ks ++ [plainJ 4 keep])) i) = true := List.any_eq_true.2 ⟨j, hjk, decide_eq_true ⟨h1, h2⟩⟩
    have e2 : putB ks i = true := List.any_eq_true.2 ⟨j, hjk, decide_eq_true h1⟩
    exact ⟨by rw [e1, Bool.or_true], fun h => by rw [e2] at h; cases h⟩
set_option maxHeartbeats 8000000 in
theorem driveStays {F G : Nat → Prop} (a : Option Addr) (len cap : Nat) (xs : List ActV) (b : Option Addr) (lenb capb : Nat) (ys : List ActV) (keep : Int) (w : World) (h : SRow actL w F a len cap xs) (hb : SRow actL w G b lenb capb ys) :
    Calls Try.prog 11 #[.slice a len cap, .slice b lenb capb, .int .i64 keep] w fun e w' => e = .returned (.bool true) ∧ Below w.heap.size w w' := by
  obtain ⟨js, hjs⟩ : ∃ js, Hid (jobsOf [1, 3, 4] xs 40 = js) := ⟨_, rfl⟩
  obtain ⟨ks, hks⟩ : ∃ ks, Hid (jobsOf [1, 2] ys 20 = ks) := ⟨_, rfl⟩
  have hmild : Hid (∀ j ∈ js, Mild j) := by
    intro j hj
    rw [← hjs.out] at hj
    obtain ⟨h1, h2⟩ := jobsOf_mem (by decide) (by decide) hj
    refine ⟨h1, ?_⟩
    simp only [List.mem_cons, List.not_mem_nil, or_false] at h2
    omega
  have hkk : Hid (∀ j ∈ ks, j.ok ∧ (j.kind = 1 ∨ j.kind = 2)) := by
    intro j hj
    rw [← hks.out] at hj
    obtain ⟨h1, h2⟩ := jobsOf_mem (by decide) (by decide) hj
    refine ⟨h1, ?_⟩
    simp only [List.mem_cons, List.not_mem_nil, or_false] at h2
    omega
  have hpm : ∀ kd kp, kd = 3 ∨ kd = 4 → Mild (plainJ kd kp) := fun kd kp hkd => ⟨plainJ_ok hkd, by show kd = 1 ∨ kd = 2 ∨ kd = 3 ∨ kd = 4 ∨ kd = 6; omega⟩
  have hm1 : Hid (∀ j ∈ js ++ [plainJ 3 0], Mild j) := by
    intro j hj
    rcases List.mem_append.1 hj with h | h
    · exact hmild.out j h
    · obtain rfl := List.mem_singleton.1 h; exact hpm 3 0 (.inl rfl)
  have hm2 : Hid (∀ j ∈ js ++ [plainJ 3 0] ++ ks ++ [plainJ 4 keep], Mild j) := by
    intro j hj
    rcases List.mem_append.1 hj with h | h
    · rcases List.mem_append.1 h with h | h
      · exact hm1.out j h
      · exact ⟨(hkk.out j h).1, by have := (hkk.out j h).2; omega⟩
    · obtain rfl := List.mem_singleton.1 h; exact hpm 4 keep (.inr rfl)
  clear hpm
  have hlen : js.length ≤ 40 := by rw [← hjs.out]; exact jobsOf_length ..
  have hlenk : ks.length ≤ 20 := by rw [← hks.out]; exact jobsOf_length ..
  have HX := Lib.hid h
  have HY := Lib.hid hb
  clear h hb
  go_enter Try.func11, Try.ntmps11
  go_wp2_with fail
  have RK := row_lit (k := .i64) w [1, 3, 4] 3 #[.int .i64 1, .int .i64 3, .int .i64 4] rfl (by decide) (by unfold maxLen; decide)
  obtain ⟨V, hV⟩ : ∃ V, V = w.alloc (.cells #[.int .i64 1, .int .i64 3, .int .i64 4] 3) := ⟨_, rfl⟩
  have LA : Below w.heap.size w V := by rw [hV]; exact Below_alloc1 _
  rw [← hV] at RK ⊢
  refine (actsD a len cap xs 40 w.heap.size 0 3 3 [1, 3, 4] V (HX.out.below LA) RK (by decide) (by decide)).mono ?_
  rintro e w1 ⟨a1, l1, c1, rfl, hO, hb1⟩
  rw [show (xs.take 40).map (jobOf [1, 3, 4]) = js from hjs.out] at hO
  have hl1 := hO.1
  have HO := Lib.hid hO
  have L1 := Lib.hid (LA.trans (hb1.mono LA.size))
  have hVs : V.heap.size ≤ w1.heap.size := hb1.size
  have hwV := LA.size
  clear hO hb1 LA RK hV
  go_wp2_with (at_builtin; refine wpList_append_one (L := jobL) (wr := w1) rfl (.tmp 19) (.tmp 21) 75 rfl V.heap.size 78 _ 48 Try.underlying75 info_job rfl (Kind w1 5) a1 l1 c1 _ rfl HO.out #[.int .i64 3, .int .i64 0, .int .i64 0, .slice none 0 0] (plainJ 3 0) rfl (fun _ => False) (plainJ_at _ _ _) (fun b hb => hb.elim) (by unfold maxLen; omega) (by omega) hVs ?_)
  intro a2 c2 w2 hown2 hg2
  have K2 : ∀ ts : List TypeId, 78 ∉ ts → Keeps ts w1 w2 := fun ts hts => Keeps.grown hg2 (fun k hk t ht hkk => hts (by rw [← hkk.ne (HO.out.kind k hk)]; exact ht))
  have L2 := Lib.hid (HO.out.grown L1.out hwV (by omega) hg2)
  have O2 : Hid (SOwn jobL w2 V.heap.size 78 (Kind w2 5) a2 (l1 + 1) c2 (js ++ [plainJ 3 0])) := hown2.mono (Nat.le_refl _) (fun b hb => (K2 [5] (by decide)).kind (by simp) hb)
  have HY2 := Lib.hid (HY.out.below L2.out)
  clear hown2 hg2 K2 HO L1
  go_wp2_with fail
  have RK := row_lit (k := .i64) w2 [1, 2] 3 #[.int .i64 1, .int .i64 2] rfl (by decide) (by unfold maxLen; decide)
  obtain ⟨V2, hV2⟩ : ∃ V, V = w2.alloc (.cells #[.int .i64 1, .int .i64 2] 3) := ⟨_, rfl⟩
  have LA : Below w2.heap.size w2 V2 := by rw [hV2]; exact Below_alloc1 _
  rw [← hV2] at RK ⊢
  refine (actsD b lenb capb ys 20 w2.heap.size 0 2 2 [1, 2] V2 (HY2.out.below LA) RK (by decide) (by decide)).mono ?_
  rintro e w3 ⟨a3, l3, c3, rfl, hO, hb3⟩
  rw [show (ys.take 20).map (jobOf [1, 2]) = ks from hks.out] at hO
  have hl3 := hO.1
  have hm3 := hO.hmax
  have hc3 := hO.hle
  unfold maxLen at hm3
  have hb23 := LA.trans (hb3.mono LA.size)
  have L3 := Lib.hid (L2.out.trans (hb23.mono L2.out.size))
  have J3 := Lib.hid (O2.out.jrow.below hb23)
  have K3 := Lib.hid hO.jrow
  clear hO hb3 hb23 LA RK hV2 O2 L2 HY2
  go_wp2_with fail
  refine (getsD a2 (l1 + 1) c2 (js ++ [plainJ 3 0]) w3 J3.out (by omega) (fun j hj => (hm1.out j hj).1) (run_sound new_sound _ hm1.out).cl).mono ?_
  rintro e w4 ⟨aB, cB, rfl, oB, bB⟩
  have L4 := Lib.hid (L3.out.trans (bB.mono L3.out.size))
  have J4 := Lib.hid (J3.out.below bB)
  have K4 := Lib.hid (K3.out.below bB)
  have VB := Lib.hid oB.sRow
  clear oB bB L3 J3 K3
  obtain ⟨u4, v4, p4, _⟩ := J4.out
  obtain ⟨u5, v5, p5, _⟩ := K4.out
  have hv4 := Lib.hid v4
  have hp4 := Lib.hid p4
  have hv5 := Lib.hid v5
  have hp5 := Lib.hid p5
  have hle1 : (js ++ [plainJ 3 0]).length = l1 + 1 := by simp [hl1]
  clear v4 p4 v5 p5
  go_wp2_with (at_builtin; refine wpList_append_data (L := jobL) rfl (.const (.slice none 0 0)) (.tmp 32) 75 rfl w4.heap.size 78 _ 48 Try.underlying75 info_job rfl (Kind w4 5) none 0 0 [] rfl (SOwn.nil ..) a2 (l1 + 1) c2 (js ++ [plainJ 3 0]) u4 rfl hv4.out (Kind w4 5) hp4.out hle1 (fun b hb => ⟨hb, hb.lt, by simp [Value.ownBlock]⟩) (by unfold maxLen; omega) (by omega) (Nat.le_refl _) ?_)
  intro a5 c5 w5 o5 g5
  obtain ⟨b5, q5⟩ := copied rfl o5 g5
  have B5 := Lib.hid b5
  have Q5 := Lib.hid q5
  have V5 := Lib.hid (hv5.out.below b5)
  have P5 : Hid (Pt jobL w5 (Kind w5 5) ks u5) := hp5.out.keep (fun b hk => (Keeps.below [5] b5).kind (by simp) hk) (fun b hk hlt => b5.block b hlt)
  clear o5 g5 b5 q5 hv4 hp4 hv5 hp5
  go_wp2_with (at_builtin; refine wpList_append_data (L := jobL) rfl (.tmp 33) (.tmp 34) 75 rfl w4.heap.size 78 _ 48 Try.underlying75 info_job rfl (Kind w5 5) a5 (l1 + 1) c5 _ rfl Q5.out a3 l3 c3 ks u5 rfl V5.out (Kind w5 5) P5.out hl3 (hF2_own Q5.out) (by unfold maxLen; omega) (by omega) B5.out.size ?_)
  intro a6 c6 w6 o6 g6
  obtain ⟨b6, q6⟩ := oneMore B5.out Q5.out o6 g6
  have B6 := Lib.hid b6
  have Q6 := Lib.hid q6
  clear o6 g6 b6 q6 B5 Q5 V5 P5
  go_wp2_with (at_builtin; refine wpList_append_one (L := jobL) (wr := w6) rfl (.tmp 35) (.tmp 38) 75 rfl w4.heap.size 78 _ 48 Try.underlying75 info_job rfl (Kind w6 5) a6 (l1 + 1 + l3) c6 _ rfl Q6.out #[.int .i64 4, .int .i64 0, .int .i64 keep, .slice none 0 0] (plainJ 4 keep) rfl (fun _ => False) (plainJ_at _ _ _) (fun b hb => hb.elim) (by unfold maxLen; omega) (by omega) B6.out.size ?_)
  intro a7 c7 w7 o7 g7
  obtain ⟨b7, q7⟩ := oneMore B6.out Q6.out o7 g7
  have B7 := Lib.hid b7
  have Q7 := Lib.hid q7
  clear o7 g7 b7 q7 B6 Q6
  go_wp2_with fail
  have hl7 : (js ++ [plainJ 3 0] ++ ks ++ [plainJ 4 keep]).length = l1 + 1 + l3 + 1 := by simp [hl1, hl3]; omega
  have J7 : JRow w7 a7 (l1 + 1 + l3 + 1) c7 (js ++ [plainJ 3 0] ++ ks ++ [plainJ 4 keep]) := by
    have := Q7.out.jrow
    simpa using this
  refine (getsD a7 (l1 + 1 + l3 + 1) c7 (js ++ [plainJ 3 0] ++ ks ++ [plainJ 4 keep]) w7 J7 (by omega) (fun j hj => (hm2.out j hj).1) (run_sound new_sound _ hm2.out).cl).mono ?_
  rintro e w8 ⟨aC, cC, rfl, oC, bC⟩
  have b48 := B7.out.trans (bC.mono B7.out.size)
  have L8 := Lib.hid (L4.out.trans (b48.mono L4.out.size))
  have K8 := Lib.hid (K4.out.below b48)
  have VB8 := Lib.hid (VB.out.below b48)
  have VC := Lib.hid oC.sRow
  obtain ⟨XB, hXB⟩ : ∃ X, Hid (viewN (runS DS.new (js ++ [plainJ 3 0])) 8 = X) := ⟨_, rfl⟩
  obtain ⟨XC, hXC⟩ : ∃ X, Hid (viewN (runS DS.new (js ++ [plainJ 3 0] ++ ks ++ [plainJ 4 keep])) 8 = X) := ⟨_, rfl⟩
  rw [hXB.out] at VB8
  rw [hXC.out] at VC
  have HST : Hid (∀ i, i < 8 → (decide (XB.getD i [] = XC.getD i []) || hadB ks i (XC.getD i [])) = true ∧ (putB ks i = false → decide (XB.getD i [] = XC.getD i []) = true)) := by
    intro i hi
    refine stays_bool keep hmild.out hkk.out i ?_ ?_
    · rw [← hXB.out, viewN_getD _ _ _ hi]
    · rw [← hXC.out, viewN_getD _ _ _ hi]
  have hcB := VB8.out.hle
  have hmB := VB8.out.hmax
  have hcC := VC.out.hle
  have hmC := VC.out.hmax
  unfold maxLen at hmB hmC
  clear oC bC b48 J7 B7 Q7 VB J4 K4 L4 hl7 hXB hXC hle1
  go_wp2_with fail
  go_loopw [13] (fun iv wr => ∃ (i q : Nat), i ≤ 8 ∧ iv = .int .i64 i ∧ wr = w8.drewN q) (fun iv _ => 8 - (intOf iv).toNat)
  case atStart => exact ⟨0, 0, by omega, rfl, rfl⟩
  case round =>
    obtain ⟨i, q, hi, rfl, hq0⟩ := hrel
    have HQ : Hid (wr = w8.drewN q) := hq0
    have VBr : Hid (SRow (Lay.int .u8).slice wr (fun _ => True) aB 8 cB XB) := by rw [hq0]; exact VB8.out.drewN q
    have VCr : Hid (SRow (Lay.int .u8).slice wr (fun _ => True) aC 8 cC XC) := by rw [hq0]; exact VC.out.drewN q
    have Kr : Hid (JRow wr a3 l3 c3 ks) := by rw [hq0]; exact K8.out.below (below_drewN (Below.refl _ _) q)
    clear hq0
    by_cases hlt : i < 8
    · have i8 : (i : Int) < 8 := by omega
      obtain ⟨b1, o1, a1', l1', c1', rfl, e1, r1⟩ := elem0 VBr.out i hlt
      obtain ⟨b2, o2, a2', l2', c2', rfl, e2, r2⟩ := elem0 VCr.out i hlt
      obtain ⟨bi, hbi⟩ : ∃ x, Hid (XB.getD i [] = x) := ⟨_, rfl⟩
      obtain ⟨ci, hci⟩ : ∃ x, Hid (XC.getD i [] = x) := ⟨_, rfl⟩
      rw [hbi.out] at r1
      rw [hci.out] at r2
      have HSTi := Lib.hid (HST.out i hlt)
      rw [hbi.out, hci.out] at HSTi
      have R1 := Lib.hid r1
      have R2 := Lib.hid r2
      clear r1 r2
      go_wp2_with fail
      go_still_tail 8, (by kernel_rfl)
      change wpList _ _ _ _ _ wr.drew
      obtain ⟨W, hW⟩ : ∃ W, W = wr.drew := ⟨_, rfl⟩
      rw [← hW]
      have LW : Below wr.heap.size wr W := by rw [hW]; exact below_drewN (Below.refl _ _) 1
      have HWQ : Hid (W = w8.drewN (q + 1)) := by show _ = _; rw [hW, HQ.out]; rfl
      have R1W := Lib.hid (R1.out.below LW)
      have R2W := Lib.hid (R2.out.below LW)
      clear hW LW
      go_wp2_with fail
      refine (sameBytes _ _ _ _ _ _ _ _ W R1W.out R2W.out).mono ?_
      rintro e w9 ⟨rfl, q2, rfl⟩
      obtain ⟨hb0, hhb0⟩ : ∃ b, Hid (decide (bi = ci) = b) := ⟨_, rfl⟩
      rw [hhb0.out]
      rw [hhb0.out] at HSTi
      obtain ⟨W9, hW9⟩ : ∃ W', W' = W.drewN q2 := ⟨_, rfl⟩
      rw [← hW9]
      have HW9 : Hid (W9 = w8.drewN (q + 1 + q2)) := by show _ = _; rw [hW9, HWQ.out]; exact World.drewN_drewN _ _ _
      clear hW9 e1 e2
      go_wp2_with fail
      go_loopw [14, 15, 16] (fun pv hv kv wx => ∃ (k q3 : Nat), k ≤ l3 ∧ kv = .int .i64 k ∧ pv = .bool (putB (ks.take k) i) ∧ hv = .bool (hb0 || hadB (ks.take k) i ci) ∧ wx = w8.drewN q3) (fun _ _ kv _ => l3 - (intOf kv).toNat)
      case atStart => exact ⟨0, q + 1 + q2, by omega, rfl, rfl, by show _ = Value.bool (hb0 || false); rw [Bool.or_false], HW9.out⟩
      case round =>
        obtain ⟨k, q3, hk, rfl, rfl, rfl, hq3⟩ := hrel
        have HQ3 : Hid (wr = w8.drewN q3) := hq3
        have VBx : Hid (SRow (Lay.int .u8).slice wr (fun _ => True) (some ⟨b1, o1, none⟩) 8 cB XB) := by rw [hq3]; exact VB8.out.drewN q3
        have VCx : Hid (SRow (Lay.int .u8).slice wr (fun _ => True) (some ⟨b2, o2, none⟩) 8 cC XC) := by rw [hq3]; exact VC.out.drewN q3
        have Kx : Hid (JRow wr a3 l3 c3 ks) := by rw [hq3]; exact K8.out.below (below_drewN (Below.refl _ _) q3)
        clear hq3
        obtain ⟨b1', o1', ax1, lx1, cx1, heq1, f1, s1⟩ := elem0 VBx.out i hlt
        obtain ⟨rfl, rfl⟩ : b1 = b1' ∧ o1 = o1' := by simpa using heq1
        obtain ⟨b2', o2', ax2, lx2, cx2, heq2, f2, s2⟩ := elem0 VCx.out i hlt
        obtain ⟨rfl, rfl⟩ : b2 = b2' ∧ o2 = o2' := by simpa using heq2
        rw [hbi.out] at s1
        rw [hci.out] at s2
        have S1 := Lib.hid s1
        have S2 := Lib.hid s2
        clear s1 s2 heq1 heq2
        obtain ⟨pb, hpb⟩ : ∃ p, Hid (putB (ks.take k) i = p) := ⟨_, rfl⟩
        obtain ⟨hb, hhb⟩ : ∃ p, Hid ((hb0 || hadB (ks.take k) i ci) = p) := ⟨_, rfl⟩
        rw [hpb.out, hhb.out]
        by_cases hkl : k < l3
        · obtain ⟨g1, off, vs, rfl, _, hgl, hat, hc⟩ := Kx.out.srow.get k hkl
          obtain ⟨j, hj⟩ : ∃ j, ks[k]? = some j := ⟨_, List.getElem?_eq_getElem (by omega)⟩
          obtain ⟨ax, lx, cx, rfl, hdat⟩ := hat j hj
          have hjok := (hkk.out j (List.mem_of_getElem? hj)).1
          have htk : ks.take (k + 1) = ks.take k ++ [j] := by rw [List.take_add_one, hj]; rfl
          have HP1 : Hid (putB (ks.take (k + 1)) i = (pb || decide (j.kind = 1 ∧ j.at_ = i))) := by show _ = _; rw [htk, putB_snoc, hpb.out]
          have HH1 : Hid ((hb0 || hadB (ks.take (k + 1)) i ci) = (hb || decide ((j.kind = 1 ∧ j.at_ = i) ∧ j.data.getD [] = ci))) := by show _ = _; rw [htk, hadB_snoc, ← Bool.or_assoc, hhb.out]
          have e0 : wr.cell? ⟨g1, off + k * 4, none⟩ = some (.int .i64 j.kind) := hc 0 (by decide)
          have e1 : wr.cell? ⟨g1, off + k * 4 + 1, none⟩ = some (.int .i64 (j.at_ : Int)) := hc 1 (by decide)
          have e3 : wr.cell? ⟨g1, off + k * 4 + 3, none⟩ = some (.slice ax lx cx) := hc 3 (by decide)
          have kl : (k : Int) < (l3 : Int) := by omega
          clear hc hat htk
          by_cases hp : j.kind = 1 ∧ j.at_ = i
          · obtain ⟨d, hd1, hd2⟩ := hjok.2.2.2 (.inl hp.1)
            obtain ⟨rfl, hrow⟩ : lx = 128 ∧ Row .u8 wr ax lx cx d := by
              rcases hdat with ⟨h, _⟩ | ⟨d', h, h1, h2, h3⟩
              · rw [hd1] at h; cases h
              · rw [hd1] at h; injection h with h; subst h; exact ⟨h1, h3.toRow⟩
            have t1 : (j.kind == 1) = true := by simp [hp.1]
            have t2 : ((j.at_ : Int) == (i : Int)) = true := by simp; omega
            have HP2 : Hid (putB (ks.take (k + 1)) i = true) := by show _ = _; rw [HP1.out, decide_eq_true hp, Bool.or_true]
            have HR := Lib.hid hrow
            cases hb with
            | true =>
              have HH2 : Hid ((hb0 || hadB (ks.take (k + 1)) i ci) = true) := by show _ = _; rw [HH1.out]; rfl
              clear hdat hrow hjok hd1 hd2 hp HP1 HH1
              go_wp2
              go_quiet (fail)
              go_wp2
              go_roundw
              case rel => exact ⟨k + 1, q3 + nq, by omega, by go_num, by rw [HP2.out], by rw [HH2.out], by rw [HQ3.out]; exact World.drewN_drewN _ _ _⟩
              case measure => simp [intOf]; omega
            | false =>
              have HH2 : Hid ((hb0 || hadB (ks.take (k + 1)) i ci) = decide (d = ci)) := by
                show _ = _
                rw [HH1.out, Bool.false_or, hd1]
                simp [hp]
              clear hdat hrow hjok hd1 hd2 hp HP1 HH1
              go_wp2_with fail
              go_still_tail 11, (by kernel_rfl)
              change wpList _ _ _ _ _ wr.drew
              obtain ⟨W2, hW2⟩ : ∃ W, W = wr.drew := ⟨_, rfl⟩
              rw [← hW2]
              have LW2 : Below wr.heap.size wr W2 := by rw [hW2]; exact below_drewN (Below.refl _ _) 1
              have HWQ2 : Hid (W2 = w8.drewN (q3 + 1)) := by show _ = _; rw [hW2, HQ3.out]; rfl
              have RA := Lib.hid (HR.out.below LW2)
              have RB := Lib.hid (S2.out.below LW2)
              clear hW2 LW2
              go_wp2_with fail
              refine (sameBytes _ _ _ _ _ _ _ _ W2 RA.out RB.out).mono ?_
              rintro e w10 ⟨rfl, q4, rfl⟩
              obtain ⟨db, hdb⟩ : ∃ b, Hid (decide (d = ci) = b) := ⟨_, rfl⟩
              rw [hdb.out]
              go_wp2_with fail
              go_roundw
              case rel => exact ⟨k + 1, q3 + 1 + q4, by omega, by go_num, by rw [HP2.out], by rw [HH2.out, hdb.out], by rw [HWQ2.out]; exact World.drewN_drewN _ _ _⟩
              case measure => simp [intOf]; omega
          · have HP2 : Hid (putB (ks.take (k + 1)) i = pb) := by show _ = _; rw [HP1.out, decide_eq_false hp, Bool.or_false]
            have HH2 : Hid ((hb0 || hadB (ks.take (k + 1)) i ci) = hb) := by show _ = _; rw [HH1.out, decide_eq_false (fun h => hp h.1), Bool.or_false]
            clear hdat hjok HP1 HH1
            by_cases hk1 : j.kind = 1
            · have t1 : (j.kind == 1) = true := by simp [hk1]
              have t2 : ((j.at_ : Int) == (i : Int)) = false := by simp; exact fun h => hp ⟨hk1, by omega⟩
              clear hp
              go_wp2_with fail
              go_roundw
              case rel => exact ⟨k + 1, q3, by omega, by go_num, by rw [HP2.out], by rw [HH2.out], HQ3.out⟩
              case measure => simp [intOf]; omega
            · have t1 : (j.kind == 1) = false := by simp [hk1]
              clear hp hk1
              go_wp2_with fail
              go_roundw
              case rel => exact ⟨k + 1, q3, by omega, by go_num, by rw [HP2.out], by rw [HH2.out], HQ3.out⟩
              case measure => simp [intOf]; omega
        · obtain rfl : k = l3 := by omega
          have hfin : ks.take k = ks := List.take_of_length_le (by omega)
          rw [hfin] at hpb hhb
          have hbt : hb = true := by rw [← hhb.out]; exact HSTi.out.1
          subst hbt
          cases pb with
          | true =>
            clear hpb hhb hfin
            go_wp2
            go_quiet (fail)
            go_wp2
            go_roundw
            case rel => exact ⟨i + 1, q3 + nq, by omega, by go_num, by rw [HQ3.out]; exact World.drewN_drewN _ _ _⟩
            case measure => simp [intOf]; omega
          | false =>
            have hb0t : hb0 = true := HSTi.out.2 hpb.out
            subst hb0t
            clear hpb hhb hfin
            go_wp2_with fail
            go_still_tail 11, (by kernel_rfl)
            change wpList _ _ _ _ _ wr.drew
            obtain ⟨W2, hW2⟩ : ∃ W, W = wr.drew := ⟨_, rfl⟩
            rw [← hW2]
            have LW2 : Below wr.heap.size wr W2 := by rw [hW2]; exact below_drewN (Below.refl _ _) 1
            have HWQ2 : Hid (W2 = w8.drewN (q3 + 1)) := by show _ = _; rw [hW2, HQ3.out]; rfl
            have RA := Lib.hid (S1.out.below LW2)
            have RB := Lib.hid (S2.out.below LW2)
            clear hW2 LW2
            go_wp2_with fail
            refine (sameBytes _ _ _ _ _ _ _ _ W2 RA.out RB.out).mono ?_
            rintro e w10 ⟨rfl, q4, rfl⟩
            rw [hhb0.out]
            go_wp2_with fail
            go_roundw
            case rel => exact ⟨i + 1, q3 + 1 + q4, by omega, by go_num, by rw [HWQ2.out]; exact World.drewN_drewN _ _ _⟩
            case measure => simp [intOf]; omega
    · obtain rfl : i = 8 := by omega
      go_wp2_with fail
      go_ret
      exact ⟨rfl, by rw [HQ.out]; exact below_drewN L8.out q⟩
end Go.Proofs.Yteidmdakglkkfaa
