/- The walks of sameMatrix (of equal ones) and MatTogether. -/
import Derived.Test.YtkfjkdonbmjniaaMtO
import Derived.Test.YtkfjkdonbmjniaaOpen
namespace Go.Proofs.Ytkfjkdonbmjniaa
open Go.RowKit Go.ChangeShapes Go.WideShapes Go.Deep
set_option linter.unusedVariables false
set_option maxRecDepth 100000

theorem opens_ints : Opens Try.prog 29 (Lay.int .i64).slice := opens_slice Try.underlying29 (opens_int Try.underlying3) (by kernel_rfl)
set_option maxHeartbeats 2000000 in
theorem sameMat (a : Option Addr) (ca : Nat) (b : Option Addr) (cb : Nat) (M : List (List Int)) (r c : Nat) (w : World) {F G : Nat → Prop} (ha : SRow (Lay.int .i64).slice w F a r ca M) (hb : SRow (Lay.int .i64).slice w G b r cb M) (hM : Mat M r c) :
    Calls Try.prog 26 #[.slice a r ca, .slice b r cb] w fun e w' => e = .returned (.bool true) ∧ ∃ q, w' = w.drewN q := by
  have hma := ha.hmax
  have hmb := hb.hmax
  have hla := ha.hle
  have hlb := hb.hle
  unfold maxLen at hma hmb
  have HA := Lib.hid ha
  have HB := Lib.hid hb
  have HM := Lib.hid hM
  have hrr : ((r : Int) != (r : Int)) = false := by simp
  clear ha hb hM
  go_enter Try.func26, Try.ntmps26
  go_wp2_with fail
  go_loopw [5] (fun iv wr => ∃ (i q : Nat), i ≤ r ∧ iv = .int .i64 i ∧ wr = w.drewN q) (fun iv _ => r - (intOf iv).toNat)
  case atStart => exact ⟨0, 0, by omega, rfl, rfl⟩
  case round =>
    obtain ⟨i, q, hi, rfl, hq0⟩ := hrel
    have HQ : Hid (wr = w.drewN q) := hq0
    have HAr : Hid (SRow (Lay.int .i64).slice wr F a r ca M) := by rw [hq0]; exact HA.out.drewN q
    have HBr : Hid (SRow (Lay.int .i64).slice wr G b r cb M) := by rw [hq0]; exact HB.out.drewN q
    clear hq0
    by_cases hlt : i < r
    · obtain ⟨b1, o1, a1, l1, c1, rfl, _, e1, r1⟩ := mget HAr.out i hlt
      obtain ⟨b2, o2, a2, l2, c2, rfl, _, e2, r2⟩ := mget HBr.out i hlt
      have hl1 : c = l1 := by rw [← r1.hlen]; exact (HM.out.get i hlt).1.symm
      have hl2 : c = l2 := by rw [← r2.hlen]; exact (HM.out.get i hlt).1.symm
      subst hl1
      subst hl2
      have R1 := Lib.hid r1
      have R2 := Lib.hid r2
      clear r1 r2
      go_wp2_with fail
      go_still_tail 8, (by kernel_rfl)
      change wpList _ _ _ _ _ wr.drew
      obtain ⟨W, hW⟩ : ∃ W, W = wr.drew := ⟨_, rfl⟩
      rw [← hW]
      have HWQ : Hid (W = w.drewN (q + 1)) := by show _ = _; rw [hW, HQ.out]; rfl
      have R1W : Hid (Row .i64 W a1 c c1 (M.getD i [])) := by rw [hW]; exact R1.out.below (below_drewN (Below.refl _ _) 1)
      have R2W : Hid (Row .i64 W a2 c c2 (M.getD i [])) := by rw [hW]; exact R2.out.below (below_drewN (Below.refl _ _) 1)
      clear hW
      go_wp2_with fail
      refine (sameInts a1 c c1 _ a2 c c2 _ W R1W.out R2W.out).mono ?_
      rintro e w2 ⟨rfl, kq, rfl⟩
      have hd : decide (M.getD i [] = M.getD i []) = true := decide_eq_true rfl
      rw [hd]
      go_wp2_with fail
      go_roundw
      case rel => exact ⟨i + 1, (q + 1) + kq, by omega, by go_num, by rw [HWQ.out]; exact World.drewN_drewN _ _ _⟩
      case measure => simp [intOf]; omega
    · obtain rfl : i = r := by omega
      go_wp2_with fail
      go_ret
      exact ⟨rfl, q, HQ.out⟩
set_option maxHeartbeats 4000000 in
theorem matTogether (al : Option Addr) (ll cl : Nat) (xl : List Int) (am : Option Addr) (lm cm : Nat) (xm : List Int) (an : Option Addr) (ln cn : Nat) (xn : List Int) (a b c d : Int) (w : World)
    (hl : Row .i64 w al ll cl xl) (hm : Row .i64 w am lm cm xm) (hn : Row .i64 w an ln cn xn) :
    Calls Try.prog 7 #[.slice al ll cl, .slice am lm cm, .slice an ln cn, .int .i64 a, .int .i64 b, .int .i64 c, .int .i64 d] w fun e w' => e = .returned (.bool true) ∧ Below w.heap.size w w' := by
  have RL := Lib.hid hl
  have RM := Lib.hid hm
  have RN := Lib.hid hn
  clear hl hm hn
  obtain ⟨B, hB⟩ : ∃ B, Hid (w.heap.size = B) := ⟨_, rfl⟩
  have L0 : Hid (Below B w w) := Below.refl _ _
  have W0 : B ≤ w.heap.size := by have := hB.out; omega
  obtain ⟨na, hna⟩ : ∃ n, Hid (sideN a = n) := ⟨_, rfl⟩
  obtain ⟨nb, hnb⟩ : ∃ n, Hid (sideN b = n) := ⟨_, rfl⟩
  obtain ⟨nc, hnc⟩ : ∃ n, Hid (sideN c = n) := ⟨_, rfl⟩
  obtain ⟨nd, hnd⟩ : ∃ n, Hid (sideN d = n) := ⟨_, rfl⟩
  have ba : 1 ≤ na ∧ na ≤ 8 := by rw [← hna.out]; exact sideN_bd a
  have bb : 1 ≤ nb ∧ nb ≤ 8 := by rw [← hnb.out]; exact sideN_bd b
  have bc : 1 ≤ nc ∧ nc ≤ 8 := by rw [← hnc.out]; exact sideN_bd c
  have bd : 1 ≤ nd ∧ nd ≤ 8 := by rw [← hnd.out]; exact sideN_bd d
  go_enter Try.func7, Try.ntmps7
  go_wp2_with fail
  refine (side a w).mono ?_
  rintro e w' ⟨rfl, rfl⟩
  rw [hna.out]
  go_wp2_with fail
  refine (side b w).mono ?_
  rintro e w' ⟨rfl, rfl⟩
  rw [hnb.out]
  go_wp2_with fail
  refine (matrixOf al ll cl xl na nb w RL.out ba bb).mono ?_
  rintro e w1 ⟨aX, cX, X, rfl, mX, sX, hle1⟩
  have MX := Lib.hid mX
  clear mX
  have L1 : Hid (Below B w w1) := L0.out.trans (hle1.out.mono W0)
  have W1 : B ≤ w1.heap.size := by have := hle1.out.size; omega
  have RL_1 := Lib.hid (RL.out.below hle1.out)
  have RM_1 := Lib.hid (RM.out.below hle1.out)
  have RN_1 := Lib.hid (RN.out.below hle1.out)
  have SX_1 := Lib.hid sX.out.sRow
  go_wp2_with fail
  refine (side b w1).mono ?_
  rintro e w' ⟨rfl, rfl⟩
  rw [hnb.out]
  go_wp2_with fail
  refine (side c w1).mono ?_
  rintro e w' ⟨rfl, rfl⟩
  rw [hnc.out]
  go_wp2_with fail
  refine (matrixOf am lm cm xm nb nc w1 RM_1.out bb bc).mono ?_
  rintro e w2 ⟨aY, cY, Y, rfl, mY, sY, hle2⟩
  have MY := Lib.hid mY
  clear mY
  have L2 : Hid (Below B w w2) := L1.out.trans (hle2.out.mono W1)
  have W2 : B ≤ w2.heap.size := by have := hle2.out.size; omega
  have RL_2 := Lib.hid (RL_1.out.below hle2.out)
  have RM_2 := Lib.hid (RM_1.out.below hle2.out)
  have RN_2 := Lib.hid (RN_1.out.below hle2.out)
  have SX_2 := Lib.hid (SX_1.out.below hle2.out)
  have SY_2 := Lib.hid sY.out.sRow
  go_wp2_with fail
  refine (side c w2).mono ?_
  rintro e w' ⟨rfl, rfl⟩
  rw [hnc.out]
  go_wp2_with fail
  refine (side d w2).mono ?_
  rintro e w' ⟨rfl, rfl⟩
  rw [hnd.out]
  go_wp2_with fail
  refine (matrixOf an ln cn xn nc nd w2 RN_2.out bc bd).mono ?_
  rintro e w3 ⟨aZ, cZ, Z, rfl, mZ, sZ, hle3⟩
  have MZ := Lib.hid mZ
  clear mZ
  have L3 : Hid (Below B w w3) := L2.out.trans (hle3.out.mono W2)
  have W3 : B ≤ w3.heap.size := by have := hle3.out.size; omega
  have RL_3 := Lib.hid (RL_2.out.below hle3.out)
  have RM_3 := Lib.hid (RM_2.out.below hle3.out)
  have RN_3 := Lib.hid (RN_2.out.below hle3.out)
  have SX_3 := Lib.hid (SX_2.out.below hle3.out)
  have SY_3 := Lib.hid (SY_2.out.below hle3.out)
  have SZ_3 := Lib.hid sZ.out.sRow
  go_wp2_with fail
  refine (mulMat aX cX aY cY X Y na nb nc w3 SX_3.out SY_3.out MX.out MY.out).mono ?_
  rintro e w4 ⟨aP, cP, rfl, sP, hle4⟩
  have MP := Lib.hid (mulM_mat MX.out MY.out)
  have L4 : Hid (Below B w w4) := L3.out.trans (hle4.out.mono W3)
  have W4 : B ≤ w4.heap.size := by have := hle4.out.size; omega
  have RL_4 := Lib.hid (RL_3.out.below hle4.out)
  have RM_4 := Lib.hid (RM_3.out.below hle4.out)
  have RN_4 := Lib.hid (RN_3.out.below hle4.out)
  have SX_4 := Lib.hid (SX_3.out.below hle4.out)
  have SY_4 := Lib.hid (SY_3.out.below hle4.out)
  have SZ_4 := Lib.hid (SZ_3.out.below hle4.out)
  have SP_4 := Lib.hid sP.out.sRow
  go_wp2_with fail
  refine (mulMat aY cY aZ cZ Y Z nb nc nd w4 SY_4.out SZ_4.out MY.out MZ.out).mono ?_
  rintro e w5 ⟨aQ, cQ, rfl, sQ, hle5⟩
  have MQ := Lib.hid (mulM_mat MY.out MZ.out)
  have L5 : Hid (Below B w w5) := L4.out.trans (hle5.out.mono W4)
  have W5 : B ≤ w5.heap.size := by have := hle5.out.size; omega
  have RL_5 := Lib.hid (RL_4.out.below hle5.out)
  have RM_5 := Lib.hid (RM_4.out.below hle5.out)
  have RN_5 := Lib.hid (RN_4.out.below hle5.out)
  have SX_5 := Lib.hid (SX_4.out.below hle5.out)
  have SY_5 := Lib.hid (SY_4.out.below hle5.out)
  have SZ_5 := Lib.hid (SZ_4.out.below hle5.out)
  have SP_5 := Lib.hid (SP_4.out.below hle5.out)
  have SQ_5 := Lib.hid sQ.out.sRow
  go_wp2_with fail
  refine (mulMat aP cP aZ cZ (mulM X Y na nb nc) Z na nc nd w5 SP_5.out SZ_5.out MP.out MZ.out).mono ?_
  rintro e w6 ⟨aU, cU, rfl, sU, hle6⟩
  have MU := Lib.hid (mulM_mat MP.out MZ.out)
  have L6 : Hid (Below B w w6) := L5.out.trans (hle6.out.mono W5)
  have W6 : B ≤ w6.heap.size := by have := hle6.out.size; omega
  have RL_6 := Lib.hid (RL_5.out.below hle6.out)
  have RM_6 := Lib.hid (RM_5.out.below hle6.out)
  have RN_6 := Lib.hid (RN_5.out.below hle6.out)
  have SX_6 := Lib.hid (SX_5.out.below hle6.out)
  have SY_6 := Lib.hid (SY_5.out.below hle6.out)
  have SZ_6 := Lib.hid (SZ_5.out.below hle6.out)
  have SP_6 := Lib.hid (SP_5.out.below hle6.out)
  have SQ_6 := Lib.hid (SQ_5.out.below hle6.out)
  have SU_6 := Lib.hid sU.out.sRow
  go_wp2_with fail
  refine (mulMat aX cX aQ cQ X (mulM Y Z nb nc nd) na nb nd w6 SX_6.out SQ_6.out MX.out MQ.out).mono ?_
  rintro e w7 ⟨aV, cV, rfl, sV, hle7⟩
  have MV := Lib.hid (mulM_mat MX.out MQ.out)
  have L7 : Hid (Below B w w7) := L6.out.trans (hle7.out.mono W6)
  have W7 : B ≤ w7.heap.size := by have := hle7.out.size; omega
  have RL_7 := Lib.hid (RL_6.out.below hle7.out)
  have RM_7 := Lib.hid (RM_6.out.below hle7.out)
  have RN_7 := Lib.hid (RN_6.out.below hle7.out)
  have SX_7 := Lib.hid (SX_6.out.below hle7.out)
  have SY_7 := Lib.hid (SY_6.out.below hle7.out)
  have SZ_7 := Lib.hid (SZ_6.out.below hle7.out)
  have SP_7 := Lib.hid (SP_6.out.below hle7.out)
  have SQ_7 := Lib.hid (SQ_6.out.below hle7.out)
  have SU_7 := Lib.hid (SU_6.out.below hle7.out)
  have SV_7 := Lib.hid sV.out.sRow
  have hass := mulM_assoc MX.out MY.out MZ.out
  rw [← hass] at SV_7
  clear hass
  have hcc : ((na : Int) != (na : Int)) = false := by simp
  go_wp2_with fail
  refine (side a w7).mono ?_
  rintro e w' ⟨rfl, rfl⟩
  rw [hna.out]
  go_wp2_with fail
  refine (sameMat aU cU aV cV _ na nd w7 SU_7.out SV_7.out MU.out).mono ?_
  rintro e w8 ⟨rfl, q1, rfl⟩
  obtain ⟨w8, hw8⟩ : ∃ W, W = w7.drewN q1 := ⟨_, rfl⟩
  have hle8 : Below w7.heap.size w7 w8 := by rw [hw8]; exact below_drewN (Below.refl _ _) q1
  rw [← hw8]
  clear hw8
  have L8 : Hid (Below B w w8) := L7.out.trans (hle8.mono W7)
  have W8 : B ≤ w8.heap.size := by have := hle8.size; omega
  have RL_8 := Lib.hid (RL_7.out.below hle8)
  have RM_8 := Lib.hid (RM_7.out.below hle8)
  have RN_8 := Lib.hid (RN_7.out.below hle8)
  have SX_8 := Lib.hid (SX_7.out.below hle8)
  have SY_8 := Lib.hid (SY_7.out.below hle8)
  have SZ_8 := Lib.hid (SZ_7.out.below hle8)
  have SP_8 := Lib.hid (SP_7.out.below hle8)
  have SQ_8 := Lib.hid (SQ_7.out.below hle8)
  have SU_8 := Lib.hid (SU_7.out.below hle8)
  have SV_8 := Lib.hid (SV_7.out.below hle8)
  go_wp2_with fail
  refine (side c w8).mono ?_
  rintro e w' ⟨rfl, rfl⟩
  rw [hnc.out]
  go_wp2_with fail
  refine (matrixOf an ln cn xn 1 nc w8 RN_8.out ⟨Nat.le_refl _, by omega⟩ bc).mono ?_
  rintro e w9 ⟨aT, cT, T, rfl, mT, sT, hle9⟩
  have MT := Lib.hid mT
  have L9 : Hid (Below B w w9) := L8.out.trans (hle9.out.mono W8)
  have W9 : B ≤ w9.heap.size := by have := hle9.out.size; omega
  have RL_9 := Lib.hid (RL_8.out.below hle9.out)
  have RM_9 := Lib.hid (RM_8.out.below hle9.out)
  have RN_9 := Lib.hid (RN_8.out.below hle9.out)
  have SX_9 := Lib.hid (SX_8.out.below hle9.out)
  have SY_9 := Lib.hid (SY_8.out.below hle9.out)
  have SZ_9 := Lib.hid (SZ_8.out.below hle9.out)
  have SP_9 := Lib.hid (SP_8.out.below hle9.out)
  have SQ_9 := Lib.hid (SQ_8.out.below hle9.out)
  have ST_9 := Lib.hid sT.out.sRow
  obtain ⟨bt, ot, av, lv, cv, rfl, _, et, rt⟩ := mget ST_9.out 0 (by omega)
  rw [Nat.add_zero] at et
  have hlv : nc = lv := by rw [← rt.hlen]; exact (MT.out.get 0 (by omega)).1.symm
  subst hlv
  have EV := Lib.hid (MT.out.get 0 (by omega)).2
  obtain ⟨v, hv⟩ : ∃ v, Hid (T.getD 0 [] = v) := ⟨_, rfl⟩
  rw [hv.out] at rt EV
  have RV_9 := Lib.hid rt
  have tcm := ST_9.out.hmax
  unfold maxLen at tcm
  have tcl := ST_9.out.hle
  clear rt
  go_wp2_with fail
  refine (applyMat aY cY av cv Y v nb nc w9 SY_9.out RV_9.out MY.out EV.out).mono ?_
  rintro e w10 ⟨aG, cG, rfl, sG, hle10⟩
  have EG := Lib.hid (appM_el MY.out v nb)
  have L10 : Hid (Below B w w10) := L9.out.trans (hle10.out.mono W9)
  have W10 : B ≤ w10.heap.size := by have := hle10.out.size; omega
  have RL_10 := Lib.hid (RL_9.out.below hle10.out)
  have RM_10 := Lib.hid (RM_9.out.below hle10.out)
  have RN_10 := Lib.hid (RN_9.out.below hle10.out)
  have SX_10 := Lib.hid (SX_9.out.below hle10.out)
  have SY_10 := Lib.hid (SY_9.out.below hle10.out)
  have SZ_10 := Lib.hid (SZ_9.out.below hle10.out)
  have SP_10 := Lib.hid (SP_9.out.below hle10.out)
  have SQ_10 := Lib.hid (SQ_9.out.below hle10.out)
  have RV_10 := Lib.hid (RV_9.out.below hle10.out)
  have RG_10 := Lib.hid sG.out.ints
  go_wp2_with fail
  refine (applyMat aX cX aG cG X (appM Y v nb nc) na nb w10 SX_10.out RG_10.out MX.out EG.out).mono ?_
  rintro e w11 ⟨aH, cH, rfl, sH, hle11⟩
  have EH := Lib.hid (appM_el MX.out (appM Y v nb nc) na)
  have L11 : Hid (Below B w w11) := L10.out.trans (hle11.out.mono W10)
  have W11 : B ≤ w11.heap.size := by have := hle11.out.size; omega
  have RL_11 := Lib.hid (RL_10.out.below hle11.out)
  have RM_11 := Lib.hid (RM_10.out.below hle11.out)
  have RN_11 := Lib.hid (RN_10.out.below hle11.out)
  have SX_11 := Lib.hid (SX_10.out.below hle11.out)
  have SY_11 := Lib.hid (SY_10.out.below hle11.out)
  have SZ_11 := Lib.hid (SZ_10.out.below hle11.out)
  have SP_11 := Lib.hid (SP_10.out.below hle11.out)
  have SQ_11 := Lib.hid (SQ_10.out.below hle11.out)
  have RV_11 := Lib.hid (RV_10.out.below hle11.out)
  have RG_11 := Lib.hid (RG_10.out.below hle11.out)
  have RH_11 := Lib.hid sH.out.ints
  go_wp2_with fail
  refine (applyMat aP cP av cv (mulM X Y na nb nc) v na nc w11 SP_11.out RV_11.out MP.out EV.out).mono ?_
  rintro e w12 ⟨aI, cI, rfl, sI, hle12⟩
  have EI := Lib.hid (appM_el MP.out v na)
  have L12 : Hid (Below B w w12) := L11.out.trans (hle12.out.mono W11)
  have W12 : B ≤ w12.heap.size := by have := hle12.out.size; omega
  have RL_12 := Lib.hid (RL_11.out.below hle12.out)
  have RM_12 := Lib.hid (RM_11.out.below hle12.out)
  have RN_12 := Lib.hid (RN_11.out.below hle12.out)
  have SX_12 := Lib.hid (SX_11.out.below hle12.out)
  have SY_12 := Lib.hid (SY_11.out.below hle12.out)
  have SZ_12 := Lib.hid (SZ_11.out.below hle12.out)
  have SP_12 := Lib.hid (SP_11.out.below hle12.out)
  have SQ_12 := Lib.hid (SQ_11.out.below hle12.out)
  have RV_12 := Lib.hid (RV_11.out.below hle12.out)
  have RG_12 := Lib.hid (RG_11.out.below hle12.out)
  have RH_12 := Lib.hid (RH_11.out.below hle12.out)
  have RI_12 := Lib.hid sI.out.ints
  have happ := appM_assoc MX.out MY.out v
  rw [happ] at RH_12
  go_wp2_with fail
  refine (sameInts aH na cH _ aI na cI _ w12 RH_12.out RI_12.out).mono ?_
  rintro e w' ⟨rfl, q2, rfl⟩
  have hd : ∀ l : List Int, decide (l = l) = true := fun l => decide_eq_true rfl
  rw [hd]
  go_wp2_with fail
  go_ret
  exact ⟨rfl, by rw [hB.out]; exact below_drewN L12.out q2⟩
end Go.Proofs.Ytkfjkdonbmjniaa
