/- Texts that belong together: MtF, MtG, MtV. -/
import Derived.Test.YtkjaddiagembaaaZ10
/- Package mat: reduce, walked. -/
namespace Go.Proofs.Ytkjaddiagembaaa
open Go.RowKit
set_option linter.unusedVariables false
set_option maxRecDepth 100000

def Reduced (B g r cap C n : Nat) (M : List (List Int)) (w : World) (e : Ending) (w' : World) : Prop := ∃ bs, e = .returned (.int .i64 ((redN M n).2 : Nat)) ∧ Nst w' B (some ⟨g, 0, none⟩) r cap C bs (redN M n).1 ∧ Below B w w'
set_option maxHeartbeats 8000000 in
theorem reduceW {B g r cap C : Nat} {bs : List Nat} {M : List (List Int)} (n : Nat) (w : World) (h : Nst w B (some ⟨g, 0, none⟩) r cap C bs M) (hBw : B ≤ w.heap.size) (hn : n ≤ C) (hC : C ≤ 16) (hr8 : r ≤ 8) :
    Calls Try.prog 58 #[.slice (some ⟨g, 0, none⟩) r cap, .int .i64 n] w (Reduced B g r cap C n M w) := by
  have hle := h.out.row.hle
  have hmx := h.out.row.hmax
  unfold maxLen at hmx
  have hgl := (World.ownsRow.lt h.out g rfl).2
  have hlt0 : ∀ i, i < r → bs.getD i 0 < w.heap.size := fun i hi => h.lt i hi
  have HM : Hid (Rect M r C) := h.rect
  have R0 : Hid (RS w (w.alloc (.cells #[.int .i64 (0 : Nat)] 3)) B g r cap C w.heap.size 0 bs M) := ⟨h.below (Below_alloc1 _), Box.new rfl, Nat.le_refl _, hgl, hlt0, (Below_alloc1 _).mono hBw⟩
  clear h hlt0
  go_enter Try.func58, Try.ntmps58
  go_wp2_with fail
  go_loopw [5, 6] (fun rv cv wr => ∃ (c gc : Nat) (bs' : List Nat), c ≤ n ∧ cv = .pointer (some ⟨gc, 0, none⟩) ∧ rv = .int .i64 ((redN M c).2 : Nat) ∧ Hid (RS w wr B g r cap C gc c bs' (redN M c).1)) (fun _ cv wx => n - cAt wx cv)
  case atStart => exact ⟨0, w.heap.size, bs, by omega, rfl, rfl, R0⟩
  case round =>
    obtain ⟨c, gc, bs', hc, rfl, rfl, hR⟩ := hrel
    have hE := (red_echelon HM.out c (by omega)).1
    have hrk := hE.le_r
    have hX : Hid (Rect (redN M c).1 r C) := redN_rect HM.out c
    have hnext : redN M (c + 1) = stepM c (redN M c) := rfl
    have hend : Hid ((redN M c).2 = r → redN M n = redN M c) := fun e => by
      have := redN_end HM.out e (n - c)
      rwa [show c + (n - c) = n by omega] at this
    have hcell : wr.cell? ⟨gc, 0, none⟩ = some (.int .i64 (c : Int)) := hR.out.bc.cell 0
    have hBr : B ≤ wr.heap.size := by have := hR.out.bl.size; omega
    clear hE
    by_cases hgo : c < n ∧ (redN M c).2 < r
    · obtain ⟨hcn, hrr⟩ := hgo
      have hmeas : Hid (cAt wr (.pointer (some ⟨gc, 0, none⟩)) = c) := by show _ = _; rw [cAt_eq hcell]; rfl
      obtain ⟨X, hXe⟩ : ∃ X, Hid ((redN M c).1 = X) := ⟨_, rfl⟩
      obtain ⟨rank, hrank⟩ : ∃ rk, Hid ((redN M c).2 = rk) := ⟨_, rfl⟩
      have hstep : Hid (redN M (c + 1) = stepM c (X, rank)) := by show _ = _; rw [hnext, ← hXe.out, ← hrank.out]
      rw [hrank.out] at hrr hrk ⊢
      rw [hXe.out] at hR hX
      clear hend hnext
      have i1 : (c : Int) < (n : Int) := by omega
      have i2 : (rank : Int) < (r : Int) := by omega
      have i3 : (0 : Int) ≤ (rank : Int) := by omega
      have i4 : (rank : Int) ≤ (r : Int) := by omega
      have i5 : (rank : Int) ≤ (cap : Int) := by omega
      have i6 : ¬ cap = rank := by omega
      have i7 : (rank : Int) ≤ (cap : Int) := by omega
      have hgr : g < wr.heap.size := by have := hR.out.bl.size; have := hR.out.n.out; exact (World.ownsRow.lt this g rfl).2
      go_wp2_with fail
      refine (indexLead rank c gc wr hR.out.n hcell (by omega) hC hrr hr8).mono ?_
      rintro e w1 ⟨rfl, rfl⟩
      cases hl : leader X rank c with
      | none =>
        have hst := stepM_none (c := c) hl
        have HS : Hid (redN M (c + 1) = (X, rank)) := by show _ = _; rw [hstep.out, hst]
        have HNX := Lib.hid (hR.out.next hBw)
        rw [show leadI none = -1 from rfl]
        clear hst hl hR
        go_wp2_with fail
        go_roundw
        case rel => exact ⟨c + 1, wr.heap.size, bs', by omega, rfl, by rw [HS.out], by rw [HS.out]; exact HNX⟩
        case measure =>
          rw [hmeas.out, cAt_eq (HNX.out.bc.cell 0)]
          omega
      | some a =>
        obtain ⟨ha, hne⟩ := leader_some hX.out hl
        have hst := stepM_some (c := c) hl
        rw [show leadI (some a) = (a : Int) from rfl]
        obtain ⟨X1, hX1⟩ : ∃ Y, swapR X rank (rank + a) = Y := ⟨_, rfl⟩
        obtain ⟨bs1, hbs1⟩ : ∃ b, swapB bs' rank (rank + a) = b := ⟨_, rfl⟩
        have hR1 : Rect X1 r C := by rw [← hX1]; exact swapR_rect hX.out rank (rank + a) hrr ha
        have hv1 : at_ X1 rank c = at_ X (rank + a) c := by
          rw [← hX1]; unfold at_
          rw [swapR_getD _ _ _ _ (by rw [hX.out.1]; exact hrr) (by rw [hX.out.1]; exact ha), if_pos rfl]
        obtain ⟨X2, hX2⟩ : ∃ Y, scaled X1 rank c = Y := ⟨_, rfl⟩
        have hR2 : Rect X2 r C := by rw [← hX2]; exact scaled_rect hR1 rank c hrr
        have HS : Hid (redN M (c + 1) = (elimN X2 rank c r, rank + 1)) := by
          show _ = _
          rw [hstep.out, hst, hX1, hX2, hR2.1]
        have HSW := Lib.hid (hR.out.swap rank (rank + a) hrr ha)
        have HSW' := Lib.hid (hR.out.swap' rank (rank + a) hrr ha)
        rw [hX1, hbs1] at HSW HSW'
        have j1 : IntKind.i64.wrap ((rank : Int) + (a : Int)) = (rank : Int) + (a : Int) := IntWalk.i64_in _ (by omega)
        have j2 : (0 : Int) ≤ (rank : Int) + (a : Int) := by omega
        have j3 : (rank : Int) + (a : Int) < (r : Int) := by omega
        have j4 : ((rank : Int) + (a : Int)).toNat = rank + a := by omega
        have e1 : wr.drew.cell? ⟨g, rank, none⟩ = some (.slice (some ⟨bs'.getD rank 0, 0, none⟩) C C) := hR.out.n.cell rank hrr
        have e2 : wr.drew.cell? ⟨g, rank + a, none⟩ = some (.slice (some ⟨bs'.getD (rank + a) 0, 0, none⟩) C C) := hR.out.n.cell (rank + a) ha
        have e3 : wr.drew.frozen? ⟨g, rank, none⟩ = false := World.ownsRow.frozenAt hR.out.n.out _
        have e4 : wr.drew.frozen? ⟨g, rank + a, none⟩ = false := World.ownsRow.frozenAt hR.out.n.out _
        have e7 : wr.frozen? ⟨g, rank, none⟩ = false := e3
        have e8 : wr.frozen? ⟨g, rank + a, none⟩ = false := e4
        obtain ⟨p1, hp1⟩ : ∃ p, bs'.getD rank 0 = p := ⟨_, rfl⟩
        obtain ⟨p2, hp2⟩ : ∃ p, bs'.getD (rank + a) 0 = p := ⟨_, rfl⟩
        rw [hp1, hp2] at HSW HSW'
        rw [hp1] at e1
        rw [hp2] at e2
        obtain ⟨x5, e5⟩ := hR.out.n.again rank (rank + a) (.slice (some ⟨p2, 0, none⟩) C C) ha
        obtain ⟨x6, e6⟩ := hR.out.n.again (rank + a) rank (.slice (some ⟨p1, 0, none⟩) C C) hrr
        clear hst hl hX1 hbs1 hp1 hp2
        go_upto_region 7 with fail
        go_cut [] (fun wx => Hid (RS w wx B g r cap C gc c bs1 X1))
        case first =>
          go_region
          all_goals
            go_wp2_with fail
            go_meet
            first | exact HSW.out.below hBw (Below.refl _ _).drew | exact HSW'.out.below hBw (Below.refl _ _).drew
        case rest =>
          have hR' := hcut
          clear hR HSW HSW' e1 e2 e3 e4 e5 e6 e7 e8 j1 j2 j3 j4
          obtain ⟨y, hy⟩ : ∃ y, X1.getD rank [] = y := ⟨_, rfl⟩
          obtain ⟨bt, hbt⟩ : ∃ b, bs1.getD rank 0 = b := ⟨_, rfl⟩
          obtain ⟨v, hv⟩ : ∃ v, y.getD c 0 = v := ⟨_, rfl⟩
          have hyl : y.length = C ∧ El y := by rw [← hy]; exact hR1.get rank hrr
          have hvr := hyl.2.getD c
          rw [hv] at hvr
          have hv0 : 1 ≤ v ∧ v ≤ 255 := by
            have : at_ X1 rank c ≠ 0 := by rw [hv1]; exact hne
            unfold at_ at this
            rw [hy, hv] at this
            omega
          have hX2e : X2 = X1.set rank (scaleR (ginv v.toNat) y) := by
            rw [← hX2]; unfold scaled at_; rw [hy, hv]
          have f1 : wc.cell? ⟨g, rank, none⟩ = some (.slice (some ⟨bt, 0, none⟩) C C) := by rw [hR'.out.n.cell rank hrr, hbt]
          have f2 : wc.cell? ⟨gc, 0, none⟩ = some (.int .i64 (c : Int)) := hR'.out.bc.cell 0
          have f3 : wc.cell? ⟨bt, c, none⟩ = some (.int .i64 v) := by
            have := hR'.out.n.at rank c hrr (by omega)
            rw [hy, hv, hbt] at this; exact this
          have hcC : (c : Int) < (C : Int) := by omega
          have HX2 := Lib.hid hX2e
          have HY := Lib.hid hy
          have HBT := Lib.hid hbt
          have HYL := Lib.hid hyl
          clear hX2e hy hbt hyl hv1 hne hvr hX2
          go_wp2_with fail
          refine (invG v wc hv0).mono ?_
          rintro e w2 ⟨iv, hiv, hiv0, hiv1, rfl, hb2⟩
          obtain ⟨ivn, rfl⟩ := Int.eq_ofNat_of_zero_le hiv0
          have hivn : Hid (ivn = ginv v.toNat) := by have := hiv.out; show _ = _; omega
          have R2 := Lib.hid (hR'.out.below hBw hb2)
          clear hb2 f1 f2 f3 hR' hcut hiv
          go_wp2_with fail
          go_loopw [66] (fun kv wx => ∃ k : Nat, k ≤ C ∧ kv = .int .i64 k ∧ Hid (RS w wx B g r cap C gc c bs1 (X1.set rank (scaleN ivn y k)))) (fun kv _ => C - (intOf kv).toNat)
          case atStart => exact ⟨0, by omega, rfl, by rw [scaleN_zero, ← HY.out, set_getD _ _ (by rw [hR1.1]; exact hrr)]; exact R2⟩
          case round =>
            obtain ⟨k, hk, rfl, hS⟩ := hrel
            by_cases hkC : k < C
            · have hkI : (k : Int) < (C : Int) := by omega
              have hyk := HYL.out.2.getD k
              obtain ⟨u, hu⟩ : ∃ u, y.getD k 0 = u := ⟨_, rfl⟩
              have hg1 : (X1.set rank (scaleN ivn y k)).getD rank [] = scaleN ivn y k := by rw [getD_set_eq _ _ _ _ (by rw [hR1.1]; exact hrr), if_pos rfl]
              have f1 : wr.cell? ⟨bt, k, none⟩ = some (.int .i64 u) := by
                have := hS.out.n.at rank k hrr hkC
                rw [hg1, scaleN_getD _ _ _ _ (by rw [HYL.out.1]; exact hkC), if_neg (by omega), hu, HBT.out] at this
                exact this
              rw [hu] at hyk
              have HSET : Hid (∀ W, RS w W B g r cap C gc c bs1 (X1.set rank (scaleN ivn y k)) → ∀ z : Int, z = ((gmul u.toNat ivn : Nat) : Int) → 0 ≤ z ∧ z ≤ 255 → W.cell? ⟨bt, k, none⟩ = some (.int .i64 u) ∧ W.frozen? ⟨bt, k, none⟩ = false ∧ RS w (W.setCell ⟨bt, k, none⟩ (.int .i64 z)) B g r cap C gc c bs1 (X1.set rank (scaleN ivn y (k + 1)))) := by
                intro W hW z hz hz2
                have h1 := hW.n.at rank k hrr hkC
                rw [hg1, scaleN_getD _ _ _ _ (by rw [HYL.out.1]; exact hkC), if_neg (by omega), hu, HBT.out] at h1
                have h2 := hW.put rank k hrr hkC z hz2
                rw [hg1, set_set, hz, ← hu, scaleN_set _ _ _ (by rw [HYL.out.1]; exact hkC), HBT.out, hu] at h2
                refine ⟨h1, ?_, by rw [hz]; exact h2⟩
                have := (hW.n.row rank hrr).1.free k
                rw [HBT.out] at this; exact this
              have HU := Lib.hid hu
              clear hg1 hu
              go_wp2_with fail
              refine (timesM u ivn wr hyk (by omega)).mono ?_
              rintro e w3 ⟨z, hz, hz0, hz1, rfl, hb3⟩
              obtain ⟨q1, q2, q3⟩ := HSET.out w3 (hS.out.below hBw hb3) z (by rw [hz.out]; simp) ⟨hz0, hz1⟩
              have Q3 := Lib.hid q3
              clear q3 hb3 hS f1 hz HSET
              go_wp2_with fail
              go_roundw
              case rel => exact ⟨k + 1, by omega, by go_num, Q3⟩
              case measure => simp [intOf]; omega
            · obtain rfl : k = C := by omega
              have hfin : Hid (RS w wr B g r cap k gc c bs1 X2) := by
                have := hS.out
                rw [show scaleN ivn y k = scaleR (ginv v.toNat) y by unfold scaleR; rw [HYL.out.1, hivn.out], ← HX2.out] at this
                exact this
              clear hS R2
              have hR2l := Lib.hid hR2
              have hR1l := hR1.1
              have hR2len := hR2.1
              clear HX2 HY HYL hR1 hR2 hX
              go_wp2_with fail
              go_loopw [81] (fun iv wx => ∃ i : Nat, i ≤ r ∧ iv = .int .i64 i ∧ Hid (RS w wx B g r cap k gc c bs1 (elimN X2 rank c i))) (fun iv _ => r - (intOf iv).toNat)
              case atStart => exact ⟨0, by omega, rfl, by rw [elimN_zero]; exact hfin⟩
              case round =>
                obtain ⟨i, hi, rfl, hS⟩ := hrel
                by_cases hir : i < r
                · have hiI : (i : Int) < (r : Int) := by omega
                  obtain ⟨row, hrow⟩ : ∃ y, X2.getD i [] = y := ⟨_, rfl⟩
                  obtain ⟨bi, hbi⟩ : ∃ b, bs1.getD i 0 = b := ⟨_, rfl⟩
                  obtain ⟨f, hf⟩ : ∃ v, row.getD c 0 = v := ⟨_, rfl⟩
                  have hrl : row.length = k ∧ El row := by rw [← hrow]; exact hR2l.out.get i hir
                  have hfr := hrl.2.getD c
                  rw [hf] at hfr
                  have hat : at_ X2 i c = f.toNat := by unfold at_; rw [hrow, hf]
                  have hcur : (elimN X2 rank c i).getD i [] = row := by rw [elimN_getD _ _ _ _ _ (by rw [hR2len]; exact hir), if_neg (by omega), hrow]
                  have f1 : wr.cell? ⟨g, i, none⟩ = some (.slice (some ⟨bi, 0, none⟩) k k) := by rw [hS.out.n.cell i hir, hbi]
                  have f2 : wr.cell? ⟨gc, 0, none⟩ = some (.int .i64 (c : Int)) := hS.out.bc.cell 0
                  have f3 : wr.cell? ⟨bi, c, none⟩ = some (.int .i64 f) := by
                    have := hS.out.n.at i c hir (by omega)
                    rw [hcur, hf, hbi] at this; exact this
                  have hcC : (c : Int) < (k : Int) := by omega
                  by_cases hsk : i = rank ∨ f = 0
                  · have hnx : Hid (elimN X2 rank c (i + 1) = elimN X2 rank c i) := elimN_skip _ _ _ _ (by rw [hR2len]; exact hir) (by
                      rcases hsk with h | h
                      · exact .inl h
                      · right; rw [hat, h]; rfl)
                    by_cases hir2 : i = rank
                    · have b1 : ((i : Int) == (rank : Int)) = true := by simp; omega
                      clear hsk hcur hat hir2
                      go_wp2_with fail
                      go_roundw
                      case rel => exact ⟨i + 1, by omega, by go_num, by rw [hnx.out]; exact hS⟩
                      case measure => simp [intOf]; omega
                    · have b1 : ((i : Int) == (rank : Int)) = false := by simp; omega
                      have hf0 : f = 0 := hsk.resolve_left hir2
                      have b2 : (f == 0) = true := by simp [hf0]
                      clear hsk hcur hat hf0
                      go_wp2_with fail
                      go_roundw
                      case rel => exact ⟨i + 1, by omega, by go_num, by rw [hnx.out]; exact hS⟩
                      case measure => simp [intOf]; omega
                  · have hir2 : ¬ i = rank := fun h => hsk (.inl h)
                    have hf0 : ¬ f = 0 := fun h => hsk (.inr h)
                    have b1 : ((i : Int) == (rank : Int)) = false := by simp; omega
                    have b2 : (f == 0) = false := by simp [hf0]
                    obtain ⟨top, htop⟩ : ∃ y, X2.getD rank [] = y := ⟨_, rfl⟩
                    have htl : top.length = k ∧ El top := by rw [← htop]; exact hR2l.out.get rank hrr
                    have hnx : Hid (elimN X2 rank c (i + 1) = (elimN X2 rank c i).set i (xorN f.toNat top row k)) := by
                      show _ = _
                      rw [← elimN_set _ _ _ _ (by rw [hR2len]; exact hir)]
                      unfold elimRow
                      rw [hat, if_neg (by rintro (h | h); exact hir2 h; omega), htop, hrow]
                      unfold xorR
                      rw [hrl.1]
                    have HTOP := Lib.hid htop
                    have HTL := Lib.hid htl
                    have HRL := Lib.hid hrl
                    have HCUR := Lib.hid hcur
                    have HBI := Lib.hid hbi
                    have hbi2 : Hid (bi ≠ bt) := fun e => hir2 (hS.out.n.nd i rank hir hrr (by rw [hbi, HBT.out]; exact e))
                    have f4 : wr.cell? ⟨g, rank, none⟩ = some (.slice (some ⟨bt, 0, none⟩) k k) := by rw [hS.out.n.cell rank hrr, HBT.out]
                    clear hsk hcur hat hf0 htop htl hrl hbi
                    go_wp2_with fail
                    go_loopw [102] (fun tv wx => ∃ t : Nat, t ≤ k ∧ tv = .int .i64 t ∧ Hid (RS w wx B g r cap k gc c bs1 ((elimN X2 rank c i).set i (xorN f.toNat top row t)))) (fun tv _ => k - (intOf tv).toNat)
                    case atStart => exact ⟨0, by omega, rfl, by rw [xorN_zero, ← HCUR.out, set_getD _ _ (by rw [elimN_length, hR2len]; exact hir)]; exact hS⟩
                    case round =>
                      obtain ⟨t, ht, rfl, hT⟩ := hrel
                      by_cases htk : t < k
                      · have htI : (t : Int) < (k : Int) := by omega
                        obtain ⟨rv, hrv⟩ : ∃ v, row.getD t 0 = v := ⟨_, rfl⟩
                        obtain ⟨tv, htv⟩ : ∃ v, top.getD t 0 = v := ⟨_, rfl⟩
                        have hrvr := HRL.out.2.getD t
                        have htvr := HTL.out.2.getD t
                        rw [hrv] at hrvr
                        rw [htv] at htvr
                        have hil : i < (elimN X2 rank c i).length := by rw [elimN_length, hR2len]; exact hir
                        have HSET : Hid (∀ W, RS w W B g r cap k gc c bs1 ((elimN X2 rank c i).set i (xorN f.toNat top row t)) → W.cell? ⟨bi, t, none⟩ = some (.int .i64 rv) ∧ W.cell? ⟨bt, t, none⟩ = some (.int .i64 tv) ∧ W.frozen? ⟨bi, t, none⟩ = false ∧ ∀ z : Int, z = ((rv.toNat ^^^ gmul f.toNat tv.toNat : Nat) : Int) → RS w (W.setCell ⟨bi, t, none⟩ (.int .i64 z)) B g r cap k gc c bs1 ((elimN X2 rank c i).set i (xorN f.toNat top row (t + 1)))) := by
                          intro W hW
                          have h1 := hW.n.at i t hir htk
                          rw [getD_set_eq _ _ _ _ hil, if_pos rfl, xorN_getD _ _ _ _ _ (by rw [HRL.out.1]; exact htk), if_neg (by omega), hrv, HBI.out] at h1
                          have h2 := hW.n.at rank t hrr htk
                          rw [getD_set_eq _ _ _ _ hil, if_neg (by omega), elimN_at _ _ _ _ (by rw [hR2len]; exact hrr), HTOP.out, htv, HBT.out] at h2
                          have h3 := (hW.n.row i hir).1.free t
                          rw [HBI.out] at h3
                          refine ⟨h1, h2, h3, fun z hz => ?_⟩
                          have hz2 : rv.toNat ^^^ gmul f.toNat tv.toNat < 256 := xor_lt (by omega) (gmul_lt (by omega))
                          have h4 := hW.put i t hir htk z (by rw [hz]; omega)
                          rw [getD_set_eq _ _ _ _ hil, if_pos rfl, set_set, hz, ← hrv, ← htv, xorN_set _ _ _ _ (by rw [HRL.out.1]; exact htk), HBI.out, hrv, htv] at h4
                          rw [hz]; exact h4
                        have HTW : Hid (∀ W', Below wr.heap.size wr W' → Calls Try.prog 66 #[.int .i64 f, .int .i64 tv] W' fun e w' => ∃ z : Int, Hid (z = ((gmul f.toNat tv.toNat : Nat) : Int)) ∧ 0 ≤ z ∧ z ≤ 255 ∧ e = .returned (.int .i64 z) ∧ RS w w' B g r cap k gc c bs1 ((elimN X2 rank c i).set i (xorN f.toNat top row t))) := by
                          intro W' hb
                          refine (timesM f tv W' hfr htvr).mono ?_
                          rintro e w' ⟨z, hz, hz0, hz1, rfl, hb'⟩
                          exact ⟨z, hz, hz0, hz1, rfl, hT.out.below hBw (hb.trans (hb'.mono hb.size))⟩
                        have hB0' : Below wr.heap.size wr wr.drew := (Below.refl _ _).drew
                        obtain ⟨g1, g2, g3, _⟩ := HSET.out wr hT.out
                        have HRV := Lib.hid hrvr
                        clear hrv htv f1 f2 f3 f4 hrvr
                        go_upto_region 23 with fail
                        go_region_law (go_simp; go_at_call 66; refine (HTW.out _ ?_).mono ?_; (exact hB0'); rintro e w' ⟨z, hz, hz0, hz1, rfl, hS2⟩; have s1 := (HSET.out _ hS2).1; have s2 := (HSET.out _ hS2).2.1; have s3 := (HSET.out _ hS2).2.2.1)
                        all_goals
                          have hzz : bits .xor .i64 rv z = ((rv.toNat ^^^ gmul f.toNat tv.toNat : Nat) : Int) := by
                            have h1 := HRV.out
                            have h2 := hz.out
                            have h3 : gmul f.toNat tv.toNat < 256 := gmul_lt (by omega)
                            obtain ⟨rn, rfl⟩ := Int.eq_ofNat_of_zero_le h1.1
                            rw [h2]
                            rw [xor_out rn _ (by omega) (by omega)]; simp
                          have HQ := Lib.hid ((HSET.out _ hS2).2.2.2 _ hzz)
                          clear s1 s2 s3 hS2 hzz HSET HTW hT g1 g2 g3
                          go_wp2_with fail
                          go_roundw
                          case rel => exact ⟨t + 1, by omega, by go_num, HQ⟩
                          case measure => simp [intOf]; omega
                      · obtain rfl : t = k := by omega
                        go_wp2_with fail
                        go_roundw
                        case rel => exact ⟨i + 1, by omega, by go_num, by rw [hnx.out]; exact hT⟩
                        case measure => simp [intOf]; omega
                · obtain rfl : i = r := by omega
                  have f2 : wr.cell? ⟨gc, 0, none⟩ = some (.int .i64 (c : Int)) := hS.out.bc.cell 0
                  have HNX := Lib.hid (hS.out.next hBw)
                  go_wp2_with fail
                  go_roundw
                  case rel => exact ⟨c + 1, wr.heap.size, bs1, by omega, rfl, by rw [HS.out]; go_num, by rw [HS.out]; exact HNX⟩
                  case measure =>
                    rw [hmeas.out, cAt_eq (HNX.out.bc.cell 0)]
                    omega
    · have hfin : redN M n = redN M c := by
        by_cases h1 : c < n
        · exact hend.out (by omega)
        · obtain rfl : c = n := by omega
          rfl
      have HF := Lib.hid hfin
      have HRR := Lib.hid hR.out
      obtain ⟨rank, hrank⟩ : ∃ rk, Hid ((redN M c).2 = rk) := ⟨_, rfl⟩
      rw [hrank.out] at hgo hrk ⊢
      have hfr : Hid ((redN M n).2 = rank) := by show _ = _; rw [HF.out, hrank.out]
      clear hend hnext hX hfin hR
      by_cases h1 : c < n
      · have b1 : decide ((c : Int) < (n : Int)) = true := decide_eq_true (by omega)
        have b2 : decide ((rank : Int) < (r : Int)) = false := decide_eq_false (by omega)
        have i1 : (c : Int) < (n : Int) := by omega
        go_wp2_with fail
        go_ret
        exact ⟨bs', by rw [hfr.out]; rfl, by rw [HF.out]; exact HRR.out.n, HRR.out.bl⟩
      · have b1 : decide ((c : Int) < (n : Int)) = false := decide_eq_false (by omega)
        go_wp2_with fail
        go_ret
        exact ⟨bs', by rw [hfr.out]; rfl, by rw [HF.out]; exact HRR.out.n, HRR.out.bl⟩
end Go.Proofs.Ytkjaddiagembaaa
/- Rank and inverse of lists of rows: the plain laws. No program here. -/
namespace Go.Proofs.Ytkjaddiagembaaa
open Go.RowKit
set_option linter.unusedVariables false

theorem rect_ext {A B : List (List Int)} {r c : Nat} (hA : Rect A r c) (hB : Rect B r c) (h : ∀ i k, i < r → k < c → at_ A i k = at_ B i k) : A = B := by
  apply List.ext_getElem (by rw [hA.1, hB.1])
  intro i h1 h2
  have hi : i < r := by rw [← hA.1]; exact h1
  have ea : A.getD i [] = A[i] := by simp [List.getD, h1]
  have eb : B.getD i [] = B[i] := by simp [List.getD, h2]
  rw [← ea, ← eb]
  obtain ⟨la, qa⟩ := hA.get i hi
  obtain ⟨lb, qb⟩ := hB.get i hi
  apply List.ext_getElem (by rw [la, lb])
  intro k h3 h4
  have hk : k < c := by rw [← la]; exact h3
  have := h i k hi hk
  unfold at_ at this
  have e1 : (A.getD i []).getD k 0 = (A.getD i [])[k] := by rw [List.getD, List.getElem?_eq_getElem h3]; rfl
  have e2 : (B.getD i []).getD k 0 = (B.getD i [])[k] := by rw [List.getD, List.getElem?_eq_getElem h4]; rfl
  have b1 := qa.getD k
  have b2 := qb.getD k
  rw [e1] at this b1
  rw [e2] at this b2
  omega
theorem sum_val (f : Nat → Lin.F) : ∀ n, (Lin.sum f n).1 = xs_ (fun i => (f i).1) n
  | 0 => rfl
  | n + 1 => by
    show (Lin.sum f n).1 ^^^ (f n).1 = xs_ (fun i => (f i).1) n ^^^ (f n).1
    rw [sum_val f n]
theorem mm_val {A B : List (List Int)} {r n c : Nat} (hA : Rect A r n) (hB : Rect B n c) (i k : Nat) : (Lin.mm n (fe A) (fe B) i k).1 = dotN (fun t => at_ A i t) (fun t => at_ B t k) n := by
  unfold Lin.mm dotN
  rw [sum_val]
  exact xs_congr n (fun t _ => by show gmul (fe A i t).1 (fe B t k).1 = _; rw [hA.fe, hB.fe])
theorem fe_mul {A B : List (List Int)} {r n c : Nat} (hA : Mat A r n) (hB : Mat B n c) (i k : Nat) (hi : i < r) (hk : k < c) : fe (mulM A B r n c) i k = Lin.mm n (fe A) (fe B) i k := by
  apply Subtype.ext
  rw [mm_val hA.rect hB.rect, (mulM_mat hA hB).rect.fe, mulM_at _ _ _ _ _ _ _ hi hk]
theorem red_ech {M : List (List Int)} {r C : Nat} (h : Rect M r C) (n : Nat) (hn : n ≤ C) : ∃ L, Lin.Echelon r n (redN M n).2 L ∧ Lin.Turned r (fe M) L ∧ ∀ i k, i < r → k < C → L i k = fe (redN M n).1 i k := by
  obtain ⟨hE, L, hT, hL⟩ := red_echelon h n hn
  refine ⟨L, ?_, hT, hL⟩
  obtain ⟨q1, q2, ⟨p, q3, q4⟩, q5⟩ := hE
  exact ⟨q1, q2, ⟨p, fun j hj => ⟨(q3 j hj).1, fun i hi => by rw [hL i _ hi (by have := (q3 j hj).1; omega)]; exact (q3 j hj).2 i hi⟩, q4⟩, fun i k h1 h2 h3 => by rw [hL i k h2 (by omega)]; exact q5 i k h1 h2 h3⟩
theorem rank_through {M : List (List Int)} {r C : Nat} (h : Rect M r C) {n k : Nat} (hn : n ≤ C) {X Y : Lin.M} (hA : ∀ i j, i < r → j < n → fe M i j = Lin.mm k X Y i j) : (redN M n).2 ≤ k := by
  obtain ⟨L, h1, h2, _⟩ := red_ech h n hn
  exact Lin.rank_le h1 h2 hA
theorem rank_factor {M : List (List Int)} {r C : Nat} (h : Rect M r C) {n : Nat} (hn : n ≤ C) : ∃ X Y : Lin.M, ∀ i j, i < r → j < n → fe M i j = Lin.mm (redN M n).2 X Y i j := by
  obtain ⟨L, h1, h2, _⟩ := red_ech h n hn
  exact Lin.factor h1 h2
theorem rank_le_rows {M : List (List Int)} {r C : Nat} (h : Rect M r C) {n : Nat} (hn : n ≤ C) : (redN M n).2 ≤ r := by
  obtain ⟨L, h1, _⟩ := red_ech h n hn
  exact h1.le_r
theorem rank_le_cols {M : List (List Int)} {r C : Nat} (h : Rect M r C) {n : Nat} (hn : n ≤ C) : (redN M n).2 ≤ n := by
  obtain ⟨L, h1, _⟩ := red_ech h n hn
  exact h1.le_n
theorem besideM_zero {M : List (List Int)} : besideM M 0 = M := by
  apply List.ext_getElem (by simp [besideM])
  intro i h1 h2
  simp [besideM, besideRow, List.getD, h2]
theorem beside_getD {M : List (List Int)} (more i : Nat) (hi : i < M.length) : (besideM M more).getD i [] = besideRow (M.getD i []) i more := by
  unfold besideM
  rw [List.getD, List.getElem?_map, List.getElem?_range hi]; rfl
theorem beside_left {M : List (List Int)} {n : Nat} (h : Rect M n n) (i k : Nat) (hi : i < n) (hk : k < n) : fe (besideM M n) i k = fe M i k := by
  apply Subtype.ext
  show at_ _ i k % 256 = at_ _ i k % 256
  unfold at_
  rw [beside_getD _ _ (by rw [h.1]; exact hi)]
  have hl := (h.get i hi).1
  unfold besideRow
  rw [if_pos (by omega), List.getD, List.getElem?_set_ne (by omega), List.getElem?_append_left (by omega)]; rfl
theorem beside_right {M : List (List Int)} {n : Nat} (h : Rect M n n) (i k : Nat) (hi : i < n) (hk : k < n) : fe (besideM M n) i (n + k) = Lin.idm i k := by
  apply Subtype.ext
  show at_ _ i (n + k) % 256 = _
  unfold at_
  rw [beside_getD _ _ (by rw [h.1]; exact hi)]
  have hl := (h.get i hi).1
  unfold besideRow
  rw [if_pos (by omega), hl, List.getD, List.getElem?_set]
  unfold Lin.idm
  by_cases e : i = k
  · rw [if_pos (by omega), if_pos (by rw [List.length_append, List.length_replicate]; omega), if_pos e]; rfl
  · rw [if_neg (by omega), List.getElem?_append_right (by omega), hl, Nat.add_sub_cancel_left, List.getElem?_replicate, if_pos hk, if_neg e]; rfl
theorem rank_beside {M : List (List Int)} {n : Nat} (h : Rect M n n) : (redN (besideM M n) n).2 = (redN M n).2 := by
  have hb := besideM_rect h n
  apply Nat.le_antisymm
  · obtain ⟨X, Y, hXY⟩ := rank_factor h (Nat.le_refl n)
    exact rank_through hb (by omega) (fun i j hi hj => by rw [beside_left h i j hi hj]; exact hXY i j hi hj)
  · obtain ⟨X, Y, hXY⟩ := rank_factor hb (n := n) (by omega)
    exact rank_through h (Nat.le_refl n) (fun i j hi hj => by rw [← beside_left h i j hi hj]; exact hXY i j hi hj)
/-- The inverse, where there is one. -/
def invM (M : List (List Int)) (n : Nat) : List (List Int) := (redN (besideM M n) n).1.map (fun x => x.drop n)
def oneM (n : Nat) : List (List Int) := (List.range n).map fun i => (List.range n).map fun k => if i = k then (1 : Int) else 0
theorem oneM_mat {n : Nat} (h1 : 1 ≤ n) (h8 : n ≤ 8) : Mat (oneM n) n n := by
  refine ⟨by simp [oneM], ⟨h1, h8⟩, ⟨h1, h8⟩, fun x hx => ?_⟩
  simp only [oneM, List.mem_map, List.mem_range] at hx
  obtain ⟨i, _, rfl⟩ := hx
  refine ⟨by simp, fun v hv => ?_⟩
  simp only [List.mem_map, List.mem_range] at hv
  obtain ⟨k, _, rfl⟩ := hv
  split <;> omega
theorem oneM_fe {n : Nat} (i k : Nat) (hi : i < n) (hk : k < n) : fe (oneM n) i k = Lin.idm i k := by
  apply Subtype.ext
  show at_ _ i k % 256 = _
  unfold at_ oneM
  have e : ((List.range n).map fun i => (List.range n).map fun k => if i = k then (1 : Int) else 0).getD i [] = (List.range n).map fun k => if i = k then (1 : Int) else 0 := by simp [List.getD, hi]
  rw [e, range_getD, if_pos hk]
  unfold Lin.idm
  split <;> rfl
theorem invM_mat {M : List (List Int)} {n : Nat} (h : Mat M n n) : Mat (invM M n) n n := by
  have hr := redN_rect (besideM_rect h.rect n) n
  refine ⟨by unfold invM; rw [List.length_map]; exact hr.1, h.2.1, h.2.1, fun x hx => ?_⟩
  simp only [invM, List.mem_map] at hx
  obtain ⟨y, hy, rfl⟩ := hx
  obtain ⟨h1, h2⟩ := hr.2 y hy
  exact ⟨by rw [List.length_drop, h1]; omega, fun v hv => h2 v (List.mem_of_mem_drop hv)⟩
theorem invM_fe {M : List (List Int)} {n : Nat} (h : Mat M n n) (i k : Nat) (hi : i < n) (hk : k < n) : fe (invM M n) i k = fe (redN (besideM M n) n).1 i (n + k) := by
  apply Subtype.ext
  show at_ _ i k % 256 = at_ _ i (n + k) % 256
  have hr := redN_rect (besideM_rect h.rect n) n
  have hi' : i < (redN (besideM M n) n).1.length := by rw [hr.1]; exact hi
  unfold at_ invM
  have e : ((redN (besideM M n) n).1.map (fun x => x.drop n)).getD i [] = ((redN (besideM M n) n).1.getD i []).drop n := by
    simp [List.getD, hi']
  rw [e, List.getD, List.getElem?_drop]; rfl
theorem mul_one_of {A B : List (List Int)} {n : Nat} (hA : Mat A n n) (hB : Mat B n n) (h : ∀ i k, i < n → k < n → Lin.mm n (fe A) (fe B) i k = Lin.idm i k) : mulM A B n n n = oneM n := by
  have h8 := hA.2.1
  refine rect_ext (mulM_mat hA hB).rect (oneM_mat h8.1 h8.2).rect fun i k hi hk => ?_
  rw [← (mulM_mat hA hB).rect.fe, ← (oneM_mat h8.1 h8.2).rect.fe, fe_mul hA hB i k hi hk, h i k hi hk, oneM_fe i k hi hk]
theorem inv_both {M : List (List Int)} {n : Nat} (h : Mat M n n) (hr : (redN M n).2 = n) :
    (∀ i k, i < n → k < n → Lin.mm n (fe (invM M n)) (fe M) i k = Lin.idm i k) ∧ ∀ i k, i < n → k < n → Lin.mm n (fe M) (fe (invM M n)) i k = Lin.idm i k := by
  obtain ⟨L, h1, h2, h3⟩ := red_ech (besideM_rect h.rect n) n (by omega)
  rw [rank_beside h.rect, hr] at h1
  have hi := Lin.inverse (A := fe M) (beside_left h.rect) (beside_right h.rect) h1 h2
  have hT : ∀ i k, i < n → k < n → fe (invM M n) i k = L i (n + k) := fun i k hi hk => by rw [invM_fe h i k hi hk, h3 i _ hi (by omega)]
  exact ⟨fun i k hi' hk => by rw [← hi.1 i k hi' hk]; exact Lin.mm_congr (fun t ht => hT i t hi' ht) (fun _ _ => rfl),
    fun i k hi' hk => by rw [← hi.2 i k hi' hk]; exact Lin.mm_congr (fun _ _ => rfl) (fun t ht => hT t k ht hk)⟩
theorem inv_left {M : List (List Int)} {n : Nat} (h : Mat M n n) (hr : (redN M n).2 = n) : mulM (invM M n) M n n n = oneM n := mul_one_of (invM_mat h) h (inv_both h hr).1
theorem inv_right {M : List (List Int)} {n : Nat} (h : Mat M n n) (hr : (redN M n).2 = n) : mulM M (invM M n) n n n = oneM n := mul_one_of h (invM_mat h) (inv_both h hr).2
theorem prod_rank_l {A B : List (List Int)} {n : Nat} (hA : Mat A n n) (hB : Mat B n n) : (redN (mulM A B n n n) n).2 ≤ (redN A n).2 := by
  obtain ⟨X, Y, hXY⟩ := rank_factor hA.rect (Nat.le_refl n)
  refine rank_through (mulM_mat hA hB).rect (Nat.le_refl n) (X := X) (Y := Lin.mm n Y (fe B)) fun i j hi hj => ?_
  rw [fe_mul hA hB i j hi hj, Lin.mm_congr (A' := Lin.mm (redN A n).2 X Y) (B' := fe B) (fun t ht => hXY i t hi ht) (fun _ _ => rfl), Lin.mm_assoc]
theorem prod_rank_r {A B : List (List Int)} {n : Nat} (hA : Mat A n n) (hB : Mat B n n) : (redN (mulM A B n n n) n).2 ≤ (redN B n).2 := by
  obtain ⟨X, Y, hXY⟩ := rank_factor hB.rect (Nat.le_refl n)
  refine rank_through (mulM_mat hA hB).rect (Nat.le_refl n) (X := Lin.mm n (fe A) X) (Y := Y) fun i j hi hj => ?_
  rw [fe_mul hA hB i j hi hj, Lin.mm_congr (A' := fe A) (B' := Lin.mm (redN B n).2 X Y) (fun _ _ => rfl) (fun t ht => hXY t j ht hj), ← Lin.mm_assoc]
/-- What has an inverse is of full rank. -/
theorem full_of_left {A : List (List Int)} {n : Nat} (hA : Mat A n n) {Q : Lin.M} (h : ∀ i k, i < n → k < n → Lin.mm n Q (fe A) i k = Lin.idm i k) : (redN A n).2 = n := by
  apply Nat.le_antisymm (rank_le_cols hA.rect (Nat.le_refl n))
  obtain ⟨X, Y, hXY⟩ := rank_factor hA.rect (Nat.le_refl n)
  refine Lin.no_less (A := Lin.mm n Q X) (B := Y) fun i j hi hj => ?_
  rw [← h i j hi hj, Lin.mm_assoc]
  exact Lin.mm_congr (fun _ _ => rfl) (fun t ht => (hXY t j ht hj).symm)
theorem prod_full {A B : List (List Int)} {n : Nat} (hA : Mat A n n) (hB : Mat B n n) (rA : (redN A n).2 = n) (rB : (redN B n).2 = n) :
    (redN (mulM A B n n n) n).2 = n ∧ mulM (invM B n) (invM A n) n n n = invM (mulM A B n n n) n := by
  have hP := mulM_mat hA hB
  obtain ⟨a1, a2⟩ := inv_both hA rA
  obtain ⟨b1, b2⟩ := inv_both hB rB
  have hQ := mulM_mat (invM_mat hB) (invM_mat hA)
  -- (B' A') (A B) changes nothing
  have hl : ∀ i k, i < n → k < n → Lin.mm n (fe (mulM (invM B n) (invM A n) n n n)) (fe (mulM A B n n n)) i k = Lin.idm i k := fun i k hi hk => by
    rw [Lin.mm_congr (A' := Lin.mm n (fe (invM B n)) (fe (invM A n))) (B' := Lin.mm n (fe A) (fe B)) (fun t ht => fe_mul (invM_mat hB) (invM_mat hA) i t hi ht) (fun t ht => fe_mul hA hB t k ht hk)]
    rw [Lin.mm_assoc, Lin.mm_congr (A' := fe (invM B n)) (B' := fe B) (fun _ _ => rfl) (fun t ht => by
      rw [← Lin.mm_assoc, Lin.mm_congr (A' := Lin.idm) (B' := fe B) (fun s hs => a1 t s ht hs) (fun _ _ => rfl)]
      exact Lin.idm_mm n (fe B) t k ht)]
    exact b1 i k hi hk
  have hf := full_of_left hP hl
  refine ⟨hf, ?_⟩
  obtain ⟨p1, p2⟩ := inv_both hP hf
  refine rect_ext hQ.rect (invM_mat hP).rect fun i k hi hk => ?_
  rw [← hQ.rect.fe, ← (invM_mat hP).rect.fe]
  congr 1
  -- Q = Q (P P') = (Q P) P' = P'
  have e1 : Lin.mm n (fe (mulM (invM B n) (invM A n) n n n)) (Lin.mm n (fe (mulM A B n n n)) (fe (invM (mulM A B n n n) n))) i k = fe (mulM (invM B n) (invM A n) n n n) i k := by
    rw [Lin.mm_congr (A' := fe (mulM (invM B n) (invM A n) n n n)) (B' := Lin.idm) (fun _ _ => rfl) (fun t ht => p2 t k ht hk)]
    exact Lin.mm_idm n _ i k hk
  rw [← e1, ← Lin.mm_assoc, Lin.mm_congr (A' := Lin.idm) (B' := fe (invM (mulM A B n n n) n)) (fun t ht => hl i t hi ht) (fun _ _ => rfl)]
  exact Lin.idm_mm n _ i k hi
end Go.Proofs.Ytkjaddiagembaaa
/- Package mat: Clone of numbers, Rank, Invert; the laws' One. -/
namespace Go.Proofs.Ytkjaddiagembaaa
open Go.RowKit
set_option linter.unusedVariables false
set_option maxRecDepth 100000

set_option maxHeartbeats 1000000 in
theorem cloneI (a : Addr) (len cap : Nat) (xs : List Int) (w : World) (h : Row .i64 w (some a) len cap xs) (hl : 0 < len) (hb : len ≤ 1000000) :
    Calls Try.prog 21 #[.slice (some a) len cap] w fun e w' => ∃ g c, e = .returned (.slice (some ⟨g, 0, none⟩) len c) ∧ Own w' w.heap.size 3 1 (some ⟨g, 0, none⟩) len c (xs.map (.int .i64)) ∧ Below w.heap.size w w' := by
  have hmx := h.hmax
  have hle := h.hle
  unfold maxLen at hmx
  have HR := Lib.hid h
  have qT : ∀ (w : World) (a : Option Addr) (n c n' c' : Nat), (binOp .eql 23 (.slice a n c) (.slice none n' c')).run Try.prog w = .ok (.bool a.isNone) w := fun w a n c n' c' => Lib.run_eql_slice_nil w _ _ a n c n' c' Try.underlying23
  have hone : ∀ u ∈ xs.map (Value.int .i64), u.oneCell' = true := fun u hu => by obtain ⟨x, _, rfl⟩ := List.mem_map.1 hu; rfl
  clear h
  go_enter Try.func21, Try.ntmps21
  have hown0 : Own (w.alloc (.cells #[] 3)) w.heap.size 3 1 (some ⟨w.heap.size, 0, none⟩) 0 0 [] :=
    ⟨rfl, .inr ⟨w.heap.size, 0, #[], rfl, Nat.le_refl _, heap_alloc_new w _, Nat.le_refl _, Nat.zero_le _, rfl, rfl⟩⟩
  have HR1 := Lib.hid (HR.out.below (Below_alloc1 (.cells #[] 3)))
  have HO0 := Lib.hid hown0
  have HONE := Lib.hid hone
  clear hown0 hone
  go_wp2_with (at_builtin; refine wpList_append_any rfl (.tmp 5) (.tmp 6) 23 rfl w.heap.size 3 _ 1 8 Try.underlying23 info_int1 rfl (by decide) (some ⟨w.heap.size, 0, none⟩) 0 0 [] rfl HO0.out (some a) len cap (xs.map (.int .i64)) rfl HR1.out.toV HONE.out (by unfold maxLen; omega) (by omega) (by simp) ?_)
  intro a1 c1 w1 ho hg
  have LB1 : Hid (Below w.heap.size w w1) := (Below_alloc1 _).grown hg (by simp) (fun k hk => by
    have e : w.heap.size = k := by injection hk
    omega)
  have ho' : Own w1 w.heap.size 3 1 a1 len c1 (xs.map (.int .i64)) := by simpa using ho
  have hgx : ∃ g, a1 = some ⟨g, 0, none⟩ := by
    rcases ho'.form with ⟨_, h0, _⟩ | ⟨g, cur, hg, _⟩
    · omega
    · exact ⟨g, hg⟩
  obtain ⟨g, rfl⟩ := hgx
  have HO := Lib.hid ho'
  clear ho ho' hg HO0 HR1
  go_wp2_with fail
  go_ret
  exact ⟨g, c1, rfl, HO.out, LB1.out⟩
theorem besided_some {M : List (List Int)} {r C : Nat} {w : World} {e : Ending} {w' : World} (h : Besided M r C w e w') (hr : 1 ≤ r) : ∃ g cap bs, e = .returned (.slice (some ⟨g, 0, none⟩) r cap) ∧ Nst w' w.heap.size (some ⟨g, 0, none⟩) r cap C bs M ∧ Below w.heap.size w w' := by
  obtain ⟨a, cap, bs, rfl, hn, hb⟩ := h
  rcases hn.out.form with ⟨_, h0, _⟩ | ⟨g, cur, rfl, _⟩
  · omega
  · exact ⟨g, cap, bs, rfl, hn, hb⟩
def Inverted (M : List (List Int)) (n : Nat) (w : World) (e : Ending) (w' : World) : Prop :=
  (((redN M n).2 < n ∧ e = .returned (.tuple #[.slice none 0 0, .int .i64 10])) ∨ ((redN M n).2 = n ∧ ∃ a c, e = .returned (.tuple #[.slice a n c, .int .i64 0]) ∧ Hid (SRow (Lay.int .i64).slice w' (fun _ => True) a n c (invM M n)))) ∧ Below w.heap.size w w'
set_option maxHeartbeats 4000000 in
theorem invertW {F : Nat → Prop} (a : Option Addr) (cap : Nat) (M : List (List Int)) (n : Nat) (w : World) (h : SRow (Lay.int .i64).slice w F a n cap M) (hm : Mat M n n) :
    Calls Try.prog 53 #[.slice a n cap] w (Inverted M n w) := by
  have hr1 := hm.2.1.1
  have hr8 := hm.2.1.2
  have hle := h.hle
  have hmx := h.hmax
  unfold maxLen at hmx
  obtain ⟨b, off, a', l', c', rfl, hb, e0, hrow⟩ := mget h 0 (by omega)
  obtain rfl : l' = n := by have := hrow.hlen; have := (hm.get 0 (by omega)).1; omega
  rw [Nat.add_zero] at e0
  have HS := Lib.hid h
  have HM := Lib.hid hm
  have i0 : (0 : Int) < (l' : Int) := by omega
  have i0n : 0 < l' := by omega
  have hrn := rank_le_cols hm.rect (Nat.le_refl l')
  clear h hm hrow
  go_enter Try.func53, Try.ntmps53
  go_wp2_with fail
  refine (mayM _ _ _ M l' l' w HS.out HM.out).mono ?_
  rintro e w1 ⟨rfl, rfl⟩
  have bne : ((l' : Int) != (l' : Int)) = false := by simp
  go_wp2_with fail
  refine (besideW (some ⟨b, off, none⟩) cap M l' l' l' w HS.out HM.out (.inr rfl)).mono fun e w1 hp => ?_
  obtain ⟨g, cp, bs, rfl, hN, hb1⟩ := besided_some hp hr1
  go_wp2_with fail
  refine (reduceW l' w1 hN hb1.size (by omega) (by omega) hr8).mono ?_
  rintro e w2 ⟨bs2, rfl, hN2, hb2⟩
  rw [rank_beside HM.out.rect]
  have L2 := Lib.hid (hb1.trans hb2)
  have N2 := Lib.hid hN2
  clear hp hN hb1 hN2 hb2 e0
  obtain ⟨rk, hrk⟩ : ∃ k, Hid ((redN M l').2 = k) := ⟨_, rfl⟩
  rw [hrk.out] at hrn ⊢
  by_cases hfull : rk < l'
  · have b1 : decide ((rk : Int) < (l' : Int)) = true := decide_eq_true (by omega)
    have hf2 := Lib.hid hfull
    clear hfull
    go_wp2_with fail
    go_ret2
    exact ⟨.inl ⟨by rw [hrk.out]; exact hf2.out, rfl⟩, L2.out⟩
  · have b1 : decide ((rk : Int) < (l' : Int)) = false := decide_eq_false (by omega)
    have hfull2 : Hid (rk = l') := by show _ = _; omega
    have HRED : Hid (Rect (redN (besideM M l') l').1 l' (l' + l')) := redN_rect (besideM_rect HM.out.rect l') l'
    obtain ⟨X, hX⟩ : ∃ X, Hid ((redN (besideM M l') l').1 = X) := ⟨_, rfl⟩
    have hinv : Hid (invM M l' = X.map (fun x => x.drop l')) := by show _ = _; unfold invM; rw [hX.out]
    rw [hX.out] at N2 HRED
    obtain ⟨B, hB⟩ : ∃ B, Hid (w2.heap.size = B) := ⟨_, rfl⟩
    have hlx : X.length = l' := HRED.out.1
    go_wp2_with fail
    go_loopw [6, 30] (fun ov iv wr => ∃ (i : Nat) (ao : Option Addr) (co : Nat), i ≤ l' ∧ iv = .int .i64 i ∧ ov = .slice ao i co ∧ Hid (SOwn (Lay.int .i64).slice wr B 23 (fun _ => True) ao i co ((X.map (fun x => x.drop l')).take i)) ∧ Hid (Below B w2 wr)) (fun _ iv _ => l' - (intOf iv).toNat)
    case atStart => exact ⟨0, none, 0, by omega, rfl, rfl, SOwn.nil .., Below.refl _ _⟩
    case round =>
      obtain ⟨i, ao, co, hi, rfl, rfl, hO, hL⟩ := hrel
      have hBr : B ≤ wr.heap.size := by have := hL.out.size; have := hB.out; omega
      by_cases hlt : i < l'
      · have hLw : Below w2.heap.size w2 wr := by rw [hB.out]; exact hL.out
        have N3 := N2.out.below hLw
        have e1 := N3.cell i hlt
        obtain ⟨bi, hbi⟩ : ∃ b, bs2.getD i 0 = b := ⟨_, rfl⟩
        obtain ⟨row, hrow⟩ : ∃ y, X.getD i [] = y := ⟨_, rfl⟩
        obtain ⟨hl2, hel⟩ := HRED.out.get i hlt
        rw [hrow] at hl2 hel
        rw [hbi] at e1
        have hrowd : Row .i64 wr (some ⟨bi, l', none⟩) l' l' (row.drop l') := by
          refine ⟨by rw [List.length_drop, hl2]; omega, Nat.le_refl _, by unfold maxLen; omega, (fun h => by cases h), El.wf (fun v hv => hel v (List.mem_of_mem_drop hv)), .inr ⟨bi, l', rfl, fun k hk => ?_⟩⟩
          have := N3.at i (l' + k) hlt (by omega)
          rw [hbi, hrow] at this
          rw [this]; simp [List.getD]
        have hnext : Hid ((X.map (fun x => x.drop l')).take (i + 1) = (X.map (fun x => x.drop l')).take i ++ [row.drop l']) := by
          show _ = _
          rw [List.take_add_one, List.getElem?_map, List.getElem?_eq_getElem (by omega)]
          rw [← hrow, show X.getD i [] = X[i]'(by omega) by simp [List.getD, hlx, hlt]]; rfl
        have i1 : (i : Int) < (l' : Int) := by omega
        have i2 : (0 : Int) ≤ (l' : Int) := by omega
        have i3 : (l' : Int) ≤ (l' : Int) + (l' : Int) := by omega
        have i4 : ¬ l' + l' = l' := by omega
        have i5 : l' + l' - l' = l' := by omega
        have HROW := Lib.hid hrowd
        clear hbi hrow hrowd hl2 hel N3 hLw
        go_wp2_with fail
        refine (cloneI _ l' l' _ wr HROW.out (by omega) (by omega)).mono ?_
        rintro e w4 ⟨gx, cx, rfl, hOx, hb4⟩
        have O4 := Lib.hid (hO.out.below hb4)
        have L4 := Lib.hid (hL.out.trans (hb4.mono hBr))
        have hB4 : B ≤ w4.heap.size := by have := hb4.size; omega
        have hgx := (World.ownsRow.lt hOx gx rfl)
        have hno : ∀ z, (Value.slice ao i co).ownBlock = some z → z < wr.heap.size := fun z hz => (hO.out.lt z hz).2
        have HDX : Hid ((Lay.int .i64).slice.at_ w4 (fun b => b = gx) (row.drop l') [.slice (some ⟨gx, 0, none⟩) l' cx]) := ⟨_, _, _, rfl, (hOx.row.toRow HROW.out.hwf).toS (fun x hx _ => by cases hx; rfl)⟩
        have HF2 : Hid (∀ b, b = gx → True ∧ b < w4.heap.size ∧ (Value.slice ao i co).ownBlock ≠ some b) := fun b hb => ⟨trivial, by omega, fun e => by have := hno b e; omega⟩
        clear hO hL hb4 hOx hno HROW
        go_wp2_with (at_builtin; refine wpList_append_one (L := (Lay.int .i64).slice) (wr := w4) rfl (.tmp 34) (.tmp 39) 93 rfl B 23 _ 24 Try.underlying93 info_row rfl (fun _ => True) ao i co _ rfl O4.out #[.slice (some ⟨gx, 0, none⟩) l' cx] (row.drop l') rfl (fun b => b = gx) HDX.out HF2.out (by unfold maxLen; omega) (by omega) hB4 ?_)
        intro a5 c5 w5 hown5 hg5
        have L5 := Lib.hid (O4.out.grown L4.out (Nat.le_refl _) hB4 hg5)
        have O5 := Lib.hid hown5
        clear hown5 hg5 O4 L4 HDX HF2
        go_wp2_with fail
        go_roundw
        case rel => exact ⟨i + 1, a5, c5, by omega, by go_num, rfl, by rw [hnext.out]; exact O5, L5⟩
        case measure => simp [intOf]; omega
      · obtain rfl : i = l' := by omega
        have hfin : (X.map (fun x => x.drop i)).take i = X.map (fun x => x.drop i) := List.take_of_length_le (by simp; omega)
        rw [hfin, ← hinv.out] at hO
        have HO := Lib.hid hO.out.sRow
        have LF : Hid (Below w.heap.size w wr) := L2.out.trans (hL.out.mono (by have := L2.out.size; have := hB.out; omega))
        clear hO hL hfin
        go_wp2_with fail
        go_ret2
        exact ⟨.inr ⟨by rw [hrk.out]; exact hfull2.out, _, _, rfl, HO⟩, LF.out⟩
end Go.Proofs.Ytkjaddiagembaaa
