/- The law MatProduct, walked. -/
import Derived.Test.YtkfjkdonbmjniaaMtW
namespace Go.Proofs.Ytkfjkdonbmjniaa
open Go.RowKit
set_option linter.unusedVariables false
set_option maxRecDepth 100000

set_option maxHeartbeats 8000000 in
theorem matProduct (al : Option Addr) (ll cl : Nat) (xl : List Int) (am : Option Addr) (lm cm : Nat) (xm : List Int) (nn : Int) (w : World) (hl : Row .i64 w al ll cl xl) (hm : Row .i64 w am lm cm xm) :
    Calls Try.prog 10 #[.slice al ll cl, .slice am lm cm, .int .i64 nn] w fun e w' => e = .returned (.bool true) ∧ Below w.heap.size w w' := by
  have RL := Lib.hid hl
  have RM := Lib.hid hm
  clear hl hm
  obtain ⟨n, hn⟩ : ∃ n, Hid (sideN nn = n) := ⟨_, rfl⟩
  have bn : 1 ≤ n ∧ n ≤ 8 := by rw [← hn.out]; exact sideN_bd nn
  go_enter Try.func10, Try.ntmps10
  go_wp2_with fail
  refine (side nn w).mono ?_
  rintro e w' ⟨rfl, rfl⟩
  rw [hn.out]
  go_wp2_with fail
  refine (side nn w).mono ?_
  rintro e w' ⟨rfl, rfl⟩
  rw [hn.out]
  go_wp2_with fail
  refine (matrixOf al ll cl xl n n w RL.out bn bn).mono ?_
  rintro e w1 ⟨aX, cX, X, rfl, mX, sX, hle1⟩
  have MX := Lib.hid mX
  have SX1 := Lib.hid sX.out.sRow
  have L1 := hle1
  have RM1 := Lib.hid (RM.out.below hle1.out)
  clear mX sX hle1
  go_wp2_with fail
  refine (side nn w1).mono ?_
  rintro e w' ⟨rfl, rfl⟩
  rw [hn.out]
  go_wp2_with fail
  refine (side nn w1).mono ?_
  rintro e w' ⟨rfl, rfl⟩
  rw [hn.out]
  go_wp2_with fail
  refine (matrixOf am lm cm xm n n w1 RM1.out bn bn).mono ?_
  rintro e w2 ⟨aY, cY, Y, rfl, mY, sY, hle2⟩
  have MY := Lib.hid mY
  have SY2 := Lib.hid sY.out.sRow
  have SX2 := Lib.hid (SX1.out.below hle2.out)
  have L2 := Lib.hid (L1.out.trans (hle2.out.mono L1.out.size))
  clear mY sY hle2 SX1 RM1
  go_wp2_with fail
  refine (mulMat aX cX aY cY X Y n n n w2 SX2.out SY2.out MX.out MY.out).mono ?_
  rintro e w3 ⟨aP, cP, rfl, sP, hle3⟩
  obtain ⟨P, hP⟩ : ∃ P, Hid (mulM X Y n n n = P) := ⟨_, rfl⟩
  have MP0 : Mat P n n := by rw [← hP.out]; exact mulM_mat MX.out MY.out
  rw [hP.out] at sP
  have MP := Lib.hid MP0
  have SP3 := Lib.hid sP.out.sRow
  have SX3 := Lib.hid (SX2.out.below hle3.out)
  have SY3 := Lib.hid (SY2.out.below hle3.out)
  have L3 := Lib.hid (L2.out.trans (hle3.out.mono L2.out.size))
  clear sP hle3 SX2 SY2 MP0
  obtain ⟨rx, hrx⟩ : ∃ k, Hid ((redN X n).2 = k) := ⟨_, rfl⟩
  obtain ⟨ry, hry⟩ : ∃ k, Hid ((redN Y n).2 = k) := ⟨_, rfl⟩
  obtain ⟨rp, hrp⟩ : ∃ k, Hid ((redN P n).2 = k) := ⟨_, rfl⟩
  have hxn : rx ≤ n := by rw [← hrx.out]; exact rank_le_cols MX.out.rect (Nat.le_refl n)
  have hyn : ry ≤ n := by rw [← hry.out]; exact rank_le_cols MY.out.rect (Nat.le_refl n)
  have hpn : rp ≤ n := by rw [← hrp.out]; exact rank_le_cols MP.out.rect (Nat.le_refl n)
  have hpx : rp ≤ rx := by rw [← hrp.out, ← hrx.out, ← hP.out]; exact prod_rank_l MX.out MY.out
  have hpy : rp ≤ ry := by rw [← hrp.out, ← hry.out, ← hP.out]; exact prod_rank_r MX.out MY.out
  go_wp2_with fail
  refine (rankW aX cX X n n w3 SX3.out MX.out).mono ?_
  rintro e w4 ⟨rfl, hle⟩
  rw [hrx.out]
  have SX4 := Lib.hid (SX3.out.below hle)
  have SY4 := Lib.hid (SY3.out.below hle)
  have SP4 := Lib.hid (SP3.out.below hle)
  have L4 := Lib.hid (L3.out.trans (hle.mono L3.out.size))
  clear hle SX3 SY3 SP3
  go_wp2_with fail
  refine (rankW aY cY Y n n w4 SY4.out MY.out).mono ?_
  rintro e w5 ⟨rfl, hle⟩
  rw [hry.out]
  have SX5 := Lib.hid (SX4.out.below hle)
  have SY5 := Lib.hid (SY4.out.below hle)
  have SP5 := Lib.hid (SP4.out.below hle)
  have L5 := Lib.hid (L4.out.trans (hle.mono L4.out.size))
  clear hle SX4 SY4 SP4
  go_wp2_with fail
  refine (rankW aP cP P n n w5 SP5.out MP.out).mono ?_
  rintro e w6 ⟨rfl, hle⟩
  rw [hrp.out]
  have SX6 := Lib.hid (SX5.out.below hle)
  have SY6 := Lib.hid (SY5.out.below hle)
  have SP6 := Lib.hid (SP5.out.below hle)
  have L6 := Lib.hid (L5.out.trans (hle.mono L5.out.size))
  clear hle SX5 SY5 SP5
  have hgt3 : ¬ rx < rp := by omega
  have hgt4 : ¬ ry < rp := by omega
  have HFULL : Hid (rx = n → ry = n → rp = n ∧ mulM (invM Y n) (invM X n) n n n = invM P n) := fun h1 h2 => by
    have := prod_full MX.out MY.out (hrx.out.trans h1) (hry.out.trans h2)
    rw [hP.out] at this
    exact ⟨hrp.out.symm.trans this.1, this.2⟩
  by_cases hxy : rx ≤ ry
  · have m1 : min rx ry = rx := by omega
    have m2 : ¬ ry < rx := by omega
    have m3 : min ((rx : Nat) : Int) (ry : Int) = (rx : Int) := by omega
    go_wp2_with fail
    refine (invertW aX cX X n w6 SX6.out MX.out).mono ?_
    rintro e w7 ⟨hcX, hle7⟩
    rw [hrx.out] at hcX
    have SY7 := Lib.hid (SY6.out.below hle7)
    have SP7 := Lib.hid (SP6.out.below hle7)
    have L7 := Lib.hid (L6.out.trans (hle7.mono L6.out.size))
    rcases hcX with ⟨hltX, rfl⟩ | ⟨heqX, aI, cI, rfl, hI⟩
    · clear hle7
      go_wp2_with fail
      refine (invertW aY cY Y n w7 SY7.out MY.out).mono ?_
      rintro e w8 ⟨hcY, hle8⟩
      rw [hry.out] at hcY
      have SP8 := Lib.hid (SP7.out.below hle8)
      have L8 := Lib.hid (L7.out.trans (hle8.mono L7.out.size))
      rcases hcY with ⟨hltY, rfl⟩ | ⟨heqY, aJ, cJ, rfl, hJ⟩
      · clear hle8
        go_wp2_with fail
        refine (invertW aP cP P n w8 SP8.out MP.out).mono ?_
        rintro e w9 ⟨hcP, hle9⟩
        rw [hrp.out] at hcP
        have L9 := Lib.hid (L8.out.trans (hle9.mono L8.out.size))
        rcases hcP with ⟨hltP, rfl⟩ | ⟨heqP, _⟩
        · clear hle9 hltP
          go_wp2_with fail
          go_ret
          exact ⟨rfl, L9.out⟩
        · omega
      · have IY8 := Lib.hid hJ.out
        clear hle8 hJ
        go_wp2_with fail
        refine (invertW aP cP P n w8 SP8.out MP.out).mono ?_
        rintro e w9 ⟨hcP, hle9⟩
        rw [hrp.out] at hcP
        have L9 := Lib.hid (L8.out.trans (hle9.mono L8.out.size))
        rcases hcP with ⟨hltP, rfl⟩ | ⟨heqP, _⟩
        · clear hle9 hltP
          go_wp2_with fail
          go_ret
          exact ⟨rfl, L9.out⟩
        · omega
    · have IX7 := Lib.hid hI.out
      clear hle7 hI
      go_wp2_with fail
      refine (invertW aY cY Y n w7 SY7.out MY.out).mono ?_
      rintro e w8 ⟨hcY, hle8⟩
      rw [hry.out] at hcY
      have SP8 := Lib.hid (SP7.out.below hle8)
      have L8 := Lib.hid (L7.out.trans (hle8.mono L7.out.size))
      have IX8 := Lib.hid (IX7.out.below hle8)
      rcases hcY with ⟨hltY, rfl⟩ | ⟨heqY, aJ, cJ, rfl, hJ⟩
      · clear hle8
        go_wp2_with fail
        refine (invertW aP cP P n w8 SP8.out MP.out).mono ?_
        rintro e w9 ⟨hcP, hle9⟩
        rw [hrp.out] at hcP
        have L9 := Lib.hid (L8.out.trans (hle9.mono L8.out.size))
        rcases hcP with ⟨hltP, rfl⟩ | ⟨heqP, _⟩
        · clear hle9 hltP
          go_wp2_with fail
          go_ret
          exact ⟨rfl, L9.out⟩
        · omega
      · have IY8 := Lib.hid hJ.out
        clear hle8 hJ
        go_wp2_with fail
        refine (invertW aP cP P n w8 SP8.out MP.out).mono ?_
        rintro e w9 ⟨hcP, hle9⟩
        rw [hrp.out] at hcP
        have L9 := Lib.hid (L8.out.trans (hle9.mono L8.out.size))
        have IX9 := Lib.hid (IX8.out.below hle9)
        have IY9 := Lib.hid (IY8.out.below hle9)
        obtain ⟨hf1, hf2⟩ := HFULL.out heqX heqY
        rcases hcP with ⟨hltP, rfl⟩ | ⟨heqP, aK, cK, rfl, hK⟩
        · omega
        · have K9 := Lib.hid hK.out
          have HF2 := Lib.hid hf2
          clear hle9 hK hf1 hf2 heqP heqX heqY
          go_wp2_with fail
          refine (mulMat aJ cJ aI cI (invM Y n) (invM X n) n n n w9 IY9.out IX9.out (invM_mat MY.out) (invM_mat MX.out)).mono ?_
          rintro e w10 ⟨aQ, cQ, rfl, sQ, hle10⟩
          rw [HF2.out] at sQ
          have L10 := Lib.hid (L9.out.trans (hle10.out.mono L9.out.size))
          have K10 := Lib.hid (K9.out.below hle10.out)
          have Q10 := Lib.hid sQ.out.sRow
          clear sQ hle10
          go_wp2_with fail
          refine (sameMat aQ cQ aK cK (invM P n) n n w10 Q10.out K10.out (invM_mat MP.out)).mono ?_
          rintro e w11 ⟨rfl, q, rfl⟩
          go_wp2_with fail
          go_ret
          exact ⟨rfl, below_drewN L10.out q⟩
  · have m1 : min rx ry = ry := by omega
    have m2 : ry < rx := by omega
    have m3 : min ((rx : Nat) : Int) (ry : Int) = (ry : Int) := by omega
    go_wp2_with fail
    refine (invertW aX cX X n w6 SX6.out MX.out).mono ?_
    rintro e w7 ⟨hcX, hle7⟩
    rw [hrx.out] at hcX
    have SY7 := Lib.hid (SY6.out.below hle7)
    have SP7 := Lib.hid (SP6.out.below hle7)
    have L7 := Lib.hid (L6.out.trans (hle7.mono L6.out.size))
    rcases hcX with ⟨hltX, rfl⟩ | ⟨heqX, aI, cI, rfl, hI⟩
    · clear hle7
      go_wp2_with fail
      refine (invertW aY cY Y n w7 SY7.out MY.out).mono ?_
      rintro e w8 ⟨hcY, hle8⟩
      rw [hry.out] at hcY
      have SP8 := Lib.hid (SP7.out.below hle8)
      have L8 := Lib.hid (L7.out.trans (hle8.mono L7.out.size))
      rcases hcY with ⟨hltY, rfl⟩ | ⟨heqY, aJ, cJ, rfl, hJ⟩
      · clear hle8
        go_wp2_with fail
        refine (invertW aP cP P n w8 SP8.out MP.out).mono ?_
        rintro e w9 ⟨hcP, hle9⟩
        rw [hrp.out] at hcP
        have L9 := Lib.hid (L8.out.trans (hle9.mono L8.out.size))
        rcases hcP with ⟨hltP, rfl⟩ | ⟨heqP, _⟩
        · clear hle9 hltP
          go_wp2_with fail
          go_ret
          exact ⟨rfl, L9.out⟩
        · omega
      · have IY8 := Lib.hid hJ.out
        clear hle8 hJ
        go_wp2_with fail
        refine (invertW aP cP P n w8 SP8.out MP.out).mono ?_
        rintro e w9 ⟨hcP, hle9⟩
        rw [hrp.out] at hcP
        have L9 := Lib.hid (L8.out.trans (hle9.mono L8.out.size))
        rcases hcP with ⟨hltP, rfl⟩ | ⟨heqP, _⟩
        · clear hle9 hltP
          go_wp2_with fail
          go_ret
          exact ⟨rfl, L9.out⟩
        · omega
    · have IX7 := Lib.hid hI.out
      clear hle7 hI
      go_wp2_with fail
      refine (invertW aY cY Y n w7 SY7.out MY.out).mono ?_
      rintro e w8 ⟨hcY, hle8⟩
      rw [hry.out] at hcY
      have SP8 := Lib.hid (SP7.out.below hle8)
      have L8 := Lib.hid (L7.out.trans (hle8.mono L7.out.size))
      have IX8 := Lib.hid (IX7.out.below hle8)
      rcases hcY with ⟨hltY, rfl⟩ | ⟨heqY, aJ, cJ, rfl, hJ⟩
      · clear hle8
        go_wp2_with fail
        refine (invertW aP cP P n w8 SP8.out MP.out).mono ?_
        rintro e w9 ⟨hcP, hle9⟩
        rw [hrp.out] at hcP
        have L9 := Lib.hid (L8.out.trans (hle9.mono L8.out.size))
        rcases hcP with ⟨hltP, rfl⟩ | ⟨heqP, _⟩
        · clear hle9 hltP
          go_wp2_with fail
          go_ret
          exact ⟨rfl, L9.out⟩
        · omega
      · have IY8 := Lib.hid hJ.out
        clear hle8 hJ
        go_wp2_with fail
        refine (invertW aP cP P n w8 SP8.out MP.out).mono ?_
        rintro e w9 ⟨hcP, hle9⟩
        rw [hrp.out] at hcP
        have L9 := Lib.hid (L8.out.trans (hle9.mono L8.out.size))
        have IX9 := Lib.hid (IX8.out.below hle9)
        have IY9 := Lib.hid (IY8.out.below hle9)
        obtain ⟨hf1, hf2⟩ := HFULL.out heqX heqY
        rcases hcP with ⟨hltP, rfl⟩ | ⟨heqP, aK, cK, rfl, hK⟩
        · omega
        · have K9 := Lib.hid hK.out
          have HF2 := Lib.hid hf2
          clear hle9 hK hf1 hf2 heqP heqX heqY
          go_wp2_with fail
          refine (mulMat aJ cJ aI cI (invM Y n) (invM X n) n n n w9 IY9.out IX9.out (invM_mat MY.out) (invM_mat MX.out)).mono ?_
          rintro e w10 ⟨aQ, cQ, rfl, sQ, hle10⟩
          rw [HF2.out] at sQ
          have L10 := Lib.hid (L9.out.trans (hle10.out.mono L9.out.size))
          have K10 := Lib.hid (K9.out.below hle10.out)
          have Q10 := Lib.hid sQ.out.sRow
          clear sQ hle10
          go_wp2_with fail
          refine (sameMat aQ cQ aK cK (invM P n) n n w10 Q10.out K10.out (invM_mat MP.out)).mono ?_
          rintro e w11 ⟨rfl, q, rfl⟩
          go_wp2_with fail
          go_ret
          exact ⟨rfl, below_drewN L10.out q⟩
end Go.Proofs.Ytkfjkdonbmjniaa
