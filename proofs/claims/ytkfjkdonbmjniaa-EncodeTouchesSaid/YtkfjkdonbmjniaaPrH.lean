/- The walk of EncodeTouches. -/
import Derived.Test.YtkfjkdonbmjniaaPrD
import Derived.Test.YtkfjkdonbmjniaaOwnStep
import Derived.BigQuiet
namespace Go.Proofs.Ytkfjkdonbmjniaa
open Go.RowKit
set_option linter.unusedVariables false
set_option maxRecDepth 100000

set_option maxHeartbeats 8000000 in
theorem encodeTouches (a : Option Addr) (la ca : Nat) (xs : List Int) (n p which at_ b : Int) (w : World) (ha : Row .u8 w a la ca xs) (hb : 0 ≤ b ∧ b ≤ 255) :
    Calls Try.prog 12 #[.slice a la ca, .int .i64 n, .int .i64 p, .int .i64 which, .int .i64 at_, .int .u8 b] w fun e w' => e = .returned (.bool true) ∧ Below w.heap.size w w' := by
  have HA := Lib.hid ha
  have a1 := ha.hle
  have a2 := ha.hmax
  unfold maxLen at a2
  have al := ha.hlen
  have hbx : Byt xs := fun x hx => byte_range (ha.hwf x hx)
  have HBX := Lib.hid hbx
  obtain ⟨hb0, hb1⟩ := hb
  clear ha hbx
  go_enter Try.func12, Try.ntmps12
  go_upto_region 3 with (first | (go_at_call_of 15 n; refine (picked n _ _ (by omega) (by omega)).mono ?_; rintro e w' ⟨rn, hrn, hrn0, hrn1, rfl, rfl⟩) | (go_at_call_of 15 p; refine (picked p _ _ (by omega) (by omega)).mono ?_; rintro e w' ⟨rp, hrp, hrp0, hrp1, rfl, rfl⟩))
  obtain ⟨cnt, hcnt⟩ : ∃ c : Nat, 1 + rn = (c : Int) := ⟨(1 + rn).toNat, by omega⟩
  obtain ⟨pp, hpp⟩ : ∃ c : Nat, 1 + rp = (c : Int) := ⟨(1 + rp).toNat, by omega⟩
  rw [hcnt, hpp]
  have hc1 : 1 ≤ cnt := by omega
  have hc2 : cnt ≤ 12 := by omega
  have hp1 : 1 ≤ pp := by omega
  have hp2 : pp ≤ 3 := by omega
  clear hrn hrn0 hrn1 hrp hrp0 hrp1 hcnt hpp
  obtain ⟨B, hB⟩ : ∃ B, Hid (w.heap.size = B) := ⟨_, rfl⟩
  have cxa := colsN_cols xs cnt hc1 hc2
  rw [al] at cxa
  have CXA := Lib.hid cxa
  obtain ⟨sz, hsz⟩ : ∃ z, Hid (colSize la cnt = z) := ⟨_, rfl⟩
  rw [hsz.out] at CXA
  have hsz64 : sz ≤ 64 := by rw [← hsz.out]; unfold colSize; omega
  have bxa := Lib.hid (colsN_byts HBX.out sz cnt)
  obtain ⟨X, hX⟩ : ∃ X, Hid (colsN xs sz cnt = X) := ⟨_, rfl⟩
  rw [hX.out] at bxa CXA
  have hXl : X.length = cnt := by rw [← hX.out, colsN_length]
  clear cxa
  go_wp2_with fail
  refine (columnsOf a la ca xs cnt w HA.out hc1 hc2).mono ?_
  rintro e w1 ⟨ax, cx, rfl, hx1, hle1⟩
  rw [al, hsz.out, hX.out, hB.out] at hx1
  rw [hB.out] at hle1
  have hBw1 : B ≤ w1.heap.size := by have := hle1.out.size; have := hB.out; omega
  have HA1 := Lib.hid (HA.out.below (by rw [hB.out]; exact hle1.out))
  go_wp2_with fail
  refine (columnsOf2 a la ca xs cnt w1 HA1.out hc1 hc2).mono ?_
  rintro e w2 ⟨ay, cy, rfl, hy1, hle2⟩
  rw [al, hsz.out, hX.out] at hy1
  have SX := Lib.hid (hx1.out.below hle2.out).sRow
  have L2 : Hid (Below B w w2) := hle1.out.trans (hle2.out.mono hBw1)
  obtain ⟨C, hC⟩ : ∃ C, Hid (w1.heap.size = C) := ⟨_, rfl⟩
  rw [hC.out] at hy1
  have hBC : B ≤ C := by rw [← hC.out]; exact hBw1
  have hCw : C ≤ w2.heap.size := by have := hle2.out.size; have := hC.out; omega
  have SX1 := Lib.hid hx1.out.sRow
  have HL2 : Hid (Below C w1 w2) := by rw [← hC.out]; exact hle2.out
  have scx := SX.out.hmax
  have slx := SX.out.hle
  have scy := hy1.out.row.hmax
  have sly := hy1.out.row.hle
  unfold maxLen at scx scy
  clear hx1 hle1 hle2 HA1 HA
  obtain ⟨bx, ox, ax0, lx0, cx0, rfl, hbxw, ex0, rx0⟩ := nest_get SX.out 0 (by omega)
  have hlx : sz = lx0 := by rw [← rx0.hlen]; exact (CXA.out.get 0 (by omega)).symm
  subst hlx
  have kx0 := rx0.hmax
  have kx1 := rx0.hle
  unfold maxLen at kx0
  rw [Nat.add_zero] at ex0
  clear rx0
  have hB2 : B ≤ w2.heap.size := by omega
  by_cases hs0 : sz = 0
  · have hz0 : ((sz : Int) == 0) = true := by simp [hs0]
    go_wp2_with fail
    refine (mayP _ cnt cx X sz w2 SX.out CXA.out).mono ?_
    rintro e w3 ⟨rfl, hle⟩
    have L3 := Lib.hid (L2.out.trans (hle.mono hB2))
    clear hle
    go_wp2_with fail
    go_ret
    exact ⟨rfl, by rw [hB.out]; exact L3.out⟩
  · have hz0 : ((sz : Int) == 0) = false := by simp [hs0]
    have hs1 : 1 ≤ sz := by omega
    clear hs0
    go_wp2_with fail
    refine (picked which cnt w2 (by omega) (by omega)).mono ?_
    rintro e w' ⟨r, hr, hr0, hr1, rfl, rfl⟩
    obtain ⟨i, rfl⟩ := Int.eq_ofNat_of_zero_le hr0
    have hi : i < cnt := by omega
    clear hr hr0
    go_wp2_with fail
    refine (picked at_ sz w2 (by omega) (by omega)).mono ?_
    rintro e w' ⟨r, hr, hr0, hr1', rfl, rfl⟩
    obtain ⟨k, rfl⟩ := Int.eq_ofNat_of_zero_le hr0
    have hk : k < sz := by omega
    clear hr hr0
    have hub : 0 ≤ (X.getD i []).getD k 0 ∧ (X.getD i []).getD k 0 ≤ 255 := (bxa.out.get i).getD k
    have hvb := xor8_bd hub ⟨hb0, hb1⟩
    obtain ⟨by_, g, ci, rfl, hCg, hCb, hgw, eb, hcl, hcm, eg, fg, hN⟩ := hy1.out.store i k hi hk _ hvb
    have HN := Lib.hid hN
    obtain ⟨u, hu⟩ : ∃ u, Hid ((X.getD i []).getD k 0 = u) := ⟨_, rfl⟩
    rw [hu.out] at eg HN
    have hCw1 : w1.heap.size ≤ w2.heap.size := by rw [hC.out]; exact hCw
    have hw1g : w1.heap.size ≤ g := by rw [hC.out]; exact hCg
    have SXV := Lib.hid (SX1.out.below ((show Below w1.heap.size w1 w2 by rw [hC.out]; exact HL2.out).setCell (p := ⟨g, k, none⟩) hw1g (.int .u8 (bits .xor .u8 u b))))
    have LV := Lib.hid (L2.out.setCell (p := ⟨g, k, none⟩) (show B ≤ g by omega) (.int .u8 (bits .xor .u8 u b)))
    unfold maxLen at hcm
    clear hN hy1 SX SX1 HL2 hub hvb ex0
    go_wp2_with fail
    obtain ⟨V, hV⟩ : ∃ V, V = w2.setCell ⟨g, k, none⟩ (.int .u8 (bits .xor .u8 u b)) := ⟨_, rfl⟩
    rw [← hV] at HN SXV LV ⊢
    obtain ⟨Y, hY⟩ : ∃ Y, Hid (X.set i ((X.getD i []).set k (bits .xor .u8 u b)) = Y) := ⟨_, rfl⟩
    rw [hY.out] at HN
    have SYV := Lib.hid HN.out.row
    have hYl : Y.length = cnt := by rw [← hY.out, List.length_set]; exact hXl
    have cy' : Cols Y sz := by
      refine ⟨by omega, by omega, by omega, fun c hc => ?_⟩
      rw [← hY.out] at hc
      rcases List.mem_or_eq_of_mem_set hc with h | h
      · exact CXA.out.2.2.2 c h
      · rw [h, List.length_set]; exact CXA.out.get i (by omega)
    have CYA := Lib.hid cy'
    have hBV : B ≤ V.heap.size := by have := LV.out.size; have := hB.out; omega
    clear hV HN cy' eb eg fg
    refine (encodeP _ cnt cx X sz pp V SXV.out CXA.out ⟨hp1, hp2⟩).mono ?_
    rintro e w3 ⟨as_, cs_, rfl, hs3, hle3⟩
    have SX3 := Lib.hid (SXV.out.below hle3.out)
    have SY3 := Lib.hid (SYV.out.below hle3.out)
    have SS3 := Lib.hid hs3.out.sRow
    have L3 : Hid (Below B w w3) := LV.out.trans (hle3.out.mono hBV)
    have hB3 : B ≤ w3.heap.size := by have := hle3.out.size; omega
    clear hs3 hle3 SXV SYV
    go_wp2_with fail
    refine (encodeP _ cnt cy Y sz pp w3 SY3.out CYA.out ⟨hp1, hp2⟩).mono ?_
    rintro e w5 ⟨at1_, ct_, rfl, hs4, hle4⟩
    have SX5 := Lib.hid (SX3.out.below hle4.out)
    have SS5 := Lib.hid (SS3.out.below hle4.out)
    have ST5 := Lib.hid hs4.out.sRow
    have L5 : Hid (Below B w w5) := L3.out.trans (hle4.out.mono hB3)
    clear hs4 hle4 SX3 SY3 SS3
    have l1 := SS5.out.hmax
    have l2 := ST5.out.hmax
    unfold maxLen at l1 l2
    have m1 := SS5.out.hle
    have m2 := ST5.out.hle
    have hne : ((pp : Int) != (pp : Int)) = false := by simp
    obtain ⟨bx', ox', ax1, lx1, cx1, heq, _, ex0, rx0⟩ := nest_get SX5.out 0 (by omega)
    injection heq with heq; injection heq with e1 e2
    subst e1 e2
    have hlx : sz = lx1 := by rw [← rx0.hlen]; exact (CXA.out.get 0 (by omega)).symm
    subst hlx
    have kx2 := rx0.hmax
    have kx3 := rx0.hle
    unfold maxLen at kx2
    rw [Nat.add_zero] at ex0
    clear rx0
    go_wp2_with fail
    go_loopw [23] (fun jv wr => ∃ (j q : Nat), j ≤ pp ∧ jv = .int .i64 j ∧ wr = w5.drewN q) (fun jv _ => pp - (intOf jv).toNat)
    case atStart => exact ⟨0, 0, by omega, rfl, rfl⟩
    case round =>
      obtain ⟨j, q, hj, rfl, rfl⟩ := hrel
      by_cases hjp : j < pp
      · obtain ⟨bs, os, as1, ls1, cs1, rfl, _, es, rs⟩ := nest_get SS5.out j hjp
        obtain ⟨bt, ot, at1, lt1, ct1, rfl, _, et, rt⟩ := nest_get ST5.out j hjp
        rw [encAll_get _ _ _ _ hjp] at rs rt
        have hls : sz = ls1 := by rw [← rs.hlen, encN_length]
        have hlt' : sz = lt1 := by rw [← rt.hlen, encN_length]
        subst hls
        subst hlt'
        have RS := Lib.hid rs
        have RT := Lib.hid rt
        have g1 := rs.hmax
        have g2 := rt.hmax
        have g4 := rs.hle
        have g5 := rt.hle
        unfold maxLen at g1 g2
        clear rs rt
        have hnz : ((sz : Int) != (sz : Int)) = false := by simp
        go_wp2
        go_quiet (fail)
        go_wp2
        go_loopw [24] (fun kv wr => ∃ (m q2 : Nat), m ≤ sz ∧ kv = .int .i64 m ∧ wr = w5.drewN q2) (fun kv _ => sz - (intOf kv).toNat)
        case atStart => exact ⟨0, _, by omega, rfl, by first | rfl | exact World.drewN_drewN _ _ _⟩
        case round =>
          obtain ⟨m, q2, hm, rfl, rfl⟩ := hrel
          by_cases hms : m < sz
          · rcases RS.out.hat with h0 | ⟨y1, z1, rfl, hc1x⟩
            · omega
            rcases RT.out.hat with h0 | ⟨y2, z2, rfl, hc2x⟩
            · omega
            have d1 := hc1x m hms
            have d2 := hc2x m hms
            have htch := enc_touch X bxa.out sz i k b ⟨hb0, hb1⟩ (by omega) (by rw [CXA.out.get i (by omega)]; exact hk) j m hms
            rw [hu.out, hY.out, hXl] at htch
            rw [hXl] at d1
            rw [hYl] at d2
            obtain ⟨sv, hsv⟩ : ∃ u, (encN X sz j cnt).getD m 0 = u := ⟨_, rfl⟩
            obtain ⟨tv, htv⟩ : ∃ v, (encN Y sz j cnt).getD m 0 = v := ⟨_, rfl⟩
            rw [hsv] at d1 htch
            rw [htv] at d2 htch
            have hki : (m : Int) < (sz : Int) := by omega
            clear hc1x hc2x hsv htv
            by_cases hmk : m = k
            · subst hmk
              have hmm : ((m : Int) == (m : Int)) = true := by simp
              by_cases hbz : b = 0
              · have e0 : sv = tv := Classical.byContradiction fun h => (htch.1 h).2 hbz
                have e1 : (b != 0) = false := by simp [hbz]
                have e2 : (sv != tv) = false := by simp [e0]
                clear e0 htch hbz
                go_wp2
                go_quiet (fail)
                go_wp2
                go_roundw
                case rel => exact ⟨m + 1, _, by omega, by go_num, by first | rfl | exact World.drewN_drewN _ _ _⟩
                case measure => simp [intOf]; omega
              · have e0 : sv ≠ tv := htch.2 ⟨rfl, hbz⟩
                have e1 : (b != 0) = true := by simp [hbz]
                have e2 : (sv != tv) = true := by simp [e0]
                clear e0 htch hbz
                go_wp2
                go_quiet (fail)
                go_wp2
                go_roundw
                case rel => exact ⟨m + 1, _, by omega, by go_num, by first | rfl | exact World.drewN_drewN _ _ _⟩
                case measure => simp [intOf]; omega
            · have hmm : ((m : Int) == (k : Int)) = false := by simp; omega
              have e0 : sv = tv := Classical.byContradiction fun h => hmk (htch.1 h).1
              have e2 : (sv != tv) = false := by simp [e0]
              clear e0 htch
              go_wp2
              go_quiet (fail)
              go_wp2
              go_roundw
              case rel => exact ⟨m + 1, _, by omega, by go_num, by first | rfl | exact World.drewN_drewN _ _ _⟩
              case measure => simp [intOf]; omega
          · obtain rfl : m = sz := by omega
            go_wp2
            go_roundw
            case rel => exact ⟨j + 1, _, by omega, by go_num, rfl⟩
            case measure => simp [intOf]; omega
      · obtain rfl : j = pp := by omega
        go_wp2_with fail
        go_ret
        exact ⟨rfl, by rw [hB.out]; exact below_drewN L5.out q⟩
end Go.Proofs.Ytkfjkdonbmjniaa
