/- The walk of EncodeSums. -/
import Derived.Test.YtkfjkdonbmjniaaPrL
import Derived.Test.YtkfjkdonbmjniaaOwnStep
import Derived.Deep.RegionLaw
import Derived.BigQuiet
import Derived.Deep.DeepCutAuto
import Derived.Deep.CutBlock
namespace Go.Proofs.Ytkfjkdonbmjniaa
open Go.RowKit
set_option linter.unusedVariables false
set_option maxRecDepth 100000

theorem byt_of {w : World} {a : Option Addr} {len cap : Nat} {xs : List Int} (h : Row .u8 w a len cap xs) : Byt xs := fun x hx => byte_range (h.hwf x hx)
theorem Row.upto {k : IntKind} {w : World} {a : Option Addr} {len cap : Nat} {xs : List Int} (h : Row k w a len cap xs) (n : Nat) (hn : n ≤ len) : Row k w a n cap (xs.take n) := by
  have hl := h.hlen
  have hc := h.hle
  refine ⟨by rw [List.length_take]; omega, by omega, h.hmax, h.hnil, fun x hx => h.hwf x (List.mem_of_mem_take hx), ?_⟩
  rcases h.hat with h0 | ⟨b, off, ha, hcell⟩
  · left; omega
  · right; refine ⟨b, off, ha, fun i hi => ?_⟩
    rw [hcell i (by omega)]
    simp [List.getD, hi]
set_option maxHeartbeats 8000000 in
theorem encodeSums (a : Option Addr) (la ca : Nat) (xs : List Int) (b : Option Addr) (lb cb : Nat) (ys : List Int) (n p : Int) (w : World) (ha : Row .u8 w a la ca xs) (hb : Row .u8 w b lb cb ys) :
    Calls Try.prog 11 #[.slice a la ca, .slice b lb cb, .int .i64 n, .int .i64 p] w fun e w' => e = .returned (.bool true) ∧ Below w.heap.size w w' := by
  have HA := Lib.hid ha
  have HB := Lib.hid hb
  have a1 := ha.hle
  have a2 := ha.hmax
  have b1 := hb.hle
  have b2 := hb.hmax
  unfold maxLen at a2 b2
  have al := ha.hlen
  have bl := hb.hlen
  clear ha hb
  go_enter Try.func11, Try.ntmps11
  go_upto_region 4 with (first | (go_at_call_of 15 n; refine (picked n _ _ (by omega) (by omega)).mono ?_; rintro e w' ⟨rn, hrn, hrn0, hrn1, rfl, rfl⟩) | (go_at_call_of 15 p; refine (picked p _ _ (by omega) (by omega)).mono ?_; rintro e w' ⟨rp, hrp, hrp0, hrp1, rfl, rfl⟩))
  obtain ⟨s, hs⟩ : ∃ s : Nat, (if lb < la then (lb : Int) else (la : Int)) = (s : Int) := by split; exact ⟨lb, rfl⟩; exact ⟨la, rfl⟩
  have hsa : s ≤ la ∧ s ≤ lb := by split at hs <;> omega
  obtain ⟨cnt, hcnt⟩ : ∃ c : Nat, 1 + rn = (c : Int) := ⟨(1 + rn).toNat, by omega⟩
  obtain ⟨pp, hpp⟩ : ∃ c : Nat, 1 + rp = (c : Int) := ⟨(1 + rp).toNat, by omega⟩
  rw [hs, hcnt, hpp]
  have hc1 : 1 ≤ cnt := by omega
  have hc2 : cnt ≤ 12 := by omega
  have hp1 : 1 ≤ pp := by omega
  have hp2 : pp ≤ 3 := by omega
  obtain ⟨hsa1, hsb1⟩ := hsa
  clear hs hrn hrn0 hrn1 hrp hrp0 hrp1 hcnt hpp
  obtain ⟨B, hB⟩ : ∃ B, Hid (w.heap.size = B) := ⟨_, rfl⟩
  have RA := Lib.hid (HA.out.upto s hsa1)
  have RB := Lib.hid (HB.out.upto s hsb1)
  have hxl : (xs.take s).length = s := by rw [List.length_take]; omega
  have hyl : (ys.take s).length = s := by rw [List.length_take]; omega
  have bxa := Lib.hid (colsN_byts (byt_of RA.out) (colSize s cnt) cnt)
  have bya := Lib.hid (colsN_byts (byt_of RB.out) (colSize s cnt) cnt)
  have cxa := colsN_cols (xs.take s) cnt hc1 hc2
  have cya := colsN_cols (ys.take s) cnt hc1 hc2
  rw [hxl] at cxa
  rw [hyl] at cya
  have CXA := Lib.hid cxa
  have CYA := Lib.hid cya
  obtain ⟨sz, hsz⟩ : ∃ z, Hid (colSize s cnt = z) := ⟨_, rfl⟩
  rw [hsz.out] at bxa bya CXA CYA
  have hsz64 : sz ≤ 64 := by rw [← hsz.out]; unfold colSize; omega
  obtain ⟨X, hX⟩ : ∃ X, Hid (colsN (xs.take s) sz cnt = X) := ⟨_, rfl⟩
  obtain ⟨Y, hY⟩ : ∃ Y, Hid (colsN (ys.take s) sz cnt = Y) := ⟨_, rfl⟩
  rw [hX.out] at bxa CXA
  rw [hY.out] at bya CYA
  have hXl : X.length = cnt := by rw [← hX.out, colsN_length]
  have hYl : Y.length = cnt := by rw [← hY.out, colsN_length]
  clear cxa cya
  go_wp2_with fail
  refine (columnsOf a s ca (xs.take s) cnt w RA.out hc1 hc2).mono ?_
  rintro e w1 ⟨ax, cx, rfl, hx1, hle1⟩
  rw [hxl, hsz.out, hX.out, hB.out] at hx1
  rw [hB.out] at hle1
  have hBw1 : B ≤ w1.heap.size := by have := hle1.out.size; have := hB.out; omega
  have RB1 := Lib.hid (RB.out.below (by rw [hB.out]; exact hle1.out))
  clear RA RB
  go_wp2_with fail
  refine (columnsOf b s cb (ys.take s) cnt w1 RB1.out hc1 hc2).mono ?_
  rintro e w2 ⟨ay, cy, rfl, hy1, hle2⟩
  rw [hyl, hsz.out, hY.out] at hy1
  have SX := Lib.hid (hx1.out.below hle2.out).sRow
  have SY := Lib.hid hy1.out.sRow
  have L2 : Hid (Below B w w2) := hle1.out.trans (hle2.out.mono hBw1)
  have hBw2 : B ≤ w2.heap.size := by have := hle2.out.size; omega
  clear hx1 hy1 hle1 hle2 RB1
  have scx := SX.out.hmax
  have scy := SY.out.hmax
  have slx := SX.out.hle
  have sly := SY.out.hle
  unfold maxLen at scx scy
  go_wp2_with fail
  go_loopw [14, 15] (fun zv iv wr => ∃ (i : Nat) (az : Option Addr) (cz : Nat), i ≤ cnt ∧ iv = .int .i64 i ∧ zv = .slice az i cz ∧ Hid (SOwn (Lay.int .u8).slice wr w2.heap.size 45 (fun b => w2.heap.size ≤ b) az i cz (addCols X Y sz i)) ∧ Hid (Below w2.heap.size w2 wr)) (fun _ iv _ => cnt - (intOf iv).toNat)
  case atStart => exact ⟨0, none, 0, by omega, rfl, rfl, SOwn.nil .., Below.refl _ _⟩
  case round =>
    obtain ⟨i, az, cz, hi, rfl, rfl, hZ, hL⟩ := hrel
    obtain ⟨wo, rfl⟩ : ∃ W, W = wr := ⟨wr, rfl⟩
    have hwr : w2.heap.size ≤ wo.heap.size := hL.out.size
    by_cases hlt : i < cnt
    · obtain ⟨bx, ox, ax1, lx1, cx1, rfl, hbx, ex, rx⟩ := nest_get (SX.out.below hL.out) i hlt
      obtain ⟨by', oy, ay1, ly1, cy1, rfl, hby, ey, ry⟩ := nest_get (SY.out.below hL.out) i hlt
      have hlx : sz = lx1 := by rw [← rx.hlen]; exact (CXA.out.get i (by omega)).symm
      have hly : sz = ly1 := by rw [← ry.hlen]; exact (CYA.out.get i (by omega)).symm
      subst hlx
      subst hly
      obtain ⟨U, hU⟩ : ∃ U, Hid (X.getD i [] = U) := ⟨_, rfl⟩
      obtain ⟨V, hV⟩ : ∃ V, Hid (Y.getD i [] = V) := ⟨_, rfl⟩
      rw [hU.out] at rx
      rw [hV.out] at ry
      have RX := Lib.hid rx
      have RY := Lib.hid ry
      have bU := byt_of rx
      have bV := byt_of ry
      have mx := rx.hmax
      have my := ry.hmax
      have mlx := rx.hle
      have mly := ry.hle
      unfold maxLen at mx my
      clear rx ry
      go_wp2_with fail
      go_loopw [16, 17] (fun cv kv wi => ∃ (k : Nat) (ac : Option Addr) (cc : Nat), k ≤ sz ∧ kv = .int .i64 k ∧ cv = .slice ac k cc ∧ Hid (SOwn (Lay.int .u8) wi wo.heap.size 5 (fun _ => False) ac k cc (addCol U V k)) ∧ Hid (Below wo.heap.size wo wi)) (fun _ kv _ => sz - (intOf kv).toNat)
      case atStart => exact ⟨0, none, 0, by omega, rfl, rfl, SOwn.nil .., Below.refl _ _⟩
      case round =>
        obtain ⟨k, ac, cc, hk, rfl, rfl, hC, hLi⟩ := hrel
        have ex' : wr.cell? ⟨bx, ox + i, none⟩ = some (.slice ax1 sz cx1) := (hLi.out.cell (p := ⟨bx, ox + i, none⟩) hbx).trans ex
        have ey' : wr.cell? ⟨by', oy + i, none⟩ = some (.slice ay1 sz cy1) := (hLi.out.cell (p := ⟨by', oy + i, none⟩) hby).trans ey
        have hwi : wo.heap.size ≤ wr.heap.size := hLi.out.size
        by_cases hkl : k < sz
        · rcases RX.out.hat with h0 | ⟨b1, o1, rfl, hc1x⟩
          · omega
          rcases RY.out.hat with h0 | ⟨b2, o2, rfl, hc1y⟩
          · omega
          obtain ⟨u, hu⟩ : ∃ u, Hid (U.getD k 0 = u) := ⟨_, rfl⟩
          obtain ⟨v, hv⟩ : ∃ v, Hid (V.getD k 0 = v) := ⟨_, rfl⟩
          have dx := hc1x k hkl
          have dy := hc1y k hkl
          rw [hu.out] at dx
          rw [hv.out] at dy
          have ub : 0 ≤ u ∧ u ≤ 255 := by rw [← hu.out]; exact bU.getD k
          have vb : 0 ≤ v ∧ v ≤ 255 := by rw [← hv.out]; exact bV.getD k
          have dx' : wr.cell? ⟨b1, o1 + k, none⟩ = some (.int .u8 u) := (hLi.out.cell (p := ⟨b1, o1 + k, none⟩) (World.block_lt_of_cell? _ _ dx)).trans dx
          have dy' : wr.cell? ⟨b2, o2 + k, none⟩ = some (.int .u8 v) := (hLi.out.cell (p := ⟨b2, o2 + k, none⟩) (World.block_lt_of_cell? _ _ dy)).trans dy
          have HW := Lib.hid (WalkArith.wf_u8 (xor8_bd ub vb))
          have HC2 := Lib.hid (hC.out.below (below_drewN (Below.refl _ _) 1) : SOwn (Lay.int .u8) wr.drew wo.heap.size 5 (fun _ => False) ac k cc (addCol U V k))
          have hwd : wo.heap.size ≤ wr.drew.heap.size := hwi
          have LD : Hid (Below wo.heap.size wo wr.drew) := hLi.out.drew
          have hsucc : Hid (addCol U V (k + 1) = addCol U V k ++ [bits .xor .u8 u v]) := by show _ = _; rw [addCol_succ, hu.out, hv.out]
          clear dx dy hc1x hc1y ub vb
          go_upto_block 3 with fail
          go_cut [16] (fun v wx => ∃ a5 c5, v = .slice a5 (k + 1) c5 ∧ Hid (SOwn (Lay.int .u8) wx wo.heap.size 5 (fun _ => False) a5 (k + 1) c5 (addCol U V (k + 1))) ∧ Hid (Below wo.heap.size wo wx))
          case first =>
            go_upto_region 14 with fail
            go_region_law (refine step_append_one (L := Lay.int .u8) (wr := wr.drew) rfl (.tmp 61) (.tmp 77) 45 rfl wo.heap.size 5 _ 1 Try.underlying45 info_byte rfl (fun _ => False) ac k cc _ (by simp [Act.eval]) HC2.out #[.int .u8 (bits .xor .u8 u v)] (bits .xor .u8 u v) (by simp [Act.eval]) (fun _ => False) ⟨rfl, HW.out⟩ (fun b h => h.elim) (by unfold maxLen; omega) (by omega) hwd ?_; intro a5 c5 w5 hown5 hg5)
            all_goals
              have L5 : Hid (Below wo.heap.size wo w5) := HC2.out.grown LD.out (Nat.le_refl _) hwd hg5
              rw [← hsucc.out] at hown5
              go_wp2_with fail
              go_meet
              exact ⟨a5, c5, rfl, hown5, L5⟩
          obtain ⟨a5, c5, rfl, O5, L5⟩ := hcut
          clear HC2 LD hC hLi HW
          go_wp2_with fail
          go_roundw
          case rel => exact ⟨k + 1, a5, c5, by omega, by go_num, rfl, O5, L5⟩
          case measure => simp [intOf]; omega
        · obtain rfl : k = sz := by omega
          have hwf : ∀ x ∈ addCol U V k, (Lit.int .u8 x).wf = true := fun x hx => WalkArith.wf_u8 (addCol_byt bU bV k x hx)
          have HR := Lib.hid hC.out.ints
          have hlt5 : Hid (∀ z, (Value.slice ac k cc).ownBlock = some z → wo.heap.size ≤ z ∧ z < wr.heap.size) := fun z hz => hC.out.lt z hz
          have hno : Hid (∀ z, (Value.slice az i cz).ownBlock = some z → z < wo.heap.size) := fun z hz => (hZ.out.lt z hz).2
          have OZ := Lib.hid (hZ.out.below hLi.out)
          have hLw : Hid (Below w2.heap.size w2 wr) := hL.out.trans (hLi.out.mono hwr)
          have hBwr : w2.heap.size ≤ wr.heap.size := by omega
          clear hC hZ hL hwf
          go_wp2_with (at_builtin; refine wpList_append_one (L := (Lay.int .u8).slice) rfl (.tmp 79) (.tmp 81) 46 rfl w2.heap.size 45 _ 24 Try.underlying46 info_bytes rfl (fun b => w2.heap.size ≤ b) az i cz _ rfl OZ.out #[.slice ac k cc] (addCol U V k) rfl (fun b => (Value.slice ac k cc).ownBlock = some b) ⟨_, _, _, rfl, Row.toS HR.out (fun x hx _ => by rw [hx]; rfl)⟩ (fun b h => by have h3 := hlt5.out b h; exact ⟨by omega, h3.2, fun e => by have := hno.out _ e; omega⟩) (by unfold maxLen; omega) (by omega) hBwr ?_)
          intro a7 c7 w7 hown7 hg7
          have L7 : Hid (Below w2.heap.size w2 w7) := OZ.out.grown hLw.out (Nat.le_refl _) hBwr hg7
          have O7 : Hid (SOwn (Lay.int .u8).slice w7 w2.heap.size 45 (fun b => w2.heap.size ≤ b) a7 (i + 1) c7 (addCols X Y k (i + 1))) := by
            rw [addCols_succ, hU.out, hV.out]; exact hown7
          clear hown7 hg7 OZ hLw HR hlt5 hno
          go_wp2_with fail
          go_roundw
          case rel => exact ⟨i + 1, a7, c7, by omega, by go_num, rfl, O7, L7⟩
          case measure => simp [intOf]; omega
    · obtain rfl : i = cnt := by omega
      have SX1 := Lib.hid (SX.out.below hL.out)
      have SY1 := Lib.hid (SY.out.below hL.out)
      have SZ1 := Lib.hid hZ.out.sRow
      have L1 : Hid (Below B w wo) := L2.out.trans (hL.out.mono hBw2)
      have hBo : B ≤ wo.heap.size := by omega
      have CZ := Lib.hid (addCols_cols X Y sz i hc1 hc2 (by omega))
      have clz := SZ1.out.hmax
      have czz := SZ1.out.hle
      unfold maxLen at clz
      clear hZ hL
      go_wp2_with fail
      refine (encodeP ax i cx X sz pp wo SX1.out CXA.out ⟨hp1, hp2⟩).mono ?_
      rintro e w3 ⟨as_, cs_, rfl, hs3, hle3⟩
      have SX3 := Lib.hid (SX1.out.below hle3.out)
      have SY3 := Lib.hid (SY1.out.below hle3.out)
      have SZ3 := Lib.hid (SZ1.out.below hle3.out)
      have SS3 := Lib.hid hs3.out.sRow
      have L3 : Hid (Below B w w3) := L1.out.trans (hle3.out.mono hBo)
      have hB3 : B ≤ w3.heap.size := by have := hle3.out.size; omega
      clear hs3 hle3 SX1 SY1 SZ1
      go_wp2_with fail
      refine (encodeP ay i cy Y sz pp w3 SY3.out CYA.out ⟨hp1, hp2⟩).mono ?_
      rintro e w4 ⟨at_, ct_, rfl, hs4, hle4⟩
      have SX4 := Lib.hid (SX3.out.below hle4.out)
      have SZ4 := Lib.hid (SZ3.out.below hle4.out)
      have SS4 := Lib.hid (SS3.out.below hle4.out)
      have ST4 := Lib.hid hs4.out.sRow
      have L4 : Hid (Below B w w4) := L3.out.trans (hle4.out.mono hB3)
      have hB4 : B ≤ w4.heap.size := by have := hle4.out.size; omega
      clear hs4 hle4 SX3 SY3 SZ3 SS3
      go_wp2_with fail
      refine (encodeP az i cz (addCols X Y sz i) sz pp w4 SZ4.out CZ.out ⟨hp1, hp2⟩).mono ?_
      rintro e w5 ⟨au, cu, rfl, hs5, hle5⟩
      have SX5 := Lib.hid (SX4.out.below hle5.out)
      have SS5 := Lib.hid (SS4.out.below hle5.out)
      have ST5 := Lib.hid (ST4.out.below hle5.out)
      have SU5 := Lib.hid hs5.out.sRow
      have L5 : Hid (Below B w w5) := L4.out.trans (hle5.out.mono hB4)
      clear hs5 hle5 SX4 SZ4 SS4 ST4
      have l1 := SS5.out.hmax
      have l2 := ST5.out.hmax
      have l3 := SU5.out.hmax
      unfold maxLen at l1 l2 l3
      have m1 := SS5.out.hle
      have m2 := ST5.out.hle
      have m3 := SU5.out.hle
      have hne : ((pp : Int) != (pp : Int)) = false := by simp
      obtain ⟨bx, ox, ax0, lx0, cx0, rfl, _, ex0, rx0⟩ := nest_get SX5.out 0 (by omega)
      have hlx : sz = lx0 := by rw [← rx0.hlen]; exact (CXA.out.get 0 (by omega)).symm
      subst hlx
      have kx0 := rx0.hmax
      have kx1 := rx0.hle
      unfold maxLen at kx0
      rw [Nat.add_zero] at ex0
      clear rx0
      go_wp2_with fail
      go_loopw [24] (fun jv wr => ∃ (j q : Nat), j ≤ pp ∧ jv = .int .i64 j ∧ wr = w5.drewN q) (fun jv _ => pp - (intOf jv).toNat)
      case atStart => exact ⟨0, 0, by omega, rfl, rfl⟩
      case round =>
        obtain ⟨j, q, hj, rfl, rfl⟩ := hrel
        by_cases hjp : j < pp
        · obtain ⟨bs, os, as1, ls1, cs1, rfl, _, es, rs⟩ := nest_get SS5.out j hjp
          obtain ⟨bt, ot, at1, lt1, ct1, rfl, _, et, rt⟩ := nest_get ST5.out j hjp
          obtain ⟨bu, ou, au1, lu1, cu1, rfl, _, eu, ru⟩ := nest_get SU5.out j hjp
          rw [encAll_get _ _ _ _ hjp] at rs rt ru
          have hls : sz = ls1 := by rw [← rs.hlen, encN_length]
          have hlt' : sz = lt1 := by rw [← rt.hlen, encN_length]
          have hlu : sz = lu1 := by rw [← ru.hlen, encN_length]
          subst hls
          subst hlt'
          subst hlu
          have RS := Lib.hid rs
          have RT := Lib.hid rt
          have RU := Lib.hid ru
          have g1 := rs.hmax
          have g2 := rt.hmax
          have g3 := ru.hmax
          have g4 := rs.hle
          have g5 := rt.hle
          have g6 := ru.hle
          unfold maxLen at g1 g2 g3
          clear rs rt ru
          have x0 : (w5.drewN q).cell? ⟨bx, ox, none⟩ = some (.slice ax0 sz cx0) := ex0
          have s0 : (w5.drewN q).cell? ⟨bs, os + j, none⟩ = some (.slice as1 sz cs1) := es
          have t0 : (w5.drewN q).cell? ⟨bt, ot + j, none⟩ = some (.slice at1 sz ct1) := et
          have u0 : (w5.drewN q).cell? ⟨bu, ou + j, none⟩ = some (.slice au1 sz cu1) := eu
          have hnz : ((sz : Int) != (sz : Int)) = false := by simp
          go_wp2
          go_quiet (fail)
          go_wp2
          obtain ⟨q1, hq1⟩ : ∃ q1, (w5.drewN q).drewN nq = w5.drewN q1 := ⟨_, World.drewN_drewN _ _ _⟩
          try rw [hq1]
          go_loopw [25] (fun kv wr => ∃ (k q2 : Nat), k ≤ sz ∧ kv = .int .i64 k ∧ wr = w5.drewN q2) (fun kv _ => sz - (intOf kv).toNat)
          case atStart => exact ⟨0, _, by omega, rfl, by first | rfl | exact World.drewN_drewN _ _ _⟩
          case round =>
            obtain ⟨k, q2, hk, rfl, rfl⟩ := hrel
            have s0' : (w5.drewN q2).cell? ⟨bs, os + j, none⟩ = some (.slice as1 sz cs1) := es
            have t0' : (w5.drewN q2).cell? ⟨bt, ot + j, none⟩ = some (.slice at1 sz ct1) := et
            have u0' : (w5.drewN q2).cell? ⟨bu, ou + j, none⟩ = some (.slice au1 sz cu1) := eu
            clear x0 s0 t0 u0
            by_cases hks : k < sz
            · rcases RS.out.hat with h0 | ⟨y1, z1, rfl, hc1x⟩
              · omega
              rcases RT.out.hat with h0 | ⟨y2, z2, rfl, hc2x⟩
              · omega
              rcases RU.out.hat with h0 | ⟨y3, z3, rfl, hc3x⟩
              · omega
              have d1 := hc1x k hks
              have d2 := hc2x k hks
              have d3 := hc3x k hks
              have hsum := enc_sum X Y sz i j k bxa.out bya.out hks
              rw [hXl] at d1
              rw [hYl] at d2
              rw [addCols_length] at d3
              obtain ⟨u, hu⟩ : ∃ u, (encN X sz j i).getD k 0 = u := ⟨_, rfl⟩
              obtain ⟨v, hv⟩ : ∃ v, (encN Y sz j i).getD k 0 = v := ⟨_, rfl⟩
              obtain ⟨z, hz⟩ : ∃ z, (encN (addCols X Y sz i) sz j i).getD k 0 = z := ⟨_, rfl⟩
              rw [hu] at d1 hsum
              rw [hv] at d2 hsum
              rw [hz] at d3 hsum
              have hnx : (bits .xor .u8 u v != z) = false := by rw [hsum]; simp
              have d1' : (w5.drewN q2).cell? ⟨y1, z1 + k, none⟩ = some (.int .u8 u) := d1
              have d2' : (w5.drewN q2).cell? ⟨y2, z2 + k, none⟩ = some (.int .u8 v) := d2
              have d3' : (w5.drewN q2).cell? ⟨y3, z3 + k, none⟩ = some (.int .u8 z) := d3
              have hki : (k : Int) < (sz : Int) := by omega
              clear hc1x hc2x hc3x hsum hu hv hz d1' d2' d3'
              go_wp2
              go_quiet (fail)
              go_wp2
              go_roundw
              case rel => exact ⟨k + 1, _, by omega, by go_num, by first | rfl | exact World.drewN_drewN _ _ _⟩
              case measure => simp [intOf]; omega
            · obtain rfl : k = sz := by omega
              go_wp2
              go_roundw
              case rel => exact ⟨j + 1, _, by omega, by go_num, rfl⟩
              case measure => simp [intOf]; omega
        · obtain rfl : j = pp := by omega
          go_wp2_with fail
          go_ret
          exact ⟨rfl, by rw [hB.out]; exact below_drewN L5.out q⟩
end Go.Proofs.Ytkfjkdonbmjniaa
