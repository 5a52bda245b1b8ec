/- The law CombAll, walked. -/
import Derived.Test.YtjnheahhlopbfaaItC
import Derived.Test.YtjnheahhlopbfaaCombR
namespace Go.Proofs.Ytjnheahhlopbfaa
open Go.RowKit
set_option linter.unusedVariables false
set_option maxRecDepth 100000

theorem rget {w : World} {F : Nat → Prop} {a : Option Addr} {len cap : Nat} {L : List (List Int)} (h : SRow (Lay.int .i64).slice w F a len cap L) (i : Nat) (hi : i < len) :
    ∃ b off a' l' c', a = some ⟨b, off, none⟩ ∧ b < w.heap.size ∧ w.cell? ⟨b, off + i, none⟩ = some (.slice a' l' c') ∧ Row .i64 w a' l' c' (L.getD i []) := by
  obtain ⟨b, off, vs, ha, _, hb, hv, hc⟩ := h.get i hi
  have hix : i < L.length := by rw [h.1]; exact hi
  obtain ⟨a', l', c', rfl, hr⟩ := hv L[i] (List.getElem?_eq_getElem hix)
  have e : L.getD i [] = L[i] := by simp [List.getD, List.getElem?_eq_getElem hix]
  refine ⟨b, off, a', l', c', ha, hb, ?_, by rw [e]; exact hr.toRow⟩
  have := hc 0 (by decide)
  simpa [Lay.slice] using this
set_option maxHeartbeats 2000000 in
theorem pickAheadW (a : Option Addr) (la ca : Nat) (p : List Nat) (b : Option Addr) (lb cb : Nat) (q : List Nat) (w : World) (ha : Row .i64 w a la ca (ints p)) (hb : Row .i64 w b lb cb (ints q)) (h : lexLt p q) (hm : la ≤ 100) :
    Calls Try.prog 31 #[.slice a la ca, .slice b lb cb] w fun e w' => e = .returned (.bool true) ∧ ∃ k, w' = w.drewN k := by
  obtain ⟨d, hd1, hd2, hd3, hd4⟩ := h
  have hla : p.length = la := by have := ha.hlen; simpa [ints] using this
  have hlb : q.length = lb := by have := hb.hlen; simpa [ints] using this
  have h1 := ha.hle
  have h2 := ha.hmax
  have h3 := hb.hle
  have h4 := hb.hmax
  unfold maxLen at h2 h4
  rw [hla] at hd1
  rw [hlb] at hd2
  have HD3 := Lib.hid hd3
  have HD4 := Lib.hid hd4
  clear hd3 hd4 hla hlb
  rcases ha.hat with h0 | ⟨b1, o1, rfl, hc1⟩
  · omega
  rcases hb.hat with h0 | ⟨b2, o2, rfl, hc2⟩
  · omega
  have HC1 := Lib.hid hc1
  have HC2 := Lib.hid hc2
  clear ha hb hc1 hc2
  go_enter Try.func31, Try.ntmps31
  go_wp2_with fail
  go_loopw [5] (fun i wr => ∃ k : Nat, k ≤ d ∧ i = .int .i64 k ∧ ∃ n, wr = w.drewN n) (fun i _ => d - (intOf i).toNat)
  case atStart => exact ⟨0, by omega, rfl, 0, rfl⟩
  case round =>
    obtain ⟨k, hk, rfl, n, rfl⟩ := hrel
    have i1 : (k : Int) < (la : Int) := by omega
    have i2 : (k : Int) < (lb : Int) := by omega
    have c1 := HC1.out k (by omega)
    have c2 := HC2.out k (by omega)
    rw [ints_getD] at c1 c2
    obtain ⟨x, hx⟩ : ∃ x, p.getD k 0 = x := ⟨_, rfl⟩
    obtain ⟨y, hy⟩ : ∃ y, q.getD k 0 = y := ⟨_, rfl⟩
    rw [hx] at c1
    rw [hy] at c2
    by_cases hlt : k < d
    · have hxy := HD3.out k hlt
      rw [hx, hy] at hxy
      subst hxy
      clear hx hy
      have hb1 : ((x : Int) != (x : Int)) = false := by simp
      go_wp2_with fail
      go_quiet (fail)
      go_wp2_with fail
      go_roundw
      case rel => exact ⟨k + 1, by omega, by go_num, _, by first | rfl | exact World.drewN_drewN _ _ _⟩
      case measure => (simp [intOf]; omega)
    · obtain rfl : k = d := by omega
      have hxy := HD4.out
      rw [hx, hy] at hxy
      clear hx hy
      have hb1 : ((x : Int) != (y : Int)) = true := by simp; omega
      have hb2 : (x : Int) < (y : Int) := by omega
      go_wp2_with fail
      go_quiet (fail)
      go_wp2_with fail
      go_quiet (fail)
      go_wp2_with fail
      go_ret
      exact ⟨rfl, _, by rw [World.drewN_drewN, World.drewN_drewN]⟩
theorem ints_lt {p : List Nat} {n y i : Nat} (h : Pick n y p) (hi : i < p.length) : p.getD i 0 < n := by
  have e : p.getD i 0 = p[i] := by simp [List.getD, hi]
  rw [e]; exact (h.mem _ (List.getElem_mem hi)).2
theorem pick_asc {n : Nat} : ∀ {p : List Nat} {y i : Nat}, Pick n y p → i + 1 < p.length → p.getD i 0 < p.getD (i + 1) 0
  | [], _, _, _, h => by simp at h
  | [x], _, i, _, h => by simp at h
  | x :: z :: ps, y, 0, h, _ => by
    have := h.2.2.1
    show x < z
    omega
  | x :: z :: ps, y, i + 1, h, hl => by
    have := pick_asc (i := i) h.2.2 (by simpa using hl)
    simpa using this
set_option maxHeartbeats 8000000 in
theorem combAll (n k : Int) (w : World) :
    Calls Try.prog 13 #[.int .i64 n, .int .i64 k] w fun e w' => e = .returned (.bool true) ∧ Below w.heap.size w w' := by
  go_enter Try.func13, Try.ntmps13
  go_wp2_with fail
  refine (picked _ _ _ (by omega) (by omega)).mono ?_
  rintro e w' ⟨rm, hr, hr0, hr1, rfl, rfl⟩
  clear hr
  obtain ⟨m, rfl⟩ := Int.eq_ofNat_of_zero_le hr0
  have wm : IntKind.i64.wrap ((m : Int) + 1) = (m : Int) + 1 := IntWalk.i64_in _ (by omega)
  go_wp2_with fail
  refine (picked _ _ _ (by omega) (by omega)).mono ?_
  rintro e w' ⟨rj, hr, hj0, hj1, rfl, rfl⟩
  clear hr
  obtain ⟨j, rfl⟩ := Int.eq_ofNat_of_zero_le hj0
  have hjm : j ≤ m := by omega
  have hm8 : m ≤ 8 := by omega
  go_wp2_with fail
  refine (allW m j hjm (by omega) w).mono ?_
  rintro e w1 ⟨a1, c1, B, rfl, hB, hO, hb1⟩
  obtain ⟨N, hN⟩ : ∃ N, (picks m j).length = N := ⟨_, rfl⟩
  have hNp : N = pas m j := by rw [← hN]; exact picks_length (by omega) (by omega)
  have hN1 : 1 ≤ N := by rw [hNp]; exact pas_pos (by omega) hjm
  have hN2 : N ≤ 4096 := by rw [hNp]; exact pas_le (by omega) (by omega)
  rw [hN] at hO ⊢
  have HN := Lib.hid hN
  have HNP := Lib.hid hNp
  have HB1 := Lib.hid hb1
  have HO1 : Hid (SRow (Lay.int .i64).slice w1 (fun _ => True) a1 N c1 ((picks m j).map ints)) := (hO.out.row (fun b hb => hb)).keep (fun _ _ => trivial) (fun _ _ _ => rfl)
  clear hN hNp hr0 hr1 hj0 hj1 hb1 hO
  go_wp2_with fail
  refine (count m j _ (by omega) hjm).mono ?_
  rintro e w' ⟨cv, hcv, hc0, hc1, rfl, rfl⟩
  obtain rfl : cv = (N : Int) := by rw [hcv.out, HNP.out]
  clear hcv hc0 hc1
  have n1 : ((N : Int) != (N : Int)) = false := by simp
  have n2 : decide ((N : Int) < 1) = false := by simp; omega
  go_wp2_with fail
  go_loopw [11] (fun iv wr => ∃ i : Nat, i ≤ N ∧ iv = .int .i64 i ∧ Hid (SRow (Lay.int .i64).slice wr (fun _ => True) a1 N c1 ((picks m j).map ints)) ∧ Hid (Below w.heap.size w wr)) (fun iv _ => N - (intOf iv).toNat)
  case atStart => exact ⟨0, by omega, rfl, HO1.out, HB1.out⟩
  case round =>
    obtain ⟨i, hi, rfl, hRR, hBW⟩ := hrel
    by_cases hlt : i < N
    · have ii : (i : Int) < (N : Int) := by omega
      obtain ⟨p, hp⟩ : ∃ p, (picks m j)[i]? = some p := ⟨_, List.getElem?_eq_getElem (by rw [HN.out]; exact hlt)⟩
      obtain ⟨hpk, hpl, hprk⟩ := picks_at (n := m) (k := j) (by omega) (by omega) hp
      obtain ⟨b, off, ap, lp, cp, rfl, hb, hcell, hrow⟩ := rget hRR.out i hlt
      have hgd : ((picks m j).map ints).getD i [] = ints p := by simp [List.getD, hp]
      rw [hgd] at hrow
      obtain rfl : j = lp := by have := hrow.hlen; rw [← this]; simp [ints, hpl]
      have HROW := Lib.hid hrow
      have HPK := Lib.hid hpk
      have HPL := Lib.hid hpl
      have HPR := Lib.hid hprk
      have HPI := Lib.hid hp
      have hle := hrow.hle
      have hmx := hrow.hmax
      unfold maxLen at hmx
      clear hpk hpl hprk hp hrow hgd
      go_wp2_with fail
      go_loopw [12] (fun xv wx => ∃ x : Nat, x ≤ j ∧ xv = .int .i64 x ∧ ∃ nd, wx = wr.drewN nd) (fun xv _ => j - (intOf xv).toNat)
      case atStart => exact ⟨0, by omega, rfl, 0, rfl⟩
      case round =>
        obtain ⟨x, hx, rfl, nd, rfl⟩ := hrel
        by_cases hxj : x < j
        · have xi : (x : Int) < (j : Int) := by omega
          rcases HROW.out.hat with h0 | ⟨bp, op, rfl, hcp⟩
          · omega
          have cx := hcp x hxj
          rw [ints_getD] at cx
          have hlt1 : p.getD x 0 < m := ints_lt HPK.out (by rw [HPL.out]; exact hxj)
          obtain ⟨y, hy⟩ : ∃ y, Hid (p.getD x 0 = y) := ⟨_, rfl⟩
          rw [hy.out] at cx hlt1
          have g1 : decide ((y : Int) < 0) = false := (by simp)
          have g2 : decide ((m : Int) ≤ (y : Int)) = false := by simp; omega
          have g2' : decide (m ≤ y) = false := by simp; omega
          by_cases hx0 : x = 0
          · subst hx0
            have g3 : decide ((0 : Int) < ((0 : Nat) : Int)) = false := by simp
            have cx' : wr.cell? ⟨bp, op, none⟩ = some (.int .i64 (y : Int)) := by simpa using cx
            clear hcp
            go_wp2_with fail
            go_quiet (fail)
            go_wp2_with fail
            go_roundw
            case rel => exact ⟨0 + 1, by omega, by go_num, _, by first | rfl | exact World.drewN_drewN _ _ _⟩
            case measure => (simp [intOf]; try omega)
          · have cx1 := hcp (x - 1) (by omega)
            rw [ints_getD] at cx1
            have hasc : p.getD (x - 1) 0 < p.getD x 0 := by
              have := pick_asc (i := x - 1) HPK.out (by rw [HPL.out]; omega)
              rwa [show x - 1 + 1 = x by omega] at this
            obtain ⟨z, hz⟩ : ∃ z, Hid (p.getD (x - 1) 0 = z) := ⟨_, rfl⟩
            rw [hz.out] at cx1
            rw [hz.out, hy.out] at hasc
            have g3 : (0 : Int) < (x : Int) := by omega
            have g3' : decide (0 < x) = true := by simp; omega
            have w3 : IntKind.i64.wrap ((x : Int) - 1) = ((x - 1 : Nat) : Int) := by rw [IntWalk.i64_in _ (by omega)]; omega
            have w4 : ((x - 1 : Nat) : Int) < (j : Int) := by omega
            obtain ⟨x1, hx1⟩ : ∃ x1, x - 1 = x1 := ⟨_, rfl⟩
            rw [hx1] at w3 w4 cx1
            have g4 : decide ((y : Int) ≤ (z : Int)) = false := by simp; omega
            have g4' : decide (y ≤ z) = false := by simp; omega
            clear hcp hx1
            go_wp2_with fail
            go_quiet (fail)
            go_wp2_with fail
            go_roundw
            case rel => exact ⟨x + 1, by omega, by go_num, _, by first | rfl | exact World.drewN_drewN _ _ _⟩
            case measure => (simp [intOf]; try omega)
        · obtain rfl : x = j := by omega
          obtain ⟨W2, hW2⟩ : ∃ W2, W2 = wr.drewN nd := ⟨_, rfl⟩
          have hcell2 : W2.cell? ⟨b, off + i, none⟩ = some (.slice ap x cp) := by rw [hW2]; exact hcell
          have HR2 : Hid (SRow (Lay.int .i64).slice W2 (fun _ => True) (some ⟨b, off, none⟩) N c1 ((picks m x).map ints)) := by show SRow _ _ _ _ _ _ _; rw [hW2]; exact hRR.out.drewN nd
          have HB2 : Hid (Below w.heap.size w W2) := by show Below _ _ _; rw [hW2]; exact below_drewN hBW.out nd
          have HROW2 : Hid (Row .i64 W2 ap x cp (ints p)) := by show Row _ _ _ _ _ _; rw [hW2]; exact HROW.out.drewN nd
          have hb2 : b < W2.heap.size := by rw [hW2]; exact hb
          rw [← hW2]
          clear hW2 hcell hRR hBW HROW hb
          go_upto_region 17 with fail
          go_cut [124] from 110 to 125 (fun v124 wx => v124 = .bool false ∧ ∃ nd, wx = W2.drewN nd)
          case first =>
            by_cases hi0 : i = 0
            · subst hi0
              have g5 : decide ((0 : Int) < ((0 : Nat) : Int)) = false := by simp
              go_quiet (fail)
              go_wp2_with fail
              go_meet
              exact ⟨rfl, _, rfl⟩
            · obtain ⟨q, hq⟩ : ∃ q, (picks m x)[i - 1]? = some q := ⟨_, List.getElem?_eq_getElem (by rw [HN.out]; omega)⟩
              have hlex := picks_lt (n := m) (k := x) (j := i - 1) (by omega) (by omega) hq (by rw [show i - 1 + 1 = i by omega]; exact HPI.out)
              obtain ⟨b', off', aq, lq, cq, e1, _, hcell1, hrow1⟩ := rget HR2.out (i - 1) (by omega)
              obtain ⟨rfl, rfl⟩ : b = b' ∧ off = off' := by simpa using e1
              have hgd : ((picks m x).map ints).getD (i - 1) [] = ints q := by simp [List.getD, hq]
              rw [hgd] at hrow1
              have hql := (picks_at (n := m) (k := x) (by omega) (by omega) hq).2.1
              obtain rfl : x = lq := by have := hrow1.hlen; rw [← this]; simp [ints, hql]
              have HROW1 := Lib.hid hrow1
              have HLEX := Lib.hid hlex
              have g5 : (0 : Int) < (i : Int) := by omega
              have g5' : decide (0 < i) = true := by simp; omega
              have w3 : IntKind.i64.wrap ((i : Int) - 1) = ((i - 1 : Nat) : Int) := by rw [IntWalk.i64_in _ (by omega)]; omega
              have w4 : ((i - 1 : Nat) : Int) < (N : Int) := by omega
              obtain ⟨i1, hi1⟩ : ∃ i1, i - 1 = i1 := ⟨_, rfl⟩
              rw [hi1] at w3 w4 hcell1
              clear hi1 hq hlex hrow1 hgd hql e1
              go_quiet ((go_at_call 31; refine Calls.quiet_of (pickAheadW _ _ _ q _ _ _ p _ (HROW1.out.drewN _) (HROW2.out.drewN _) HLEX.out (by omega))))
              go_wp2_with fail
              go_meet
              exact ⟨rfl, _, rfl⟩
          case rest =>
            obtain ⟨rfl, n3, rfl⟩ := hcut
            obtain ⟨W3, hW3⟩ : ∃ W3, W3 = W2.drewN n3 := ⟨_, rfl⟩
            have hcell3 : W3.cell? ⟨b, off + i, none⟩ = some (.slice ap x cp) := by rw [hW3]; exact hcell2
            have HR3 : Hid (SRow (Lay.int .i64).slice W3 (fun _ => True) (some ⟨b, off, none⟩) N c1 ((picks m x).map ints)) := by show SRow _ _ _ _ _ _ _; rw [hW3]; exact HR2.out.drewN n3
            have HB3 : Hid (Below w.heap.size w W3) := by show Below _ _ _; rw [hW3]; exact below_drewN HB2.out n3
            have HROW3 : Hid (Row .i64 W3 ap x cp (ints p)) := by show Row _ _ _ _ _ _; rw [hW3]; exact HROW2.out.drewN n3
            have hb3 : b < W3.heap.size := by rw [hW3]; exact hb2
            rw [← hW3]
            clear hW3 hcell2 HR2 HB2 HROW2 hb2
            have HV3 := Lib.hid (HROW3.out.toV)
            go_wp2_with (at_builtin; refine wpList_append_any rfl (.const (.slice none 0 0)) (.tmp 130) 51 rfl W3.heap.size 3 _ 1 8 Try.underlying51 info_int rfl (by decide) none 0 0 [] rfl (Own.nil ..) ap x cp ((ints p).map (.int .i64)) rfl HV3.out (by intro u hu; obtain ⟨y, _, rfl⟩ := List.mem_map.1 hu; rfl) (by unfold maxLen; omega) (by omega) (Nat.le_refl _) ?_; intro a4 c4 W4 ho4 hg4; have HO4 := Lib.hid ho4; have HG4 := Lib.hid hg4; clear ho4 hg4)
            have hB4 : Below W3.heap.size W3 W4 := (Below.refl _ _).grown HG4.out (Nat.le_refl _) (fun r hr => by cases hr)
            have hrow4 : Row .i64 W4 a4 x c4 (ints p) := by
              have h := HO4.out.row
              rw [Nat.zero_add, List.nil_append] at h
              exact h.toRow (ints_wf (fun y hy => (HPK.out.mem y hy).2) (by omega))
            have hcell4 : W4.cell? ⟨b, off + i, none⟩ = some (.slice ap x cp) := (hB4.cell hb3).trans hcell3
            have hb4 : b < W4.heap.size := by have := hB4.size; omega
            have HR4 := Lib.hid (HR3.out.below hB4)
            have HB4 := Lib.hid (HB3.out.trans (hB4.mono HB3.out.size))
            have HROW4 := Lib.hid (HROW3.out.below hB4)
            clear hB4 HO4 HG4 HR3 HB3 HROW3 HV3 hcell3 hb3
            refine (number_int (m : Int) _ _ _ p _ hrow4 (by omega) (by omega) HPK.out).mono ?_
            rintro e w' ⟨xv, hxv, _, _, rfl, rfl⟩
            obtain rfl : xv = (i : Int) := by rw [hxv.out, Int.toNat_natCast, HPR.out]
            clear hxv hrow4
            go_wp2_with fail
            refine (at_pick (m : Int) (x : Int) (i : Int) p _ (by omega) (by omega) (by show _ = _; rw [HPL.out]) HPK.out (by show _ = _; rw [Int.toNat_natCast, HPR.out])).mono ?_
            rintro e W5 ⟨a5, c5, rfl, hO5, hB5⟩
            have hcell5 : W5.cell? ⟨b, off + i, none⟩ = some (.slice ap x cp) := (hB5.cell hb4).trans hcell4
            have hb5 : b < W5.heap.size := by have := hB5.size; omega
            have HR5 := Lib.hid (HR4.out.below hB5)
            have HB5 := Lib.hid (HB4.out.trans (hB5.mono HB4.out.size))
            have HROW5 := Lib.hid (HROW4.out.below hB5)
            rw [HPL.out] at hO5 ⊢
            have HI5 := Lib.hid hO5.out.ints
            have n5 : ((i : Int) != (i : Int)) = false := by simp
            clear hO5 hB5 hcell4 HR4 HB4 HROW4 hb4
            go_wp2_with fail
            refine (sameInts _ _ _ (ints p) _ _ _ (ints p) _ HI5.out HROW5.out).mono ?_
            rintro e W6 ⟨rfl, k6, rfl⟩
            have hd : decide (ints p = ints p) = true := by simp
            go_wp2_with fail
            go_roundw
            case rel => exact ⟨i + 1, by omega, by go_num, HR5.out.drewN k6, below_drewN HB5.out k6⟩
            case measure => (simp [intOf]; try omega)
    · obtain rfl : i = N := by omega
      go_wp2_with fail
      go_ret
      exact ⟨rfl, hBW.out⟩
end Go.Proofs.Ytjnheahhlopbfaa
