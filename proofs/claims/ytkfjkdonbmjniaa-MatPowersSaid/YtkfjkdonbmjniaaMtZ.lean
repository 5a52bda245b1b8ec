/- The law MatPowers, walked. -/
import Derived.Test.YtkfjkdonbmjniaaMtW
import Derived.Test.YtkfjkdonbmjniaaMtY
namespace Go.Proofs.Ytkfjkdonbmjniaa
open Go.RowKit
set_option linter.unusedVariables false
set_option maxRecDepth 100000

def vrowN (x : Int) (k : Nat) : List Int := (List.range k).map fun k => ((gpow x.toNat k : Nat) : Int)
theorem vrowN_succ (x : Int) (k : Nat) : vrowN x (k + 1) = vrowN x k ++ [((gpow x.toNat k : Nat) : Int)] := by simp [vrowN, List.range_succ]
theorem vandM_take (ps : List Int) (i : Nat) (hi : i < ps.length) : (vandM ps).take (i + 1) = (vandM ps).take i ++ [vrowN (ps.getD i 0) ps.length] := by
  rw [List.take_add_one]
  unfold vandM vrowN
  rw [List.getElem?_map, List.getElem?_eq_getElem hi]
  simp [List.getD, hi]
/-- The first i points, and k of those ahead of point i, all differ. -/
def apartTo (ps : List Int) (i : Nat) : Prop := ∀ a b, b < a → a < i → ps.getD a 0 ≠ ps.getD b 0
def apartIn (ps : List Int) (i k : Nat) : Prop := apartTo ps i ∧ ∀ b, b < k → ps.getD i 0 ≠ ps.getD b 0
theorem apart_next (ps : List Int) (i : Nat) : apartIn ps i i ↔ apartTo ps (i + 1) := by
  constructor
  · rintro ⟨h1, h2⟩ a b hb ha
    by_cases h : a < i
    · exact h1 a b hb h
    · obtain rfl : a = i := by omega
      exact h2 b hb
  · intro h
    exact ⟨fun a b hb ha => h a b hb (by omega), fun b hb => h i b hb (by omega)⟩
theorem apartIn_succ (ps : List Int) (i k : Nat) : apartIn ps i (k + 1) ↔ apartIn ps i k ∧ ps.getD i 0 ≠ ps.getD k 0 := by
  constructor
  · rintro ⟨h1, h2⟩
    exact ⟨⟨h1, fun b hb => h2 b (by omega)⟩, h2 k (by omega)⟩
  · rintro ⟨⟨h1, h2⟩, h3⟩
    refine ⟨h1, fun b hb => ?_⟩
    by_cases h : b < k
    · exact h2 b h
    · obtain rfl : b = k := by omega
      exact h3
set_option maxHeartbeats 8000000 in
theorem matPowers (al : Option Addr) (ll cl : Nat) (xl : List Int) (nn : Int) (w : World) (hl : Row .i64 w al ll cl xl) :
    Calls Try.prog 8 #[.slice al ll cl, .int .i64 nn] w fun e w' => e = .returned (.bool true) ∧ Below w.heap.size w w' := by
  have hle := hl.hle
  have hmx := hl.hmax
  unfold maxLen at hmx
  have RL := Lib.hid hl
  clear hl
  obtain ⟨n, hn⟩ : ∃ n, Hid (sideN nn = n) := ⟨_, rfl⟩
  have bn : 1 ≤ n ∧ n ≤ 8 := by rw [← hn.out]; exact sideN_bd nn
  obtain ⟨B, hB⟩ : ∃ B, Hid (w.heap.size = B) := ⟨_, rfl⟩
  go_enter Try.func8, Try.ntmps8
  go_wp2_with fail
  go_loopw [5, 6] (fun pv iv wr => ∃ (i : Nat) (ap : Option Addr) (cp : Nat) (ps : List Int), i ≤ n ∧ iv = .int .i64 i ∧ pv = .slice ap i cp ∧ Hid (El ps) ∧ Hid (SOwn (Lay.int .i64) wr B 3 (fun _ => False) ap i cp ps) ∧ Hid (Below B w wr)) (fun _ iv _ => n - (intOf iv).toNat)
  case atStart => exact ⟨0, none, 0, [], by omega, rfl, rfl, (fun v hv => by cases hv), SOwn.nil .., Below.refl _ _⟩
  case round =>
    obtain ⟨i, ap, cp, ps, hi, rfl, rfl, hE, hO, hL⟩ := hrel
    have hBr : B ≤ wr.heap.size := by have := hL.out.size; have := hB.out; omega
    go_wp2_with fail
    refine (side nn wr).mono ?_
    rintro e w' ⟨rfl, rfl⟩
    rw [hn.out]
    by_cases hlt : i < n
    · have i1 : (i : Int) < (n : Int) := by omega
      go_upto_if 28 with fail
      go_cut [7] (fun v wx => ∃ x : Int, v = .int .i64 x ∧ (0 ≤ x ∧ x ≤ 255) ∧ wx = wr)
      case first =>
        by_cases hil : i < ll
        · have i2 : decide ((i : Int) < (ll : Int)) = true := decide_eq_true (by omega)
          have i3 : (i : Int) < (ll : Int) := by omega
          obtain ⟨bl, ol, rfl, hcl⟩ : ∃ bl ol, al = some ⟨bl, ol, none⟩ ∧ ∀ k, k < ll → wr.cell? ⟨bl, ol + k, none⟩ = some (.int .i64 (xl.getD k 0)) := by
            rcases (RL.out.below (show Below w.heap.size w wr by rw [hB.out]; exact hL.out)).hat with h0 | h
            · omega
            · exact h
          have e0 := hcl i hil
          clear hcl
          go_wp2_with (go_at_call 15; refine (picked _ _ _ (by omega) (by omega)).mono ?_; rintro e w' ⟨z, hz, hz0, hz1, rfl, rfl⟩)
          go_meet
          first | exact ⟨z, rfl, by omega, rfl⟩ | exact ⟨z, rfl, by omega, trivial⟩
        · have i2 : decide ((i : Int) < (ll : Int)) = false := decide_eq_false (by omega)
          go_wp2_with fail
          go_meet
          first | exact ⟨i, rfl, by omega, rfl⟩ | exact ⟨i, rfl, by omega, trivial⟩
      case rest =>
        obtain ⟨x, rfl, hx, rfl⟩ := hcut
        have hwf : (Lit.int .i64 x).wf = true := by simp [Lit.wf, IntKind.min, IntKind.max, IntKind.signed, IntKind.bits]; omega
        have HWF := Lib.hid hwf
        clear hwf
        go_wp2_with (at_builtin; refine wpList_append_one (L := Lay.int .i64) rfl (.tmp 34) (.tmp 36) 29 rfl B 3 _ 8 Try.underlying29 info_int1 rfl (fun _ => False) ap i cp _ rfl hO.out #[.int .i64 x] x rfl (fun _ => False) ⟨rfl, HWF.out⟩ (fun b h => h.elim) (by unfold maxLen; omega) (by omega) hBr ?_)
        intro a5 c5 w5 hown5 hg5
        have L5 := Lib.hid (hO.out.grown hL.out (Nat.le_refl _) hBr hg5)
        have O5 := Lib.hid hown5
        have E5 : Hid (El (ps ++ [x])) := by
          intro y hy
          rcases List.mem_append.1 hy with h | h
          · exact hE.out y h
          · rw [List.mem_singleton.1 h]; exact hx
        clear hown5 hg5 hO hL hE
        go_wp2_with fail
        go_roundw
        case rel => exact ⟨i + 1, a5, c5, ps ++ [x], by omega, by go_num, rfl, E5, O5, L5⟩
        case measure => simp [intOf]; omega
    · obtain rfl : i = n := by omega
      have hpl : ps.length = i := hO.out.1
      have hcm := hO.out.hmax
      have hcl := hO.out.hle
      unfold maxLen at hcm
      obtain ⟨wp, rfl⟩ : ∃ W, W = wr := ⟨wr, rfl⟩
      obtain ⟨C, hC⟩ : ∃ C, Hid (wp.heap.size = C) := ⟨_, rfl⟩
      have HP := Lib.hid hO.out.ints
      have LP : Hid (Below w.heap.size w wp) := by show Below _ _ _; rw [hB.out]; exact hL.out
      have hCw : w.heap.size ≤ C := by have := LP.out.size; have := hC.out; omega
      have hps1 : 1 ≤ ps.length := by omega
      have hps8 : ps.length ≤ 8 := by omega
      clear hO hL
      go_wp2_with fail
      go_loopw [8, 9, 10] (fun av mv iv wr => ∃ (j : Nat) (am : Option Addr) (cm : Nat) (ab : Bool), j ≤ i ∧ iv = .int .i64 j ∧ av = .bool ab ∧ mv = .slice am j cm ∧ Hid (ab = true ↔ apartTo ps j) ∧ Hid (SOwn (Lay.int .i64).slice wr C 29 (fun _ => True) am j cm ((vandM ps).take j)) ∧ Hid (Below C wp wr)) (fun _ _ iv _ => i - (intOf iv).toNat)
      case atStart => exact ⟨0, none, 0, true, by omega, rfl, rfl, rfl, ⟨fun _ a b _ h => absurd h (by omega), fun _ => rfl⟩, SOwn.nil .., Below.refl _ _⟩
      case round =>
        obtain ⟨j, am, cm, ab, hj, rfl, rfl, rfl, hap, hM, hL⟩ := hrel
        have hCr : C ≤ wr.heap.size := by have := hL.out.size; have := hC.out; omega
        have HPr : Hid (Row .i64 wr ap i cp ps) := HP.out.below (by rw [hC.out]; exact hL.out)
        obtain ⟨wj, rfl⟩ : ∃ W, W = wr := ⟨wr, rfl⟩
        by_cases hji : j < i
        · have j1 : (j : Int) < (i : Int) := by omega
          obtain ⟨bp, op, rfl, hcp⟩ : ∃ bp op, ap = some ⟨bp, op, none⟩ ∧ ∀ k, k < i → wj.cell? ⟨bp, op + k, none⟩ = some (.int .i64 (ps.getD k 0)) := by
            rcases HPr.out.hat with h0 | h
            · omega
            · exact h
          have HCP := Lib.hid hcp
          clear hcp
          go_wp2_with fail
          go_loopw [8, 11] (fun av kv wx => ∃ (k q : Nat) (ab : Bool), k ≤ j ∧ kv = .int .i64 k ∧ av = .bool ab ∧ Hid (ab = true ↔ apartIn ps j k) ∧ wx = wj.drewN q) (fun _ kv _ => j - (intOf kv).toNat)
          case atStart => exact ⟨0, 0, ab, by omega, rfl, rfl, ⟨fun h => ⟨hap.out.1 h, fun b hb => absurd hb (by omega)⟩, fun h => hap.out.2 h.1⟩, rfl⟩
          case round =>
            obtain ⟨k, q, ab2, hk, rfl, rfl, hab, hq0⟩ := hrel
            have HQ : Hid (wr = wj.drewN q) := hq0
            have HCx : Hid (∀ t, t < i → wr.cell? ⟨bp, op + t, none⟩ = some (.int .i64 (ps.getD t 0))) := by rw [hq0]; exact HCP.out
            clear hq0
            by_cases hkj : k < j
            · have k1 : (k : Int) < (j : Int) := by omega
              have k2 : (k : Int) < (i : Int) := by omega
              have e1 := HCx.out j hji
              have e2 := HCx.out k (by omega)
              obtain ⟨u, hu⟩ : ∃ u, Hid (ps.getD j 0 = u) := ⟨_, rfl⟩
              obtain ⟨v, hv⟩ : ∃ v, Hid (ps.getD k 0 = v) := ⟨_, rfl⟩
              rw [hu.out] at e1
              rw [hv.out] at e2
              cases ab2 with
              | false =>
                have HN : Hid (false = true ↔ apartIn ps j (k + 1)) := ⟨fun h => (by cases h), fun h => hab.out.2 ((apartIn_succ ps j k).1 h).1⟩
                clear hab
                go_wp2
                go_quiet (fail)
                go_wp2
                go_roundw
                case rel => exact ⟨k + 1, q + nq, false, by omega, by go_num, rfl, HN, by rw [HQ.out]; exact World.drewN_drewN _ _ _⟩
                case measure => simp [intOf]; omega
              | true =>
                have HN : Hid ((u != v) = true ↔ apartIn ps j (k + 1)) := by
                  show _ ↔ _
                  rw [apartIn_succ, hu.out, hv.out]
                  constructor
                  · intro h; exact ⟨hab.out.1 rfl, by simpa using h⟩
                  · rintro ⟨_, h⟩; simpa using h
                clear hab
                go_wp2
                go_quiet (fail)
                go_wp2
                go_roundw
                case rel => exact ⟨k + 1, q + nq, (u != v), by omega, by go_num, rfl, HN, by rw [HQ.out]; exact World.drewN_drewN _ _ _⟩
                case measure => simp [intOf]; omega
            · obtain rfl : k = j := by omega
              have HA2 : Hid (ab2 = true ↔ apartTo ps (k + 1)) := hab.out.trans (apart_next ps k)
              have LJ : Hid (Below C wp wr) := by show Below _ _ _; rw [HQ.out]; exact below_drewN hL.out q
              have MJ : Hid (SOwn (Lay.int .i64).slice wr C 29 (fun _ => True) am k cm ((vandM ps).take k)) := by
                show SOwn _ _ _ _ _ _ _ _ _
                rw [HQ.out]; exact hM.out.below (below_drewN (Below.refl _ _) q)
              obtain ⟨wy, rfl⟩ : ∃ W, W = wr := ⟨wr, rfl⟩
              obtain ⟨D, hD⟩ : ∃ D, Hid (wy.heap.size = D) := ⟨_, rfl⟩
              have hCy : C ≤ wy.heap.size := by have := LJ.out.size; have := hC.out; omega
              obtain ⟨x, hx⟩ : ∃ x, Hid (ps.getD k 0 = x) := ⟨_, rfl⟩
              have hxr := hE.out.getD k
              rw [hx.out] at hxr
              have e1 := HCx.out k hji
              rw [hx.out] at e1
              clear hab hM hL hap HCx HPr
              go_wp2_with fail
              go_loopw [12, 13] (fun rv tv wx => ∃ (t : Nat) (ar : Option Addr) (cr : Nat), t ≤ i ∧ tv = .int .i64 t ∧ rv = .slice ar t cr ∧ Hid (SOwn (Lay.int .i64) wx D 3 (fun _ => False) ar t cr (vrowN x t)) ∧ Hid (Below D wy wx)) (fun _ tv _ => i - (intOf tv).toNat)
              case atStart => exact ⟨0, none, 0, by omega, rfl, rfl, SOwn.nil .., Below.refl _ _⟩
              case round =>
                obtain ⟨t, ar, cr, ht, rfl, rfl, hR, hLt⟩ := hrel
                have hDr : D ≤ wr.heap.size := by have := hLt.out.size; have := hD.out; omega
                by_cases hti : t < i
                · have t1 : (t : Int) < (i : Int) := by omega
                  have hbp : bp < wy.heap.size := World.block_lt_of_cell? _ _ e1
                  have e2 : wr.cell? ⟨bp, op + k, none⟩ = some (.int .i64 x) := (hLt.out.cell (p := ⟨bp, op + k, none⟩) (by have := hD.out; show bp < D; omega)).trans e1
                  go_wp2_with fail
                  refine (powG x t wr hxr (by omega)).mono ?_
                  rintro e w3 ⟨v, hv, hv0, hv1, rfl, hb3⟩
                  have hvv : v = ((gpow x.toNat t : Nat) : Int) := by rw [hv.out]; simp
                  have hv1' : (t : Int) = 0 → v = 1 := fun h => by
                    rw [hvv, show t = 0 by omega]; rfl
                  have R3 := Lib.hid (hR.out.below hb3)
                  have L3 := Lib.hid (hLt.out.trans (hb3.mono hDr))
                  have hD3 : D ≤ w3.heap.size := by have := hb3.size; omega
                  have hwf : (Lit.int .i64 v).wf = true := by simp [Lit.wf, IntKind.min, IntKind.max, IntKind.signed, IntKind.bits]; omega
                  have HWF := Lib.hid hwf
                  have HVV := Lib.hid hvv
                  clear hR hLt hb3 hv hwf hvv e2
                  by_cases ht0 : t = 0
                  · obtain rfl : v = 1 := hv1' (by omega)
                    have z0 : ((t : Int) == 0) = true := by simp; omega
                    clear hv1' ht0
                    go_wp2_with (at_builtin; refine wpList_append_one (L := Lay.int .i64) rfl (.tmp 86) (.tmp 88) 29 rfl D 3 _ 8 Try.underlying29 info_int1 rfl (fun _ => False) ar t cr _ rfl R3.out #[.int .i64 1] 1 rfl (fun _ => False) ⟨rfl, HWF.out⟩ (fun b h => h.elim) (by unfold maxLen; omega) (by omega) hD3 ?_)
                    intro a5 c5 w5 hown5 hg5
                    have L5 := Lib.hid (R3.out.grown L3.out (Nat.le_refl _) hD3 hg5)
                    have R5 : Hid (SOwn (Lay.int .i64) w5 D 3 (fun _ => False) a5 (t + 1) c5 (vrowN x (t + 1))) := by
                      show SOwn _ _ _ _ _ _ _ _ _
                      rw [vrowN_succ, ← HVV.out]; exact hown5
                    clear hown5 hg5 R3 L3
                    go_wp2_with fail
                    go_roundw
                    case rel => exact ⟨t + 1, a5, c5, by omega, by go_num, rfl, R5, L5⟩
                    case measure => simp [intOf]; omega
                  · have z0 : ((t : Int) == 0) = false := by simp; omega
                    clear hv1' ht0
                    go_wp2_with (at_builtin; refine wpList_append_one (L := Lay.int .i64) rfl (.tmp 86) (.tmp 88) 29 rfl D 3 _ 8 Try.underlying29 info_int1 rfl (fun _ => False) ar t cr _ rfl R3.out #[.int .i64 v] v rfl (fun _ => False) ⟨rfl, HWF.out⟩ (fun b h => h.elim) (by unfold maxLen; omega) (by omega) hD3 ?_)
                    intro a5 c5 w5 hown5 hg5
                    have L5 := Lib.hid (R3.out.grown L3.out (Nat.le_refl _) hD3 hg5)
                    have R5 : Hid (SOwn (Lay.int .i64) w5 D 3 (fun _ => False) a5 (t + 1) c5 (vrowN x (t + 1))) := by
                      show SOwn _ _ _ _ _ _ _ _ _
                      rw [vrowN_succ, ← HVV.out]; exact hown5
                    clear hown5 hg5 R3 L3
                    go_wp2_with fail
                    go_roundw
                    case rel => exact ⟨t + 1, a5, c5, by omega, by go_num, rfl, R5, L5⟩
                    case measure => simp [intOf]; omega
                · obtain rfl : t = i := by omega
                  have hnext : Hid ((vandM ps).take (k + 1) = (vandM ps).take k ++ [vrowN x t]) := by
                    show _ = _
                    rw [vandM_take ps k (by omega), hx.out, hpl]
                  have M4 := Lib.hid (MJ.out.below (show Below wy.heap.size wy wr by rw [hD.out]; exact hLt.out))
                  have L4 := Lib.hid (LJ.out.trans (hLt.out.mono (by have := hD.out; omega)))
                  have hC4 : C ≤ wr.heap.size := by have := hD.out; omega
                  have hno : ∀ z, (Value.slice am k cm).ownBlock = some z → z < D := fun z hz => by have := (MJ.out.lt z hz).2; have := hD.out; omega
                  have hnb : ∀ z, (Value.slice ar t cr).ownBlock = some z → D ≤ z ∧ z < wr.heap.size := fun z hz => hR.out.lt z hz
                  have HDX : Hid ((Lay.int .i64).slice.at_ wr (fun b => D ≤ b ∧ b < wr.heap.size) (vrowN x t) [.slice ar t cr]) := ⟨_, _, _, rfl, hR.out.ints.toS (fun y hy _ => by
                    have hr := hR.out.ints
                    rcases hR.out.get 0 (by omega) with ⟨gz, _, hgz, hz1, hz2, _⟩
                    rw [hgz] at hy; injection hy with hy; subst hy
                    exact ⟨hz1, hz2⟩)⟩
                  have HF2 : Hid (∀ b, (D ≤ b ∧ b < wr.heap.size) → True ∧ b < wr.heap.size ∧ (Value.slice am k cm).ownBlock ≠ some b) := fun b hb => ⟨trivial, hb.2, fun e => by have := hno b e; omega⟩
                  clear MJ LJ hno hnb hR hLt
                  go_wp2_with (at_builtin; refine wpList_append_one (L := (Lay.int .i64).slice) (wr := wr) rfl (.tmp 90) (.tmp 92) 30 rfl C 29 _ 24 Try.underlying30 info_row rfl (fun _ => True) am k cm _ rfl M4.out #[.slice ar t cr] (vrowN x t) rfl (fun b => D ≤ b ∧ b < wr.heap.size) HDX.out HF2.out (by unfold maxLen; omega) (by omega) hC4 ?_)
                  intro a5 c5 w5 hown5 hg5
                  have L5 := Lib.hid (M4.out.grown L4.out (Nat.le_refl _) hC4 hg5)
                  have M5 := Lib.hid hown5
                  clear hown5 hg5 M4 L4 HDX HF2
                  go_wp2_with fail
                  go_roundw
                  case rel => exact ⟨k + 1, a5, c5, ab2, by omega, by go_num, rfl, rfl, HA2, by rw [hnext.out]; exact M5, L5⟩
                  case measure => simp [intOf]; omega
        · obtain rfl : j = i := by omega
          have hfin : (vandM ps).take j = vandM ps := List.take_of_length_le (by unfold vandM; simp; omega)
          rw [hfin] at hM
          have HM := Lib.hid hM.out.sRow
          have hmat : Mat (vandM ps) j j := by
            have := vandM_mat hE.out hps1 hps8
            rwa [hpl] at this
          have HMAT := Lib.hid hmat
          have LW : Hid (Below w.heap.size w wj) := LP.out.trans (hL.out.mono hCw)
          have hCw2 : w.heap.size ≤ wj.heap.size := LW.out.size
          clear hM hL hfin hmat HPr
          go_wp2_with fail
          refine (invertW am cm (vandM ps) j wj HM.out HMAT.out).mono ?_
          rintro e w3 ⟨hcase, hb3⟩
          have L9 := Lib.hid (LW.out.trans (hb3.mono hCw2))
          clear hb3
          cases ab with
          | true =>
            have hap1 := hap.out.1 rfl
            have hfull := vand_full hE.out hps1 hps8 (fun a b hb ha => hap1 a b hb (by omega))
            rw [hpl] at hfull
            rcases hcase with ⟨hlt, _⟩ | ⟨_, aI, cI, rfl, _⟩
            · omega
            · clear hap hap1 hfull
              go_wp2_with fail
              go_ret
              exact ⟨rfl, L9.out⟩
          | false =>
            have hnap : ¬ apartTo ps j := fun h => by have := hap.out.2 h; cases this
            have hex : ∃ a b, b < a ∧ a < j ∧ ps.getD a 0 = ps.getD b 0 := by
              refine Classical.byContradiction fun hc => hnap fun a b hb ha he => hc ⟨a, b, hb, ha, he⟩
            obtain ⟨a, b, hb, ha, he⟩ := hex
            have hless := vand_less hE.out hps1 hps8 hb (by omega) he
            rw [hpl] at hless
            rcases hcase with ⟨_, rfl⟩ | ⟨heq, _⟩
            · clear hap hnap hless
              go_wp2_with fail
              go_ret
              exact ⟨rfl, L9.out⟩
            · omega
end Go.Proofs.Ytkfjkdonbmjniaa
