/- The laws MatBoth and MatProduct, walked. -/
import Derived.Test.YtkfjkdonbmjniaaMtV
import Derived.Test.YtkfjkdonbmjniaaMtT
namespace Go.Proofs.Ytkfjkdonbmjniaa
open Go.RowKit
set_option linter.unusedVariables false
set_option maxRecDepth 100000

def oneRow (n i : Nat) : List Int := (List.range n).map fun k => if i = k then (1 : Int) else 0
theorem oneM_take (n i : Nat) (hi : i < n) : (oneM n).take (i + 1) = (oneM n).take i ++ [oneRow n i] := by
  rw [List.take_add_one]
  unfold oneM oneRow
  rw [List.getElem?_map, List.getElem?_range hi]; rfl
theorem oneRow_set (n i : Nat) (hi : i < n) : (List.replicate n (Value.int .i64 0)).set i (.int .i64 1) = (oneRow n i).map (Value.int .i64) := by
  apply List.ext_getElem (by simp [oneRow])
  intro k h1 h2
  rw [List.getElem_set]
  simp only [oneRow, List.getElem_map, List.getElem_range, List.getElem_replicate]
  split
  · rfl
  · rfl
def OnePost (n : Nat) (w : World) (e : Ending) (w' : World) : Prop := ∃ a c, e = .returned (.slice a n c) ∧ Hid (SRow (Lay.int .i64).slice w' (fun _ => True) a n c (oneM n)) ∧ Hid (Below w.heap.size w w')
set_option maxHeartbeats 4000000 in
theorem oneW (n : Nat) (w : World) (h1 : 1 ≤ n) (h8 : n ≤ 8) : Calls Try.prog 31 #[.int .i64 n] w (OnePost n w) := by
  obtain ⟨B, hB⟩ : ∃ B, Hid (w.heap.size = B) := ⟨_, rfl⟩
  go_enter Try.func31, Try.ntmps31
  go_wp2_with fail
  go_loopw [3, 4] (fun ov iv wr => ∃ (i : Nat) (ao : Option Addr) (co : Nat), i ≤ n ∧ iv = .int .i64 i ∧ ov = .slice ao i co ∧ Hid (SOwn (Lay.int .i64).slice wr B 29 (fun _ => True) ao i co ((oneM n).take i)) ∧ Hid (Below B w wr)) (fun _ iv _ => n - (intOf iv).toNat)
  case atStart => exact ⟨0, none, 0, by omega, rfl, rfl, SOwn.nil .., Below.refl _ _⟩
  case round =>
    obtain ⟨i, ao, co, hi, rfl, rfl, hO, hL⟩ := hrel
    have hBr : B ≤ wr.heap.size := by have := hL.out.size; have := hB.out; omega
    by_cases hlt : i < n
    · have i1 : (i : Int) < (n : Int) := by omega
      go_wp2_with (refine wpList_make_zeros rfl _ _ 29 rfl 3 _ 8 Try.underlying29 info_int1 rfl _ _ _ _ n rfl rfl rfl rfl (by omega) (by unfold maxLen; omega) ?_)
      intro w1 hown1 hb1
      obtain ⟨gr, hgr⟩ : ∃ g, wr.heap.size = g := ⟨_, rfl⟩
      rw [hgr] at hown1 ⊢
      have hst := World.ownsRow.stored hown1 i (.int .i64 1)
      rw [oneRow_set n i hlt] at hst
      have e1 : w1.cell? ⟨gr, i, none⟩ = some (.int .i64 0) := by
        rw [World.ownsRow.cellAt hown1 i (by omega), List.getElem?_replicate, if_pos hlt]
      have f1 : w1.frozen? ⟨gr, i, none⟩ = false := World.ownsRow.frozenAt hown1 _
      have LR : Below wr.heap.size wr (w1.setCell ⟨gr, i, none⟩ (.int .i64 1)) := hb1.setCell (p := ⟨gr, i, none⟩) (by rw [hgr]; exact Nat.le_refl _) _
      have hno : ∀ z, (Value.slice ao i co).ownBlock = some z → z < wr.heap.size := fun z hz => (hO.out.lt z hz).2
      obtain ⟨w2, hw2⟩ : ∃ W, W = w1.setCell ⟨gr, i, none⟩ (.int .i64 1) := ⟨_, rfl⟩
      rw [← hw2] at hst LR
      have HW2 := Lib.hid hw2
      have O2 := Lib.hid (hO.out.below LR)
      have L2 := Lib.hid (hL.out.trans (LR.mono hBr))
      have hB2 : B ≤ w2.heap.size := by have := LR.size; omega
      have hgx := (World.ownsRow.lt hst.1 gr rfl).2
      have hwf : ∀ v ∈ oneRow n i, (Lit.int .i64 v).wf = true := fun v hv => by
        simp only [oneRow, List.mem_map, List.mem_range] at hv
        obtain ⟨k, _, rfl⟩ := hv
        split <;> decide
      have HDX : Hid ((Lay.int .i64).slice.at_ w2 (fun b => b = gr) (oneRow n i) [.slice (some ⟨gr, 0, none⟩) n n]) := ⟨_, _, _, rfl, ((show Own w2 gr 3 1 (some ⟨gr, 0, none⟩) n n _ from hst.1).row.toRow hwf).toS (fun x hx _ => by cases hx; rfl)⟩
      have HF2 : Hid (∀ b, b = gr → True ∧ b < w2.heap.size ∧ (Value.slice ao i co).ownBlock ≠ some b) := fun b hb => ⟨trivial, by omega, fun e => by have := hno b e; omega⟩
      have hnext : Hid ((oneM n).take (i + 1) = (oneM n).take i ++ [oneRow n i]) := oneM_take n i hlt
      clear hO hL hown1 hst LR hw2 hno hwf hb1
      go_upto_region 7 with fail
      rw [← HW2.out]
      go_wp2_with (at_builtin; refine wpList_append_one (L := (Lay.int .i64).slice) (wr := w2) rfl (.tmp 16) (.tmp 18) 30 rfl B 29 _ 24 Try.underlying30 info_row rfl (fun _ => True) ao i co _ rfl O2.out #[.slice (some ⟨gr, 0, none⟩) n n] (oneRow n i) rfl (fun b => b = gr) HDX.out HF2.out (by unfold maxLen; omega) (by omega) hB2 ?_)
      intro a5 c5 w5 hown5 hg5
      have L5 := Lib.hid (O2.out.grown L2.out (Nat.le_refl _) hB2 hg5)
      have O5 := Lib.hid hown5
      clear hown5 hg5 O2 L2 HDX HF2
      go_wp2_with fail
      go_roundw
      case rel => exact ⟨i + 1, a5, c5, by omega, by go_num, rfl, by rw [hnext.out]; exact O5, L5⟩
      case measure => simp [intOf]; omega
    · obtain rfl : i = n := by omega
      have hfin : (oneM i).take i = oneM i := List.take_of_length_le (by simp [oneM])
      rw [hfin] at hO
      go_wp2_with fail
      go_ret
      exact ⟨_, _, rfl, hO.out.sRow, by show Below _ _ _; rw [hB.out]; exact hL.out⟩
set_option maxHeartbeats 8000000 in
theorem matBoth (al : Option Addr) (ll cl : Nat) (xl : List Int) (nn : Int) (w : World) (hl : Row .i64 w al ll cl xl) :
    Calls Try.prog 9 #[.slice al ll cl, .int .i64 nn] w fun e w' => e = .returned (.bool true) ∧ Below w.heap.size w w' := by
  have RL := Lib.hid hl
  clear hl
  obtain ⟨n, hn⟩ : ∃ n, Hid (sideN nn = n) := ⟨_, rfl⟩
  have bn : 1 ≤ n ∧ n ≤ 8 := by rw [← hn.out]; exact sideN_bd nn
  go_enter Try.func9, Try.ntmps9
  go_wp2_with fail
  refine (side nn w).mono ?_
  rintro e w' ⟨rfl, rfl⟩
  rw [hn.out]
  go_wp2_with fail
  refine (side nn w).mono ?_
  rintro e w' ⟨rfl, rfl⟩
  rw [hn.out]
  go_wp2_with fail
  refine (matrixOf al ll cl xl n n w RL.out bn bn).mono ?_
  rintro e w1 ⟨aX, cX, X, rfl, mX, sX, hle1⟩
  have MX := Lib.hid mX
  have SX := Lib.hid sX.out.sRow
  have hrk := rank_le_cols mX.rect (Nat.le_refl n)
  clear mX sX
  go_wp2_with fail
  refine (invertW aX cX X n w1 SX.out MX.out).mono ?_
  rintro e w2 ⟨hcase, hle2⟩
  have SX2 := Lib.hid (SX.out.below hle2)
  have L2 := Lib.hid (hle1.out.trans (hle2.mono hle1.out.size))
  obtain ⟨rk, hrke⟩ : ∃ k, Hid ((redN X n).2 = k) := ⟨_, rfl⟩
  rw [hrke.out] at hrk hcase
  have r0 : ¬ ((rk : Int) < 0) := by omega
  have r1 : decide ((n : Int) < (rk : Int)) = false := decide_eq_false (by omega)
  have r2 : ¬ n < rk := by omega
  rcases hcase with ⟨hlt, rfl⟩ | ⟨heq, aI, cI, rfl, hI⟩
  · have b1 : ((rk : Int) == (n : Int)) = false := by simp; omega
    have HLT := Lib.hid hlt
    clear hle2 hle1 SX hlt hrk
    go_wp2_with fail
    refine (rankW aX cX X n n w2 SX2.out MX.out).mono ?_
    rintro e w3 ⟨rfl, hle3⟩
    rw [hrke.out]
    have L3 := Lib.hid (L2.out.trans (hle3.mono L2.out.size))
    clear hle3
    go_wp2_with fail
    go_ret
    exact ⟨rfl, L3.out⟩
  · have b1 : ((rk : Int) == (n : Int)) = true := by simp; omega
    have I2 := Lib.hid hI.out
    have HEQ := Lib.hid (hrke.out.trans heq)
    clear hle2 hle1 SX hI heq hrk
    go_wp2_with fail
    refine (rankW aX cX X n n w2 SX2.out MX.out).mono ?_
    rintro e w3 ⟨rfl, hle3⟩
    rw [hrke.out]
    have L3 := Lib.hid (L2.out.trans (hle3.mono L2.out.size))
    have SX3 := Lib.hid (SX2.out.below hle3)
    have I3 := Lib.hid (I2.out.below hle3)
    clear hle3 SX2 I2
    go_wp2_with fail
    refine (mulMat aX cX aI cI X (invM X n) n n n w3 SX3.out I3.out MX.out (invM_mat MX.out)).mono ?_
    rintro e w4 ⟨aP, cP, rfl, sP, hle4⟩
    rw [inv_right MX.out HEQ.out] at sP
    have L4 := Lib.hid (L3.out.trans (hle4.out.mono L3.out.size))
    have SX4 := Lib.hid (SX3.out.below hle4.out)
    have I4 := Lib.hid (I3.out.below hle4.out)
    have P4 := Lib.hid sP.out.sRow
    clear sP hle4 SX3 I3
    go_wp2_with fail
    refine (mulMat aI cI aX cX (invM X n) X n n n w4 I4.out SX4.out (invM_mat MX.out) MX.out).mono ?_
    rintro e w5 ⟨aQ, cQ, rfl, sQ, hle5⟩
    rw [inv_left MX.out HEQ.out] at sQ
    have L5 := Lib.hid (L4.out.trans (hle5.out.mono L4.out.size))
    have P5 := Lib.hid (P4.out.below hle5.out)
    have Q5 := Lib.hid sQ.out.sRow
    clear sQ hle5 SX4 I4
    go_wp2_with fail
    refine (oneW n w5 bn.1 bn.2).mono ?_
    rintro e w6 ⟨aO, cO, rfl, sO, hle6⟩
    have L6 := Lib.hid (L5.out.trans (hle6.out.mono L5.out.size))
    have P6 := Lib.hid (P5.out.below hle6.out)
    have Q6 := Lib.hid (Q5.out.below hle6.out)
    have O6 := Lib.hid sO.out
    clear sO hle6
    go_wp2_with fail
    refine (sameMat aP cP aO cO (oneM n) n n w6 P6.out O6.out (oneM_mat bn.1 bn.2)).mono ?_
    rintro e w7 ⟨rfl, q1, rfl⟩
    obtain ⟨W7, hW7⟩ : ∃ W, W = w6.drewN q1 := ⟨_, rfl⟩
    rw [← hW7]
    have L7 : Hid (Below w.heap.size w W7) := by show Below _ _ _; rw [hW7]; exact below_drewN L6.out q1
    have Q7 : Hid (SRow (Lay.int .i64).slice W7 (fun _ => True) aQ n cQ (oneM n)) := by show SRow _ _ _ _ _ _ _; rw [hW7]; exact Q6.out.drewN q1
    clear hW7
    go_wp2_with fail
    refine (oneW n W7 bn.1 bn.2).mono ?_
    rintro e w8 ⟨aO2, cO2, rfl, sO2, hle8⟩
    have L8 := Lib.hid (L7.out.trans (hle8.out.mono L7.out.size))
    have Q8 := Lib.hid (Q7.out.below hle8.out)
    have O8 := Lib.hid sO2.out
    clear sO2 hle8
    go_wp2_with fail
    refine (sameMat aQ cQ aO2 cO2 (oneM n) n n w8 Q8.out O8.out (oneM_mat bn.1 bn.2)).mono ?_
    rintro e w9 ⟨rfl, q2, rfl⟩
    go_wp2_with fail
    go_ret
    exact ⟨rfl, below_drewN L8.out q2⟩
end Go.Proofs.Ytkfjkdonbmjniaa
