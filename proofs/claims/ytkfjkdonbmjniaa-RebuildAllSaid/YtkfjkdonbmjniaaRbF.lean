/- Invert, whose rows lie in new blocks. -/
import Derived.Test.YtkfjkdonbmjniaaMtV
namespace Go.Proofs.Ytkfjkdonbmjniaa
open Go.RowKit
set_option linter.unusedVariables false
set_option maxRecDepth 100000

def Inverted2 (M : List (List Int)) (n : Nat) (w : World) (e : Ending) (w' : World) : Prop :=
  (((redN M n).2 < n ∧ e = .returned (.tuple #[.slice none 0 0, .int .i64 10])) ∨ ((redN M n).2 = n ∧ ∃ a c, e = .returned (.tuple #[.slice a n c, .int .i64 0]) ∧ Hid (SRow (Lay.int .i64).slice w' (fun b => w.heap.size ≤ b) a n c (invM M n)))) ∧ Below w.heap.size w w'
set_option maxHeartbeats 4000000 in
theorem invertW2 {F : Nat → Prop} (a : Option Addr) (cap : Nat) (M : List (List Int)) (n : Nat) (w : World) (h : SRow (Lay.int .i64).slice w F a n cap M) (hm : Mat M n n) :
    Calls Try.prog 29 #[.slice a n cap] w (Inverted2 M n w) := by
  have hr1 := hm.2.1.1
  have hr8 := hm.2.1.2
  have hle := h.hle
  have hmx := h.hmax
  unfold maxLen at hmx
  obtain ⟨b, off, a', l', c', rfl, hb, e0, hrow⟩ := mget h 0 (by omega)
  obtain rfl : l' = n := by have := hrow.hlen; have := (hm.get 0 (by omega)).1; omega
  rw [Nat.add_zero] at e0
  have HS := Lib.hid h
  have HM := Lib.hid hm
  have i0 : (0 : Int) < (l' : Int) := by omega
  have i0n : 0 < l' := by omega
  have hrn := rank_le_cols hm.rect (Nat.le_refl l')
  clear h hm hrow
  go_enter Try.func29, Try.ntmps29
  go_wp2_with fail
  refine (mayM _ _ _ M l' l' w HS.out HM.out).mono ?_
  rintro e w1 ⟨rfl, rfl⟩
  have bne : ((l' : Int) != (l' : Int)) = false := by simp
  go_wp2_with fail
  refine (besideW (some ⟨b, off, none⟩) cap M l' l' l' w HS.out HM.out (.inr rfl)).mono fun e w1 hp => ?_
  obtain ⟨g, cp, bs, rfl, hN, hb1⟩ := besided_some hp hr1
  go_wp2_with fail
  refine (reduceW l' w1 hN hb1.size (by omega) (by omega) hr8).mono ?_
  rintro e w2 ⟨bs2, rfl, hN2, hb2⟩
  rw [rank_beside HM.out.rect]
  have L2 := Lib.hid (hb1.trans hb2)
  have N2 := Lib.hid hN2
  clear hp hN hb1 hN2 hb2 e0
  obtain ⟨rk, hrk⟩ : ∃ k, Hid ((redN M l').2 = k) := ⟨_, rfl⟩
  rw [hrk.out] at hrn ⊢
  by_cases hfull : rk < l'
  · have b1 : decide ((rk : Int) < (l' : Int)) = true := decide_eq_true (by omega)
    have hf2 := Lib.hid hfull
    clear hfull
    go_wp2_with fail
    go_ret2
    exact ⟨.inl ⟨by rw [hrk.out]; exact hf2.out, rfl⟩, L2.out⟩
  · have b1 : decide ((rk : Int) < (l' : Int)) = false := decide_eq_false (by omega)
    have hfull2 : Hid (rk = l') := by show _ = _; omega
    have HRED : Hid (Rect (redN (besideM M l') l').1 l' (l' + l')) := redN_rect (besideM_rect HM.out.rect l') l'
    obtain ⟨X, hX⟩ : ∃ X, Hid ((redN (besideM M l') l').1 = X) := ⟨_, rfl⟩
    have hinv : Hid (invM M l' = X.map (fun x => x.drop l')) := by show _ = _; unfold invM; rw [hX.out]
    rw [hX.out] at N2 HRED
    obtain ⟨B, hB⟩ : ∃ B, Hid (w2.heap.size = B) := ⟨_, rfl⟩
    have hlx : X.length = l' := HRED.out.1
    go_wp2_with fail
    go_loopw [6, 30] (fun ov iv wr => ∃ (i : Nat) (ao : Option Addr) (co : Nat), i ≤ l' ∧ iv = .int .i64 i ∧ ov = .slice ao i co ∧ Hid (SOwn (Lay.int .i64).slice wr B 29 (fun b => B ≤ b) ao i co ((X.map (fun x => x.drop l')).take i)) ∧ Hid (Below B w2 wr)) (fun _ iv _ => l' - (intOf iv).toNat)
    case atStart => exact ⟨0, none, 0, by omega, rfl, rfl, SOwn.nil .., Below.refl _ _⟩
    case round =>
      obtain ⟨i, ao, co, hi, rfl, rfl, hO, hL⟩ := hrel
      have hBr : B ≤ wr.heap.size := by have := hL.out.size; have := hB.out; omega
      by_cases hlt : i < l'
      · have hLw : Below w2.heap.size w2 wr := by rw [hB.out]; exact hL.out
        have N3 := N2.out.below hLw
        have e1 := N3.cell i hlt
        obtain ⟨bi, hbi⟩ : ∃ b, bs2.getD i 0 = b := ⟨_, rfl⟩
        obtain ⟨row, hrow⟩ : ∃ y, X.getD i [] = y := ⟨_, rfl⟩
        obtain ⟨hl2, hel⟩ := HRED.out.get i hlt
        rw [hrow] at hl2 hel
        rw [hbi] at e1
        have hrowd : Row .i64 wr (some ⟨bi, l', none⟩) l' l' (row.drop l') := by
          refine ⟨by rw [List.length_drop, hl2]; omega, Nat.le_refl _, by unfold maxLen; omega, (fun h => by cases h), El.wf (fun v hv => hel v (List.mem_of_mem_drop hv)), .inr ⟨bi, l', rfl, fun k hk => ?_⟩⟩
          have := N3.at i (l' + k) hlt (by omega)
          rw [hbi, hrow] at this
          rw [this]; simp [List.getD]
        have hnext : Hid ((X.map (fun x => x.drop l')).take (i + 1) = (X.map (fun x => x.drop l')).take i ++ [row.drop l']) := by
          show _ = _
          rw [List.take_add_one, List.getElem?_map, List.getElem?_eq_getElem (by omega)]
          rw [← hrow, show X.getD i [] = X[i]'(by omega) by simp [List.getD, hlx, hlt]]; rfl
        have i1 : (i : Int) < (l' : Int) := by omega
        have i2 : (0 : Int) ≤ (l' : Int) := by omega
        have i3 : (l' : Int) ≤ (l' : Int) + (l' : Int) := by omega
        have i4 : ¬ l' + l' = l' := by omega
        have i5 : l' + l' - l' = l' := by omega
        have HROW := Lib.hid hrowd
        clear hbi hrow hrowd hl2 hel N3 hLw
        go_wp2_with fail
        refine (cloneI _ l' l' _ wr HROW.out (by omega) (by omega)).mono ?_
        rintro e w4 ⟨gx, cx, rfl, hOx, hb4⟩
        have O4 := Lib.hid (hO.out.below hb4)
        have L4 := Lib.hid (hL.out.trans (hb4.mono hBr))
        have hB4 : B ≤ w4.heap.size := by have := hb4.size; omega
        have hgx := (World.ownsRow.lt hOx gx rfl)
        have hno : ∀ z, (Value.slice ao i co).ownBlock = some z → z < wr.heap.size := fun z hz => (hO.out.lt z hz).2
        have HDX : Hid ((Lay.int .i64).slice.at_ w4 (fun b => b = gx) (row.drop l') [.slice (some ⟨gx, 0, none⟩) l' cx]) := ⟨_, _, _, rfl, (hOx.row.toRow HROW.out.hwf).toS (fun x hx _ => by cases hx; rfl)⟩
        have HF2 : Hid (∀ b, b = gx → B ≤ b ∧ b < w4.heap.size ∧ (Value.slice ao i co).ownBlock ≠ some b) := fun b hb => ⟨by omega, by omega, fun e => by have := hno b e; omega⟩
        clear hO hL hb4 hOx hno HROW
        go_wp2_with (at_builtin; refine wpList_append_one (L := (Lay.int .i64).slice) (wr := w4) rfl (.tmp 34) (.tmp 39) 30 rfl B 29 _ 24 Try.underlying30 info_row rfl (fun b => B ≤ b) ao i co _ rfl O4.out #[.slice (some ⟨gx, 0, none⟩) l' cx] (row.drop l') rfl (fun b => b = gx) HDX.out HF2.out (by unfold maxLen; omega) (by omega) hB4 ?_)
        intro a5 c5 w5 hown5 hg5
        have L5 := Lib.hid (O4.out.grown L4.out (Nat.le_refl _) hB4 hg5)
        have O5 := Lib.hid hown5
        clear hown5 hg5 O4 L4 HDX HF2
        go_wp2_with fail
        go_roundw
        case rel => exact ⟨i + 1, a5, c5, by omega, by go_num, rfl, by rw [hnext.out]; exact O5, L5⟩
        case measure => simp [intOf]; omega
      · obtain rfl : i = l' := by omega
        have hfin : (X.map (fun x => x.drop i)).take i = X.map (fun x => x.drop i) := List.take_of_length_le (by simp; omega)
        rw [hfin, ← hinv.out] at hO
        have hwB : w.heap.size ≤ B := by have := L2.out.size; have := hB.out; omega
        have HO := Lib.hid ((hO.out.row (fun b hb => hb)).keep (G := fun b => w.heap.size ≤ b) (fun b hb => Nat.le_trans hwB hb) (fun _ _ _ => rfl))
        have LF : Hid (Below w.heap.size w wr) := L2.out.trans (hL.out.mono (by have := L2.out.size; have := hB.out; omega))
        clear hO hL hfin
        go_wp2_with fail
        go_ret2
        exact ⟨.inr ⟨by rw [hrk.out]; exact hfull2.out, _, _, rfl, HO⟩, LF.out⟩
end Go.Proofs.Ytkfjkdonbmjniaa
