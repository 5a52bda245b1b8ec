/- Package mat: Clone of numbers, Rank, Invert; the laws' One. -/
import Derived.Test.YtkfjkdonbmjniaaMtF
import Derived.Test.YtkfjkdonbmjniaaMtG
namespace Go.Proofs.Ytkfjkdonbmjniaa
open Go.RowKit
set_option linter.unusedVariables false
set_option maxRecDepth 100000

set_option maxHeartbeats 1000000 in
theorem cloneI (a : Addr) (len cap : Nat) (xs : List Int) (w : World) (h : Row .i64 w (some a) len cap xs) (hl : 0 < len) (hb : len ≤ 1000000) :
    Calls Try.prog 50 #[.slice (some a) len cap] w fun e w' => ∃ g c, e = .returned (.slice (some ⟨g, 0, none⟩) len c) ∧ Own w' w.heap.size 3 1 (some ⟨g, 0, none⟩) len c (xs.map (.int .i64)) ∧ Below w.heap.size w w' := by
  have hmx := h.hmax
  have hle := h.hle
  unfold maxLen at hmx
  have HR := Lib.hid h
  have qT : ∀ (w : World) (a : Option Addr) (n c n' c' : Nat), (binOp .eql 29 (.slice a n c) (.slice none n' c')).run Try.prog w = .ok (.bool a.isNone) w := fun w a n c n' c' => Lib.run_eql_slice_nil w _ _ a n c n' c' Try.underlying29
  have hone : ∀ u ∈ xs.map (Value.int .i64), u.oneCell' = true := fun u hu => by obtain ⟨x, _, rfl⟩ := List.mem_map.1 hu; rfl
  clear h
  go_enter Try.func50, Try.ntmps50
  have hown0 : Own (w.alloc (.cells #[] 3)) w.heap.size 3 1 (some ⟨w.heap.size, 0, none⟩) 0 0 [] :=
    ⟨rfl, .inr ⟨w.heap.size, 0, #[], rfl, Nat.le_refl _, heap_alloc_new w _, Nat.le_refl _, Nat.zero_le _, rfl, rfl⟩⟩
  have HR1 := Lib.hid (HR.out.below (Below_alloc1 (.cells #[] 3)))
  have HO0 := Lib.hid hown0
  have HONE := Lib.hid hone
  clear hown0 hone
  go_wp2_with (at_builtin; refine wpList_append_any rfl (.tmp 5) (.tmp 6) 29 rfl w.heap.size 3 _ 1 8 Try.underlying29 info_int1 rfl (by decide) (some ⟨w.heap.size, 0, none⟩) 0 0 [] rfl HO0.out (some a) len cap (xs.map (.int .i64)) rfl HR1.out.toV HONE.out (by unfold maxLen; omega) (by omega) (by simp) ?_)
  intro a1 c1 w1 ho hg
  have LB1 : Hid (Below w.heap.size w w1) := (Below_alloc1 _).grown hg (by simp) (fun k hk => by
    have e : w.heap.size = k := by injection hk
    omega)
  have ho' : Own w1 w.heap.size 3 1 a1 len c1 (xs.map (.int .i64)) := by simpa using ho
  have hgx : ∃ g, a1 = some ⟨g, 0, none⟩ := by
    rcases ho'.form with ⟨_, h0, _⟩ | ⟨g, cur, hg, _⟩
    · omega
    · exact ⟨g, hg⟩
  obtain ⟨g, rfl⟩ := hgx
  have HO := Lib.hid ho'
  clear ho ho' hg HO0 HR1
  go_wp2_with fail
  go_ret
  exact ⟨g, c1, rfl, HO.out, LB1.out⟩
theorem besided_some {M : List (List Int)} {r C : Nat} {w : World} {e : Ending} {w' : World} (h : Besided M r C w e w') (hr : 1 ≤ r) : ∃ g cap bs, e = .returned (.slice (some ⟨g, 0, none⟩) r cap) ∧ Nst w' w.heap.size (some ⟨g, 0, none⟩) r cap C bs M ∧ Below w.heap.size w w' := by
  obtain ⟨a, cap, bs, rfl, hn, hb⟩ := h
  rcases hn.out.form with ⟨_, h0, _⟩ | ⟨g, cur, rfl, _⟩
  · omega
  · exact ⟨g, cap, bs, rfl, hn, hb⟩
set_option maxHeartbeats 4000000 in
theorem rankW {F : Nat → Prop} (a : Option Addr) (cap : Nat) (M : List (List Int)) (r c : Nat) (w : World) (h : SRow (Lay.int .i64).slice w F a r cap M) (hm : Mat M r c) :
    Calls Try.prog 30 #[.slice a r cap] w fun e w' => e = .returned (.tuple #[.int .i64 ((redN M c).2 : Nat), .int .i64 0]) ∧ Below w.heap.size w w' := by
  have hr1 := hm.2.1.1
  have hr8 := hm.2.1.2
  have hc8 := hm.2.2.1.2
  have hle := h.hle
  have hmx := h.hmax
  unfold maxLen at hmx
  obtain ⟨b, off, a', l', c', rfl, hb, e0, hrow⟩ := mget h 0 (by omega)
  obtain rfl : l' = c := by have := hrow.hlen; have := (hm.get 0 (by omega)).1; omega
  have HS := Lib.hid h
  have HM := Lib.hid hm
  clear h hm hrow
  go_enter Try.func30, Try.ntmps30
  go_wp2_with fail
  refine (mayM _ _ _ M r l' w HS.out HM.out).mono ?_
  rintro e w1 ⟨rfl, rfl⟩
  have HBES : Hid (∀ W', Below w.heap.size w W' → Calls Try.prog 48 #[.slice (some ⟨b, off, none⟩) r cap, .int .i64 0] W' fun e w' => ∃ g cp bs, e = .returned (.slice (some ⟨g, 0, none⟩) r cp) ∧ Hid (Nst w' w.heap.size (some ⟨g, 0, none⟩) r cp l' bs M) ∧ Below w.heap.size w w') := by
    intro W' hb
    refine (besideW (some ⟨b, off, none⟩) cap M r l' 0 W' (HS.out.below hb) HM.out (.inl rfl)).mono fun e w' h => ?_
    obtain ⟨g, cp, bs, h1, h2, h3⟩ := besided_some h hr1
    rw [besideM_zero] at h2
    exact ⟨g, cp, bs, h1, ⟨h2.out.mono hb.size, h2.lb, h2.rect, h2.nd, fun i hi => ⟨(h2.row i hi).1, Nat.le_trans hb.size (h2.row i hi).2⟩⟩, hb.trans (h3.mono hb.size)⟩
  have KS : Hid (∀ W', Below w.heap.size w W' → W'.cell? ⟨b, off, none⟩ = some (.slice a' l' c')) := fun W' hl => (hl.cell (p := ⟨b, off, none⟩) hb).trans (by simpa using e0)
  have HRED : Hid (∀ W' g cp bs, Below w.heap.size w W' → Hid (Nst W' w.heap.size (some ⟨g, 0, none⟩) r cp l' bs M) → Calls Try.prog 49 #[.slice (some ⟨g, 0, none⟩) r cp, .int .i64 l'] W' fun e w' => e = .returned (.int .i64 ((redN M l').2 : Nat)) ∧ Below w.heap.size w w') := by
    intro W' g cp bs hl hn
    refine (reduceW l' W' hn.out hl.size (Nat.le_refl _) (by omega) hr8).mono ?_
    rintro e w' ⟨bs', h1, h2, h3⟩
    exact ⟨h1, hl.trans h3⟩
  have hB0' : Below w.heap.size w w.drew := (Below.refl _ _).drew
  have k0 := KS.out _ hB0'
  have i0 : (0 : Int) < (r : Int) := by omega
  have i0n : 0 < r := by omega
  clear e0 hb
  go_upto_region 3 with fail
  go_region_law (first | (go_simp; go_at_call 48; refine (HBES.out _ ?_).mono ?_; (exact hB0'); rintro e w' ⟨g, cp, bs, rfl, hN, hS2⟩; have s1 := KS.out _ hS2) | (go_simp; go_at_call 49; refine (HRED.out _ g cp bs hS2 hN).mono ?_; rintro e w'' ⟨rfl, hS3⟩))
  all_goals
    go_wp2_with fail
    go_ret2
    exact ⟨rfl, hS3⟩
def Inverted (M : List (List Int)) (n : Nat) (w : World) (e : Ending) (w' : World) : Prop :=
  (((redN M n).2 < n ∧ e = .returned (.tuple #[.slice none 0 0, .int .i64 10])) ∨ ((redN M n).2 = n ∧ ∃ a c, e = .returned (.tuple #[.slice a n c, .int .i64 0]) ∧ Hid (SRow (Lay.int .i64).slice w' (fun _ => True) a n c (invM M n)))) ∧ Below w.heap.size w w'
set_option maxHeartbeats 4000000 in
theorem invertW {F : Nat → Prop} (a : Option Addr) (cap : Nat) (M : List (List Int)) (n : Nat) (w : World) (h : SRow (Lay.int .i64).slice w F a n cap M) (hm : Mat M n n) :
    Calls Try.prog 29 #[.slice a n cap] w (Inverted M n w) := by
  have hr1 := hm.2.1.1
  have hr8 := hm.2.1.2
  have hle := h.hle
  have hmx := h.hmax
  unfold maxLen at hmx
  obtain ⟨b, off, a', l', c', rfl, hb, e0, hrow⟩ := mget h 0 (by omega)
  obtain rfl : l' = n := by have := hrow.hlen; have := (hm.get 0 (by omega)).1; omega
  rw [Nat.add_zero] at e0
  have HS := Lib.hid h
  have HM := Lib.hid hm
  have i0 : (0 : Int) < (l' : Int) := by omega
  have i0n : 0 < l' := by omega
  have hrn := rank_le_cols hm.rect (Nat.le_refl l')
  clear h hm hrow
  go_enter Try.func29, Try.ntmps29
  go_wp2_with fail
  refine (mayM _ _ _ M l' l' w HS.out HM.out).mono ?_
  rintro e w1 ⟨rfl, rfl⟩
  have bne : ((l' : Int) != (l' : Int)) = false := by simp
  go_wp2_with fail
  refine (besideW (some ⟨b, off, none⟩) cap M l' l' l' w HS.out HM.out (.inr rfl)).mono fun e w1 hp => ?_
  obtain ⟨g, cp, bs, rfl, hN, hb1⟩ := besided_some hp hr1
  go_wp2_with fail
  refine (reduceW l' w1 hN hb1.size (by omega) (by omega) hr8).mono ?_
  rintro e w2 ⟨bs2, rfl, hN2, hb2⟩
  rw [rank_beside HM.out.rect]
  have L2 := Lib.hid (hb1.trans hb2)
  have N2 := Lib.hid hN2
  clear hp hN hb1 hN2 hb2 e0
  obtain ⟨rk, hrk⟩ : ∃ k, Hid ((redN M l').2 = k) := ⟨_, rfl⟩
  rw [hrk.out] at hrn ⊢
  by_cases hfull : rk < l'
  · have b1 : decide ((rk : Int) < (l' : Int)) = true := decide_eq_true (by omega)
    have hf2 := Lib.hid hfull
    clear hfull
    go_wp2_with fail
    go_ret2
    exact ⟨.inl ⟨by rw [hrk.out]; exact hf2.out, rfl⟩, L2.out⟩
  · have b1 : decide ((rk : Int) < (l' : Int)) = false := decide_eq_false (by omega)
    have hfull2 : Hid (rk = l') := by show _ = _; omega
    have HRED : Hid (Rect (redN (besideM M l') l').1 l' (l' + l')) := redN_rect (besideM_rect HM.out.rect l') l'
    obtain ⟨X, hX⟩ : ∃ X, Hid ((redN (besideM M l') l').1 = X) := ⟨_, rfl⟩
    have hinv : Hid (invM M l' = X.map (fun x => x.drop l')) := by show _ = _; unfold invM; rw [hX.out]
    rw [hX.out] at N2 HRED
    obtain ⟨B, hB⟩ : ∃ B, Hid (w2.heap.size = B) := ⟨_, rfl⟩
    have hlx : X.length = l' := HRED.out.1
    go_wp2_with fail
    go_loopw [6, 30] (fun ov iv wr => ∃ (i : Nat) (ao : Option Addr) (co : Nat), i ≤ l' ∧ iv = .int .i64 i ∧ ov = .slice ao i co ∧ Hid (SOwn (Lay.int .i64).slice wr B 29 (fun _ => True) ao i co ((X.map (fun x => x.drop l')).take i)) ∧ Hid (Below B w2 wr)) (fun _ iv _ => l' - (intOf iv).toNat)
    case atStart => exact ⟨0, none, 0, by omega, rfl, rfl, SOwn.nil .., Below.refl _ _⟩
    case round =>
      obtain ⟨i, ao, co, hi, rfl, rfl, hO, hL⟩ := hrel
      have hBr : B ≤ wr.heap.size := by have := hL.out.size; have := hB.out; omega
      by_cases hlt : i < l'
      · have hLw : Below w2.heap.size w2 wr := by rw [hB.out]; exact hL.out
        have N3 := N2.out.below hLw
        have e1 := N3.cell i hlt
        obtain ⟨bi, hbi⟩ : ∃ b, bs2.getD i 0 = b := ⟨_, rfl⟩
        obtain ⟨row, hrow⟩ : ∃ y, X.getD i [] = y := ⟨_, rfl⟩
        obtain ⟨hl2, hel⟩ := HRED.out.get i hlt
        rw [hrow] at hl2 hel
        rw [hbi] at e1
        have hrowd : Row .i64 wr (some ⟨bi, l', none⟩) l' l' (row.drop l') := by
          refine ⟨by rw [List.length_drop, hl2]; omega, Nat.le_refl _, by unfold maxLen; omega, (fun h => by cases h), El.wf (fun v hv => hel v (List.mem_of_mem_drop hv)), .inr ⟨bi, l', rfl, fun k hk => ?_⟩⟩
          have := N3.at i (l' + k) hlt (by omega)
          rw [hbi, hrow] at this
          rw [this]; simp [List.getD]
        have hnext : Hid ((X.map (fun x => x.drop l')).take (i + 1) = (X.map (fun x => x.drop l')).take i ++ [row.drop l']) := by
          show _ = _
          rw [List.take_add_one, List.getElem?_map, List.getElem?_eq_getElem (by omega)]
          rw [← hrow, show X.getD i [] = X[i]'(by omega) by simp [List.getD, hlx, hlt]]; rfl
        have i1 : (i : Int) < (l' : Int) := by omega
        have i2 : (0 : Int) ≤ (l' : Int) := by omega
        have i3 : (l' : Int) ≤ (l' : Int) + (l' : Int) := by omega
        have i4 : ¬ l' + l' = l' := by omega
        have i5 : l' + l' - l' = l' := by omega
        have HROW := Lib.hid hrowd
        clear hbi hrow hrowd hl2 hel N3 hLw
        go_wp2_with fail
        refine (cloneI _ l' l' _ wr HROW.out (by omega) (by omega)).mono ?_
        rintro e w4 ⟨gx, cx, rfl, hOx, hb4⟩
        have O4 := Lib.hid (hO.out.below hb4)
        have L4 := Lib.hid (hL.out.trans (hb4.mono hBr))
        have hB4 : B ≤ w4.heap.size := by have := hb4.size; omega
        have hgx := (World.ownsRow.lt hOx gx rfl)
        have hno : ∀ z, (Value.slice ao i co).ownBlock = some z → z < wr.heap.size := fun z hz => (hO.out.lt z hz).2
        have HDX : Hid ((Lay.int .i64).slice.at_ w4 (fun b => b = gx) (row.drop l') [.slice (some ⟨gx, 0, none⟩) l' cx]) := ⟨_, _, _, rfl, (hOx.row.toRow HROW.out.hwf).toS (fun x hx _ => by cases hx; rfl)⟩
        have HF2 : Hid (∀ b, b = gx → True ∧ b < w4.heap.size ∧ (Value.slice ao i co).ownBlock ≠ some b) := fun b hb => ⟨trivial, by omega, fun e => by have := hno b e; omega⟩
        clear hO hL hb4 hOx hno HROW
        go_wp2_with (at_builtin; refine wpList_append_one (L := (Lay.int .i64).slice) (wr := w4) rfl (.tmp 34) (.tmp 39) 30 rfl B 29 _ 24 Try.underlying30 info_row rfl (fun _ => True) ao i co _ rfl O4.out #[.slice (some ⟨gx, 0, none⟩) l' cx] (row.drop l') rfl (fun b => b = gx) HDX.out HF2.out (by unfold maxLen; omega) (by omega) hB4 ?_)
        intro a5 c5 w5 hown5 hg5
        have L5 := Lib.hid (O4.out.grown L4.out (Nat.le_refl _) hB4 hg5)
        have O5 := Lib.hid hown5
        clear hown5 hg5 O4 L4 HDX HF2
        go_wp2_with fail
        go_roundw
        case rel => exact ⟨i + 1, a5, c5, by omega, by go_num, rfl, by rw [hnext.out]; exact O5, L5⟩
        case measure => simp [intOf]; omega
      · obtain rfl : i = l' := by omega
        have hfin : (X.map (fun x => x.drop i)).take i = X.map (fun x => x.drop i) := List.take_of_length_le (by simp; omega)
        rw [hfin, ← hinv.out] at hO
        have HO := Lib.hid hO.out.sRow
        have LF : Hid (Below w.heap.size w wr) := L2.out.trans (hL.out.mono (by have := L2.out.size; have := hB.out; omega))
        clear hO hL hfin
        go_wp2_with fail
        go_ret2
        exact ⟨.inr ⟨by rw [hrk.out]; exact hfull2.out, _, _, rfl, HO⟩, LF.out⟩
end Go.Proofs.Ytkfjkdonbmjniaa
