/- The walk of move. -/
import Derived.Test.YthjjfmnipemakaaKpD
namespace Go.Proofs.Ythjjfmnipemakaa
open Go.RowKit
set_option linter.unusedVariables false
set_option maxRecDepth 100000

theorem Turns.moreDead {B : Nat} {ds : List Sh} {w : World} (h : Apt (ds.map (thDead B)) w) (x : Shot) (hx : x.dead = []) : Turns (thAll (ds.map (thDead B))) (thAll ((ds ++ [(x, none, 0, 0)]).map (thDead B))) w w := by
  have hh : (thDead B (x, none, 0, 0)).holds w := by show SOwn _ _ _ _ _ _ _ _ _; rw [show ((x, none, 0, 0) : Sh).1.dead = [] from hx]; exact SOwn.nil ..
  have hf : ∀ b, ¬ (thDead B (x, none, 0, 0)).foot b := fun b hb => by cases (show (none : Option Nat) = some b from hb)
  have e : ∀ (i : Nat) (t : Thing), ((ds ++ [(x, none, 0, 0)]).map (thDead B))[i]? = some t → (ds.map (thDead B))[i]? = some t ∨ t = thDead B (x, none, 0, 0) := by
    intro i t hi
    rw [List.map_append] at hi
    by_cases hl : i < (ds.map (thDead B)).length
    · rw [List.getElem?_append_left hl] at hi; exact .inl hi
    · rw [List.getElem?_append_right (by omega)] at hi
      right
      have := List.mem_of_getElem? hi
      simpa using this
  refine ⟨⟨fun i t hi => ?_, fun i j s t hi hj hne b hb ht => ?_⟩, Mv.refl _ _, fun b ⟨t, ht, hb⟩ => ?_⟩
  · rcases e i t hi with h1 | rfl
    · exact h.all i t h1
    · exact hh
  · rcases e i s hi with h1 | rfl
    · rcases e j t hj with h2 | rfl
      · exact h.apart i j s t h1 h2 hne b hb ht
      · exact hf b ht
    · exact hf b hb
  · obtain ⟨i, hi⟩ := List.getElem?_of_mem ht
    rcases e i t hi with h1 | rfl
    · exact .inl ⟨t, List.mem_of_getElem? h1, hb⟩
    · exact absurd hb (hf b)
def MoveEnd (B k : Nat) (t : Thing) (r : Kp × Int × List Int) (w : World) (e : Ending) (w' : World) : Prop :=
  ∃ t' a n c, e = .returned (.agg (goneC r.2.1 a n c)) ∧ Hid (IsKp B k r.1 t') ∧ Hid (Turns t (thAll [t', thOwn (Lay.int .i64) B 3 a n c r.2.2]) w w')
set_option maxHeartbeats 4000000 in
theorem moveKeep (B k : Nat) (s : Kp) (t : Thing) (wh : Nat) (w : World) (ht : IsKp B k s t) (hw : t.holds w) (hl : s.Lim) (hB : B ≤ w.heap.size) (hwh : wh ≤ 1000) :
    Calls Try.prog 27 #[.pointer (some ⟨k, 0, none⟩), .agg #[.int .i64 3, .int .i64 wh]] w (MoveEnd B k t (s.shot) w) := by
  have HT := Lib.hid ht
  obtain ⟨a1, n1, c1, ss, a2, n2, c2, hss, rfl⟩ := ht
  have hn2 : ss.length = n2 := (kpShots hw).1
  have hn1 : s.blocks.length = n1 := (kpBlocks hw).1
  have hss' : ss.length = s.shots.length := by rw [← hss, List.length_map]
  have hsn : s.shots.length = n2 := by omega
  have n1b := hl.bl
  have n2b := hl.sl
  have n1c : n1 ≤ 199 := by omega
  have n2c : n2 ≤ 1000 := by omega
  have T1 := Turns.boxed hw #[.int .i64 3, .int .i64 wh] 60
  have T2 := T1.trans (Turns.boxed T1.now (goneC 0 none 0 0) 58)
  have hsz : (w.alloc (.cells #[.int .i64 3, .int .i64 wh] 60)).heap.size = w.heap.size + 1 := by simp
  rw [hsz] at T2
  have T3 := Lib.hid (T2.next (Turns.lose (T2.now.all 1 _ rfl)))
  have hkl : k < w.heap.size := (kpBox hw).lt
  have HB := Lib.hid hB
  have HL := Lib.hid hl
  have HSS := Lib.hid hss
  obtain ⟨W, hW⟩ : ∃ W, W = (w.alloc (.cells #[.int .i64 3, .int .i64 wh] 60)).alloc (.cells (goneC 0 none 0 0) 58) := ⟨_, rfl⟩
  obtain ⟨r, hr⟩ : ∃ r, Hid (w.heap.size + 1 = r) := ⟨_, rfl⟩
  rw [← hW, hr.out] at T3
  have k0 : w.cell? ⟨k, 0, none⟩ = some (.int .i64 s.now) := (kpBox hw).cell 0
  have k2 : w.cell? ⟨k, 2, none⟩ = some (.slice a2 n2 c2) := (kpBox hw).cell 2
  by_cases h9 : n2 = 9
  · subst h9
    have hm : Hid (s.shot = (s, 8, [])) := by show _ = _; unfold Kp.shot; rw [if_pos hsn]
    rw [hm.out]
    clear hm T1 T2 hsz hss hsn hss' hn1 n1b n1c
    go_enter Try.func27, Try.ntmps27
    go_wp2_with fail
    unfold goneC at hW
    rw [← hW]
    have hr1 : w.heap.size + 1 = r := hr.out
    simp only [hr1]
    clear hW hr1
    refine (snapNo 8 _).mono ?_
    rintro e w2 ⟨rfl, hb2⟩
    have T4 := Lib.hid (T3.out.stays hb2)
    have B9 := Lib.hid (show Box w2 r (goneC 0 none 0 0) 58 from Apt.head T4.out.now)
    go_wp2_with (refine wpList_store_box rfl 58 (.tmp 4) (.tmp 45) rfl r (goneC 8 none 0 0) rfl rfl 58 _ B9.out (by kernel_rfl) rfl rfl ?_; intro w9 hb9 hg9)
    refine bodyPost_ret (results_b Try.results27 _ _ r 58 (goneC 8 none 0 0) hb9 _ rfl Try.underlying58 rfl (by kernel_rfl)) rfl ⟨_, none, 0, 0, rfl, HT, Turns.withNil ((Turns.headBox T4.out hb9 hg9).tail.one)⟩
  · have hm : Hid (s.shot = ({ s with shots := s.shots ++ [⟨s.kept, s.now, []⟩], kept := s.kept + 1 }, 0, [])) := by show _ = _; unfold Kp.shot; rw [if_neg (by omega)]
    obtain ⟨s2, hs2⟩ : ∃ s2, Hid (({ s with shots := s.shots ++ [⟨s.kept, s.now, []⟩], kept := s.kept + 1 } : Kp) = s2) := ⟨({ s with shots := s.shots ++ [⟨s.kept, s.now, []⟩], kept := s.kept + 1 } : Kp), (rfl : _ = _)⟩
    rw [hs2.out] at hm
    rw [hm.out]
    have h9' : ((n2 : Int) == 9) = false := by simp; omega
    have hk0 := hl.kept.1
    have hk1 := hl.kept.2
    have wk : IntKind.i64.wrap (s.kept + 1) = s.kept + 1 := IntWalk.i64_in _ (by omega)
    have K3 := Lib.hid (T3.out.now.all 1 _ rfl)
    have q0 : W.cell? ⟨k, 0, none⟩ = some (.int .i64 s.now) := (kpBox K3.out).cell 0
    have q2 : W.cell? ⟨k, 2, none⟩ = some (.slice a2 n2 c2) := (kpBox K3.out).cell 2
    have q3 : W.cell? ⟨k, 3, none⟩ = some (.int .i64 s.kept) := (kpBox K3.out).cell 3
    have hkW : k < W.heap.size := (kpBox K3.out).lt
    have hBW : B ≤ W.drew.heap.size := by have := HB.out; have := T3.out.mv.size; show B ≤ W.heap.size; omega
    have Td := Lib.hid (T3.out.stays (below_drewN (Below.refl _ _) 1 : Below W.heap.size W W.drew))
    have Kd := Lib.hid (Td.out.now.all 1 _ rfl)
    have Sd := Lib.hid (kpShots Kd.out)
    clear hm T1 T2 hsz hss hsn hss' hn1 n1b n1c n2b h9
    go_enter Try.func27, Try.ntmps27
    go_wp2_with fail
    unfold goneC at hW
    rw [← hW]
    have hr1 : w.heap.size + 1 = r := hr.out
    simp only [hr1]
    clear hW hr1 k0 k2
    go_region_law (refine step_append_T1 (L := shL) (wr := W.drew) rfl (.tmp 50) (.tmp 60) 91 rfl B 106 _ 40 Try.underlying91 info_shot rfl a2 n2 c2 ss rfl Sd.out #[.int .i64 s.kept, .int .i64 s.now, .slice none 0 0] (⟨s.kept, s.now, []⟩, none, 0, 0) rfl rfl (by unfold maxLen; omega) (by omega) hBW ?_; intro a5 c5 w5 T6; have T7 := Lib.hid (Td.out.next (Turns.kpShots Kd.out T6)); have c5k : w5.cell? ⟨k, 2, none⟩ = some (.slice a2 n2 c2) := (kpBox (T7.out.now.all 1 _ rfl)).cell 2; have f5k : w5.frozen? ⟨k, 2, none⟩ = false := (kpBox (T7.out.now.all 1 _ rfl)).free 2; clear T6)
    all_goals
      have T8 := T7.out.next (Turns.kpBox (T7.out.now.all 1 _ rfl) (Turns.box (T7.out.now.all 1 _ rfl |> kpBox) 2 (.slice a5 (n2 + 1) c5)))
      have T9 := Lib.hid (T8.next (Turns.kpDeads (T8.now.all 1 _ rfl) (Turns.moreDead (kpDeads (T8.now.all 1 _ rfl)) ⟨s.kept, s.now, []⟩ rfl)))
      obtain ⟨W6, hW6⟩ : ∃ V, V = w5.setCell ⟨k, 2, none⟩ (.slice a5 (n2 + 1) c5) := ⟨_, rfl⟩
      rw [← hW6] at T9 ⊢
      clear hW6 c5k f5k T8
      have B6 := Lib.hid (kpBox (T9.out.now.all 1 _ rfl))
      have p3 : W6.cell? ⟨k, 3, none⟩ = some (.int .i64 s.kept) := B6.out.cell 3
      have pf : W6.frozen? ⟨k, 3, none⟩ = false := B6.out.free 3
      have T10 := Lib.hid (T9.out.next (Turns.kpBox (T9.out.now.all 1 _ rfl) (Turns.box (T9.out.now.all 1 _ rfl |> kpBox) 3 (.int .i64 (s.kept + 1)))))
      have B9 := Lib.hid (show Box (W6.setCell ⟨k, 3, none⟩ (.int .i64 (s.kept + 1))) r (goneC 0 none 0 0) 58 from Apt.head T10.out.now)
      go_wp2_with (refine wpList_store_box rfl 58 (.tmp 4) (.tmp 77) rfl r (goneC 0 none 0 0) rfl rfl 58 _ B9.out (by kernel_rfl) rfl rfl ?_; intro w9 hb9 hg9)
      refine bodyPost_ret (results_b Try.results27 _ _ r 58 (goneC 0 none 0 0) hb9 _ rfl Try.underlying58 rfl (by kernel_rfl)) rfl ⟨thKeep B k s2 a1 n1 c1 (ss ++ [(⟨s.kept, s.now, []⟩, none, 0, 0)]) a5 (n2 + 1) c5, none, 0, 0, rfl, ⟨a1, n1, c1, _, a5, n2 + 1, c5, by rw [List.map_append, HSS.out, ← hs2.out]; rfl, rfl⟩, by rw [← hs2.out]; exact Turns.withNil ((Turns.headBox T10.out hb9 hg9).tail.one)⟩
set_option maxHeartbeats 4000000 in
theorem moveBirth (B k : Nat) (s : Kp) (t : Thing) (wh : Nat) (w : World) (ht : IsKp B k s t) (hw : t.holds w) (hl : s.Lim) (hB : B ≤ w.heap.size) (hwh : wh ≤ 1000) :
    Calls Try.prog 27 #[.pointer (some ⟨k, 0, none⟩), .agg #[.int .i64 1, .int .i64 wh]] w (MoveEnd B k t (s.birth) w) := by
  have HT := Lib.hid ht
  obtain ⟨a1, n1, c1, ss, a2, n2, c2, hss, rfl⟩ := ht
  have hn2 : ss.length = n2 := (kpShots hw).1
  have hn1 : s.blocks.length = n1 := (kpBlocks hw).1
  have hss' : ss.length = s.shots.length := by rw [← hss, List.length_map]
  have hsn : s.shots.length = n2 := by omega
  have n1b := hl.bl
  have n2b := hl.sl
  have n1c : n1 ≤ 199 := by omega
  have n2c : n2 ≤ 1000 := by omega
  have T1 := Turns.boxed hw #[.int .i64 1, .int .i64 wh] 60
  have T2 := T1.trans (Turns.boxed T1.now (goneC 0 none 0 0) 58)
  have hsz : (w.alloc (.cells #[.int .i64 1, .int .i64 wh] 60)).heap.size = w.heap.size + 1 := by simp
  rw [hsz] at T2
  have T3 := Lib.hid (T2.next (Turns.lose (T2.now.all 1 _ rfl)))
  have hkl : k < w.heap.size := (kpBox hw).lt
  have HB := Lib.hid hB
  have HL := Lib.hid hl
  have HSS := Lib.hid hss
  obtain ⟨W, hW⟩ : ∃ W, W = (w.alloc (.cells #[.int .i64 1, .int .i64 wh] 60)).alloc (.cells (goneC 0 none 0 0) 58) := ⟨_, rfl⟩
  obtain ⟨r, hr⟩ : ∃ r, Hid (w.heap.size + 1 = r) := ⟨_, rfl⟩
  rw [← hW, hr.out] at T3
  have q0 : W.cell? ⟨k, 0, none⟩ = some (.int .i64 s.now) := (kpBox (T3.out.now.all 1 _ rfl)).cell 0
  have q1 : W.cell? ⟨k, 1, none⟩ = some (.slice a1 n1 c1) := (kpBox (T3.out.now.all 1 _ rfl)).cell 1
  have k1 : w.cell? ⟨k, 1, none⟩ = some (.slice a1 n1 c1) := (kpBox hw).cell 1
  have hkW : k < W.heap.size := (kpBox (T3.out.now.all 1 _ rfl)).lt
  have h200 : ((n1 : Int) == 200) = false := by simp; omega
  have hBW : B ≤ W.drew.heap.size := by have := HB.out; have := T3.out.mv.size; show B ≤ W.heap.size; omega
  have Td := Lib.hid (T3.out.stays (below_drewN (Below.refl _ _) 1 : Below W.heap.size W W.drew))
  have Kd := Lib.hid (Td.out.now.all 1 _ rfl)
  have Sd := Lib.hid (kpBlocks Kd.out)
  clear T1 T2 hsz hss hsn hss' hn1 n1b n2b n2c
  go_enter Try.func27, Try.ntmps27
  go_wp2_with fail
  unfold goneC at hW
  rw [← hW]
  have hr1 : w.heap.size + 1 = r := hr.out
  simp only [hr1]
  clear hW hr1 k1
  go_region_law (refine step_append_T1 (L := blockL) (wr := W.drew) rfl (.tmp 21) (.tmp 27) 90 rfl B 103 _ 16 Try.underlying90 info_block rfl a1 n1 c1 s.blocks rfl Sd.out #[.int .i64 s.now, .bool true] (s.now, true) rfl rfl (by unfold maxLen; omega) (by omega) hBW ?_; intro a5 c5 w5 T6; have T7 := Lib.hid (Td.out.next (Turns.kpBlocks Kd.out T6)); have c5k : w5.cell? ⟨k, 1, none⟩ = some (.slice a1 n1 c1) := (kpBox (T7.out.now.all 1 _ rfl)).cell 1; have f5k : w5.frozen? ⟨k, 1, none⟩ = false := (kpBox (T7.out.now.all 1 _ rfl)).free 1; clear T6)
  all_goals
    have T10 := Lib.hid (T7.out.next (Turns.kpBox (T7.out.now.all 1 _ rfl) (Turns.box (T7.out.now.all 1 _ rfl |> kpBox) 1 (.slice a5 (n1 + 1) c5))))
    have B9 := Lib.hid (show Box (w5.setCell ⟨k, 1, none⟩ (.slice a5 (n1 + 1) c5)) r (goneC 0 none 0 0) 58 from Apt.head T10.out.now)
    go_wp2_with (refine wpList_store_box rfl 58 (.tmp 4) (.tmp 77) rfl r (goneC 0 none 0 0) rfl rfl 58 _ B9.out (by kernel_rfl) rfl rfl ?_; intro w9 hb9 hg9)
    refine bodyPost_ret (results_b Try.results27 _ _ r 58 (goneC 0 none 0 0) hb9 _ rfl Try.underlying58 rfl (by kernel_rfl)) rfl ⟨thKeep B k s.birth.1 a5 (n1 + 1) c5 ss a2 n2 c2, none, 0, 0, rfl, ⟨a5, n1 + 1, c5, _, a2, n2, c2, by rw [HSS.out]; rfl, rfl⟩, Turns.withNil ((Turns.headBox T10.out hb9 hg9).tail.one)⟩
set_option maxHeartbeats 4000000 in
theorem moveKill (B k : Nat) (s : Kp) (t : Thing) (wh : Nat) (w : World) (ht : IsKp B k s t) (hw : t.holds w) (hl : s.Lim) (hB : B ≤ w.heap.size) (hwh : wh ≤ 1000) :
    Calls Try.prog 27 #[.pointer (some ⟨k, 0, none⟩), .agg #[.int .i64 2, .int .i64 wh]] w (MoveEnd B k t (s.kill wh) w) := by
  have HT := Lib.hid ht
  obtain ⟨a1, n1, c1, ss, a2, n2, c2, hss, rfl⟩ := ht
  have hn2 : ss.length = n2 := (kpShots hw).1
  have hn1 : s.blocks.length = n1 := (kpBlocks hw).1
  have hss' : ss.length = s.shots.length := by rw [← hss, List.length_map]
  have hsn : s.shots.length = n2 := by omega
  have n1b := hl.bl
  have n2b := hl.sl
  have n1c : n1 ≤ 199 := by omega
  have n2c : n2 ≤ 1000 := by omega
  have T1 := Turns.boxed hw #[.int .i64 2, .int .i64 wh] 60
  have T2 := T1.trans (Turns.boxed T1.now (goneC 0 none 0 0) 58)
  have hsz : (w.alloc (.cells #[.int .i64 2, .int .i64 wh] 60)).heap.size = w.heap.size + 1 := by simp
  rw [hsz] at T2
  have T3 := Lib.hid (T2.next (Turns.lose (T2.now.all 1 _ rfl)))
  have hkl : k < w.heap.size := (kpBox hw).lt
  have HB := Lib.hid hB
  have HL := Lib.hid hl
  have HSS := Lib.hid hss
  obtain ⟨W, hW⟩ : ∃ W, W = (w.alloc (.cells #[.int .i64 2, .int .i64 wh] 60)).alloc (.cells (goneC 0 none 0 0) 58) := ⟨_, rfl⟩
  obtain ⟨r, hr⟩ : ∃ r, Hid (w.heap.size + 1 = r) := ⟨_, rfl⟩
  rw [← hW, hr.out] at T3
  have HC := Lib.hid (kill B k s _ wh W HT.out (T3.out.now.all 1 _ rfl) HL.out (by have := HB.out; have := T3.out.mv.size; omega) hwh)
  obtain ⟨R, hR⟩ : ∃ R, Hid (s.kill wh = R) := ⟨_, rfl⟩
  rw [hR.out] at HC ⊢
  clear T1 T2 hsz hss hsn hss' hn1 hn2 n1b n2b
  go_enter Try.func27, Try.ntmps27
  go_wp2_with fail
  unfold goneC at hW
  rw [← hW]
  have hr1 : w.heap.size + 1 = r := hr.out
  simp only [hr1]
  clear hW hr1
  refine HC.out.mono ?_
  rintro e w2 ⟨t', a, n, c, rfl, hI, hT⟩
  have T4 := Lib.hid (T3.out.next hT.out)
  have B9 := Lib.hid (show Box w2 r (goneC 0 none 0 0) 58 from Apt.head T4.out.now)
  go_wp2_with (refine wpList_store_box rfl 58 (.tmp 4) (.tmp 36) rfl r (goneC R.2.1 a n c) rfl rfl 58 _ B9.out (by kernel_rfl) rfl rfl ?_; intro w9 hb9 hg9)
  refine bodyPost_ret (results_b Try.results27 _ _ r 58 (goneC R.2.1 a n c) hb9 _ rfl Try.underlying58 rfl (by kernel_rfl)) rfl ⟨t', a, n, c, rfl, hI, (Turns.headBox T4.out hb9 hg9).tail.one⟩
set_option maxHeartbeats 4000000 in
theorem moveDrop (B k : Nat) (s : Kp) (t : Thing) (wh : Nat) (w : World) (ht : IsKp B k s t) (hw : t.holds w) (hl : s.Lim) (hB : B ≤ w.heap.size) (hwh : wh ≤ 1000) :
    Calls Try.prog 27 #[.pointer (some ⟨k, 0, none⟩), .agg #[.int .i64 4, .int .i64 wh]] w (MoveEnd B k t (s.drop (wh : Int)) w) := by
  have HT := Lib.hid ht
  obtain ⟨a1, n1, c1, ss, a2, n2, c2, hss, rfl⟩ := ht
  have hn2 : ss.length = n2 := (kpShots hw).1
  have hn1 : s.blocks.length = n1 := (kpBlocks hw).1
  have hss' : ss.length = s.shots.length := by rw [← hss, List.length_map]
  have hsn : s.shots.length = n2 := by omega
  have n1b := hl.bl
  have n2b := hl.sl
  have n1c : n1 ≤ 199 := by omega
  have n2c : n2 ≤ 1000 := by omega
  have T1 := Turns.boxed hw #[.int .i64 4, .int .i64 wh] 60
  have T2 := T1.trans (Turns.boxed T1.now (goneC 0 none 0 0) 58)
  have hsz : (w.alloc (.cells #[.int .i64 4, .int .i64 wh] 60)).heap.size = w.heap.size + 1 := by simp
  rw [hsz] at T2
  have T3 := Lib.hid (T2.next (Turns.lose (T2.now.all 1 _ rfl)))
  have hkl : k < w.heap.size := (kpBox hw).lt
  have HB := Lib.hid hB
  have HL := Lib.hid hl
  have HSS := Lib.hid hss
  obtain ⟨W, hW⟩ : ∃ W, W = (w.alloc (.cells #[.int .i64 4, .int .i64 wh] 60)).alloc (.cells (goneC 0 none 0 0) 58) := ⟨_, rfl⟩
  obtain ⟨r, hr⟩ : ∃ r, Hid (w.heap.size + 1 = r) := ⟨_, rfl⟩
  rw [← hW, hr.out] at T3
  have HC := Lib.hid (drop B k s _ (wh : Int) W HT.out (T3.out.now.all 1 _ rfl) HL.out (by have := HB.out; have := T3.out.mv.size; omega))
  obtain ⟨R, hR⟩ : ∃ R, Hid (s.drop (wh : Int) = R) := ⟨_, rfl⟩
  rw [hR.out] at HC ⊢
  clear T1 T2 hsz hss hsn hss' hn1 hn2 n1b n2b
  go_enter Try.func27, Try.ntmps27
  go_wp2_with fail
  unfold goneC at hW
  rw [← hW]
  have hr1 : w.heap.size + 1 = r := hr.out
  simp only [hr1]
  clear hW hr1
  refine HC.out.mono ?_
  rintro e w2 ⟨t', a, n, c, rfl, hI, hT⟩
  have T4 := Lib.hid (T3.out.next hT.out)
  have B9 := Lib.hid (show Box w2 r (goneC 0 none 0 0) 58 from Apt.head T4.out.now)
  go_wp2_with (refine wpList_store_box rfl 58 (.tmp 4) (.tmp 76) rfl r (goneC R.2.1 a n c) rfl rfl 58 _ B9.out (by kernel_rfl) rfl rfl ?_; intro w9 hb9 hg9)
  refine bodyPost_ret (results_b Try.results27 _ _ r 58 (goneC R.2.1 a n c) hb9 _ rfl Try.underlying58 rfl (by kernel_rfl)) rfl ⟨t', a, n, c, rfl, hI, (Turns.headBox T4.out hb9 hg9).tail.one⟩
theorem moveW (B k : Nat) (s : Kp) (t : Thing) (m : Int × Nat) (w : World) (ht : IsKp B k s t) (hw : t.holds w) (hl : s.Lim) (hB : B ≤ w.heap.size) (h1 : 1 ≤ m.1 ∧ m.1 ≤ 4) (h2 : m.2 ≤ 1000) :
    Calls Try.prog 27 #[.pointer (some ⟨k, 0, none⟩), .agg #[.int .i64 m.1, .int .i64 m.2]] w (MoveEnd B k t (s.move m.1 m.2) w) := by
  obtain ⟨kd, wh⟩ := m
  have h4 : kd = 1 ∨ kd = 2 ∨ kd = 3 ∨ kd = 4 := by simp only at h1; omega
  rcases h4 with rfl | rfl | rfl | rfl
  · exact moveBirth B k s t wh w ht hw hl hB h2
  · exact moveKill B k s t wh w ht hw hl hB h2
  · exact moveKeep B k s t wh w ht hw hl hB h2
  · exact moveDrop B k s t wh w ht hw hl hB h2
end Go.Proofs.Ythjjfmnipemakaa
