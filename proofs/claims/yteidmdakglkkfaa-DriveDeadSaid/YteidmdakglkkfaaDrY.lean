/- The drive laws: DriveDead. -/
import Derived.Test.YteidmdakglkkfaaDrW
namespace Go.Proofs.Yteidmdakglkkfaa
open Go.RowKit
set_option linter.unusedVariables false
set_option maxRecDepth 100000

def tailJ (k : Nat) (mark : Int) : List JobV := [plainJ 3 0, ⟨5, k, 0, none⟩, getJ k, ⟨1, k, 0, some (secB mark)⟩, plainJ 3 0, getJ k, plainJ 7 0, getJ k, plainJ 3 0, plainJ 8 0, getJ k]
theorem runR_cons (s : DS) (j : JobV) (js : List JobV) : runR s (j :: js) = (stepD s j).1 :: runR (stepD s j).2 js := rfl
theorem step_fail {s : DS} (h : s.dead = false) {j : JobV} (hk : j.kind = 7) : stepD s j = ((0, none), { s with dead := true }) := by
  unfold stepD
  rw [if_neg (by rw [h]; simp), if_neg (by omega), if_neg (by omega), if_neg (by omega), if_neg (by omega), if_neg (by omega), if_neg (by omega), if_pos hk]
theorem step_dead {s : DS} (h : s.dead = true) {j : JobV} (hk : j.kind ≠ 8) : stepD s j = ((13, none), s) := by
  unfold stepD
  rw [if_pos ⟨h, hk⟩]
theorem step_renew (s : DS) {j : JobV} (hk : j.kind = 8) : stepD s j = ((0, none), DS.new) := by
  unfold stepD
  rw [if_neg (fun h => h.2 hk), if_neg (by omega), if_neg (by omega), if_neg (by omega), if_neg (by omega), if_neg (by omega), if_neg (by omega), if_neg (by omega)]
theorem dead_run {s : DS} (h : Sound s) (k : Nat) (hk : k < 8) (mark : Int) :
    ∃ r0 r1 r3 r4 r6 r9 : RepV, runR s (tailJ k mark) = [r0, r1, (12, none), r3, r4, (0, some (secB mark)), r6, (13, none), (13, none), r9, (0, some zero128)] := by
  unfold tailJ
  have hf := settle_sound (f := fun _ => true) h
  have e1 : stepD s (plainJ 3 0) = ((0, none), ⟨settleN (fun _ => true) s.plate s.waits s.waits.length, [], s.dead⟩) := step_flush h.cl.1 rfl
  rw [runR_cons, e1]
  generalize hpl : settleN (fun _ => true) s.plate s.waits s.waits.length = pl at *
  have hd : s.dead = false := h.cl.1
  rw [hd] at hf ⊢
  have hlen : pl.length = 8 := hf.len
  have e2 : stepD ⟨pl, [], false⟩ ⟨5, k, 0, none⟩ = ((0, none), ⟨pl.set k ⟨(pl.getD k default).data, true⟩, [], false⟩) := step_break (s := ⟨pl, [], false⟩) rfl rfl
  rw [runR_cons]; simp only; rw [e2]
  have hb : (pl.set k ⟨(pl.getD k default).data, true⟩).getD k default = ⟨(pl.getD k default).data, true⟩ := by
    rw [List.getD, List.getElem?_set]; simp [hlen, hk]
  have hl2 : (pl.set k ⟨(pl.getD k default).data, true⟩).length = 8 := by simp [hlen]
  generalize pl.set k ⟨(pl.getD k default).data, true⟩ = pl2 at *
  have e3 : stepD ⟨pl2, [], false⟩ (getJ k) = ((12, none), ⟨pl2, [], false⟩) := by
    rw [step_get (s := ⟨pl2, [], false⟩) rfl rfl]
    show (lookD ⟨pl2, [], false⟩ k, _) = _
    unfold lookD
    simp only [List.reverse_nil, List.find?_nil]
    rw [if_pos (by rw [hb])]
  rw [runR_cons]; simp only; rw [e3]
  have e4 : stepD ⟨pl2, [], false⟩ ⟨1, k, 0, some (secB mark)⟩ = ((0, none), ⟨pl2, [⟨k, secB mark⟩], false⟩) := step_put (s := ⟨pl2, [], false⟩) rfl rfl
  rw [runR_cons]; simp only; rw [e4]
  have e5 : stepD ⟨pl2, [⟨k, secB mark⟩], false⟩ (plainJ 3 0) = ((0, none), ⟨putOn pl2 ⟨k, secB mark⟩, [], false⟩) := step_flush (s := ⟨pl2, [⟨k, secB mark⟩], false⟩) rfl rfl
  rw [runR_cons]; simp only; rw [e5]
  have hp := putOn_at pl2 ⟨k, secB mark⟩ k (by rw [hl2]; exact hk)
  rw [if_pos rfl] at hp
  generalize putOn pl2 ⟨k, secB mark⟩ = pl3 at *
  have e6 : stepD ⟨pl3, [], false⟩ (getJ k) = ((0, some (secB mark)), ⟨pl3, [], false⟩) := by
    rw [step_get (s := ⟨pl3, [], false⟩) rfl rfl]
    show (lookD ⟨pl3, [], false⟩ k, _) = _
    unfold lookD
    simp only [List.reverse_nil, List.find?_nil]
    rw [hp]
    rfl
  rw [runR_cons]; simp only; rw [e6]
  have e7 : stepD ⟨pl3, [], false⟩ (plainJ 7 0) = ((0, none), ⟨pl3, [], true⟩) := step_fail (s := ⟨pl3, [], false⟩) rfl rfl
  rw [runR_cons]; simp only; rw [e7]
  have e8 : stepD ⟨pl3, [], true⟩ (getJ k) = ((13, none), ⟨pl3, [], true⟩) := step_dead (s := ⟨pl3, [], true⟩) rfl (show (2 : Int) ≠ 8 by decide)
  rw [runR_cons]; simp only; rw [e8]
  have e9 : stepD ⟨pl3, [], true⟩ (plainJ 3 0) = ((13, none), ⟨pl3, [], true⟩) := step_dead (s := ⟨pl3, [], true⟩) rfl (show (3 : Int) ≠ 8 by decide)
  rw [runR_cons]; simp only; rw [e9]
  have e10 : stepD ⟨pl3, [], true⟩ (plainJ 8 0) = ((0, none), DS.new) := step_renew _ rfl
  rw [runR_cons]; simp only; rw [e10]
  have e11 : stepD DS.new (getJ k) = ((0, some zero128), DS.new) := by
    rw [stepD_get rfl, lookD_clean new_sound.cl, dataD_new]
  rw [runR_cons]; simp only; rw [e11]
  exact ⟨_, _, _, _, _, _, rfl⟩
theorem tailJ_ok (k : Nat) (hk : k < 8) (mark : Int) : ∀ j ∈ tailJ k mark, j.ok := by
  have hp : ∀ kd : Int, 1 ≤ kd → kd ≤ 8 → kd ≠ 1 → kd ≠ 6 → (plainJ kd 0).ok := fun kd h1 h2 h3 h4 => ⟨h1, h2, (by decide : (0 : Nat) < 8), fun h => by
    have : kd = 1 ∨ kd = 6 := h
    omega⟩
  intro j hj
  unfold tailJ at hj
  simp only [List.mem_cons, List.not_mem_nil, or_false] at hj
  rcases hj with rfl | rfl | rfl | rfl | rfl | rfl | rfl | rfl | rfl | rfl | rfl
  · exact hp 3 (by decide) (by decide) (by decide) (by decide)
  · exact ⟨(by decide : (1 : Int) ≤ 5), (by decide : (5 : Int) ≤ 8), hk, fun h => by have : (5 : Int) = 1 ∨ (5 : Int) = 6 := h; omega⟩
  · exact getJ_ok hk
  · exact ⟨(by decide : (1 : Int) ≤ 1), (by decide : (1 : Int) ≤ 8), hk, fun _ => ⟨_, rfl, secB_length mark⟩⟩
  · exact hp 3 (by decide) (by decide) (by decide) (by decide)
  · exact getJ_ok hk
  · exact hp 7 (by decide) (by decide) (by decide) (by decide)
  · exact getJ_ok hk
  · exact hp 3 (by decide) (by decide) (by decide) (by decide)
  · exact hp 8 (by decide) (by decide) (by decide) (by decide)
  · exact getJ_ok hk
def tailC (k : Nat) (g : Nat) : List (List Value) :=
  [[.int .i64 3, .int .i64 0, .int .i64 0, .slice none 0 0], [.int .i64 5, .int .i64 k, .int .i64 0, .slice none 0 0], [.int .i64 2, .int .i64 k, .int .i64 0, .slice none 0 0], [.int .i64 1, .int .i64 k, .int .i64 0, .slice (some ⟨g, 0, none⟩) 128 128],
   [.int .i64 3, .int .i64 0, .int .i64 0, .slice none 0 0], [.int .i64 2, .int .i64 k, .int .i64 0, .slice none 0 0], [.int .i64 7, .int .i64 0, .int .i64 0, .slice none 0 0], [.int .i64 2, .int .i64 k, .int .i64 0, .slice none 0 0],
   [.int .i64 3, .int .i64 0, .int .i64 0, .slice none 0 0], [.int .i64 8, .int .i64 0, .int .i64 0, .slice none 0 0], [.int .i64 2, .int .i64 k, .int .i64 0, .slice none 0 0]]
theorem tail_pt {w : World} {k g : Nat} {mark : Int} (h : DatAt w (Kind w 5) (some (secB mark)) (some ⟨g, 0, none⟩) 128 128) : Pt jobL w (Kind w 5) (tailJ k mark) (tailC k g) := by
  have hn : ∀ (kd : Int) (k : Nat), jobL.at_ w (Kind w 5) ⟨kd, k, 0, none⟩ [.int .i64 kd, .int .i64 k, .int .i64 0, .slice none 0 0] := fun kd k => ⟨_, _, _, rfl, .inl ⟨rfl, rfl, rfl, rfl⟩⟩
  have hs : jobL.at_ w (Kind w 5) ⟨1, k, 0, some (secB mark)⟩ [.int .i64 1, .int .i64 k, .int .i64 0, .slice (some ⟨g, 0, none⟩) 128 128] := ⟨_, _, _, rfl, h⟩
  refine ⟨rfl, fun i x vs hx hv => ?_⟩
  have hi : i < 11 := (List.getElem?_eq_some_iff.1 hx).1
  have : i = 0 ∨ i = 1 ∨ i = 2 ∨ i = 3 ∨ i = 4 ∨ i = 5 ∨ i = 6 ∨ i = 7 ∨ i = 8 ∨ i = 9 ∨ i = 10 := by omega
  rcases this with rfl | rfl | rfl | rfl | rfl | rfl | rfl | rfl | rfl | rfl | rfl <;> (injection hx with hx; injection hv with hv; subst hx hv; first | exact hs | exact hn _ _)
theorem vrow_new (w : World) (cs : Array Value) (t : TypeId) (size n : Nat) (vss : List (List Value)) (hcs : cs.toList = vss.flatten) (hl : vss.flatten.length = n * size) (hn : n ≤ maxLen) : VRow (w.alloc (.cells cs t)) size (some ⟨w.heap.size, 0, none⟩) n n vss.flatten := by
  refine ⟨hl, Nat.le_refl _, hn, (fun h => by cases h), .inr ⟨_, 0, rfl, fun i hi => ?_⟩⟩
  rw [Nat.zero_add, cell_of_row _ _ i cs t (0, 0) (heap_alloc_new w _), ← hcs]
  simp
set_option maxHeartbeats 8000000 in
theorem driveDead {F : Nat → Prop} (a : Option Addr) (len cap : Nat) (xs : List ActV) (at_ mark : Int) (w : World) (h : SRow actL w F a len cap xs) :
    Calls Try.prog 14 #[.slice a len cap, .int .i64 at_, .int .i64 mark] w fun e w' => e = .returned (.bool true) ∧ Below w.heap.size w w' := by
  obtain ⟨js, hjs⟩ : ∃ js, Hid (jobsOf [1, 3, 4, 6] xs 40 = js) := ⟨_, rfl⟩
  have hmild : Hid (∀ j ∈ js, Mild j) := by
    intro j hj
    rw [← hjs.out] at hj
    obtain ⟨h1, h2⟩ := jobsOf_mem (by decide) (by decide) hj
    refine ⟨h1, ?_⟩
    simp only [List.mem_cons, List.not_mem_nil, or_false] at h2
    omega
  have hlen : js.length ≤ 40 := by rw [← hjs.out]; exact jobsOf_length ..
  have HX := Lib.hid h
  clear h
  go_enter Try.func14, Try.ntmps14
  go_wp2_with fail
  have RK := row_lit (k := .i64) w [1, 3, 4, 6] 3 #[.int .i64 1, .int .i64 3, .int .i64 4, .int .i64 6] rfl (by decide) (by unfold maxLen; decide)
  obtain ⟨V, hV⟩ : ∃ V, V = w.alloc (.cells #[.int .i64 1, .int .i64 3, .int .i64 4, .int .i64 6] 3) := ⟨_, rfl⟩
  have LA : Below w.heap.size w V := by rw [hV]; exact Below_alloc1 _
  rw [← hV] at RK ⊢
  refine (actsD a len cap xs 40 w.heap.size 0 4 4 [1, 3, 4, 6] V (HX.out.below LA) RK (by decide) (by decide)).mono ?_
  rintro e w1 ⟨a1, l1, c1, rfl, hO, hb1⟩
  rw [show (xs.take 40).map (jobOf [1, 3, 4, 6]) = js from hjs.out] at hO
  have hl1 := hO.1
  have HO := Lib.hid hO
  have L1 := Lib.hid (LA.trans (hb1.mono LA.size))
  have hVs : V.heap.size ≤ w1.heap.size := hb1.size
  have hwV := LA.size
  clear hO hb1 LA RK hV
  go_wp2_with (go_at_call 15; refine (picked at_ _ _ (by omega) (by omega)).mono ?_; rintro e w' ⟨r, hr, hr0, hr1, rfl, rfl⟩; obtain ⟨k, rfl⟩ := Int.eq_ofNat_of_zero_le hr0)
  have hk8 : k < 8 := by omega
  refine (sectorOf mark w1).mono ?_
  rintro e w2 hpost
  obtain ⟨gs, rfl, hdat, hb2⟩ := hpost.dat
  have L2 := Lib.hid (L1.out.trans (hb2.mono L1.out.size))
  have O2 := Lib.hid (HO.out.keeps (Keeps.below [5, 78] hb2) (by simp) (by simp))
  have hVs2 : V.heap.size ≤ w2.heap.size := by have := hb2.size; omega
  have HDAT := Lib.hid hdat
  clear hdat hpost hb2 HO L1
  have LAB : Below w2.heap.size w2 (w2.alloc (.cells #[.int .i64 3, .int .i64 0, .int .i64 0, .slice none 0 0, .int .i64 5, .int .i64 (k : Int), .int .i64 0, .slice none 0 0, .int .i64 2, .int .i64 (k : Int), .int .i64 0, .slice none 0 0, .int .i64 1, .int .i64 (k : Int), .int .i64 0, .slice (some ⟨gs, 0, none⟩) 128 128, .int .i64 3, .int .i64 0, .int .i64 0, .slice none 0 0, .int .i64 2, .int .i64 (k : Int), .int .i64 0, .slice none 0 0, .int .i64 7, .int .i64 0, .int .i64 0, .slice none 0 0, .int .i64 2, .int .i64 (k : Int), .int .i64 0, .slice none 0 0, .int .i64 3, .int .i64 0, .int .i64 0, .slice none 0 0, .int .i64 8, .int .i64 0, .int .i64 0, .slice none 0 0, .int .i64 2, .int .i64 (k : Int), .int .i64 0, .slice none 0 0] 78)) := Below_alloc1 _
  have hAO : SOwn jobL (w2.alloc (.cells #[.int .i64 3, .int .i64 0, .int .i64 0, .slice none 0 0, .int .i64 5, .int .i64 (k : Int), .int .i64 0, .slice none 0 0, .int .i64 2, .int .i64 (k : Int), .int .i64 0, .slice none 0 0, .int .i64 1, .int .i64 (k : Int), .int .i64 0, .slice (some ⟨gs, 0, none⟩) 128 128, .int .i64 3, .int .i64 0, .int .i64 0, .slice none 0 0, .int .i64 2, .int .i64 (k : Int), .int .i64 0, .slice none 0 0, .int .i64 7, .int .i64 0, .int .i64 0, .slice none 0 0, .int .i64 2, .int .i64 (k : Int), .int .i64 0, .slice none 0 0, .int .i64 3, .int .i64 0, .int .i64 0, .slice none 0 0, .int .i64 8, .int .i64 0, .int .i64 0, .slice none 0 0, .int .i64 2, .int .i64 (k : Int), .int .i64 0, .slice none 0 0] 78)) V.heap.size 78 (Kind w2 5) a1 l1 c1 js := O2.out.alloc _
  have hAV : VRow (w2.alloc (.cells #[.int .i64 3, .int .i64 0, .int .i64 0, .slice none 0 0, .int .i64 5, .int .i64 (k : Int), .int .i64 0, .slice none 0 0, .int .i64 2, .int .i64 (k : Int), .int .i64 0, .slice none 0 0, .int .i64 1, .int .i64 (k : Int), .int .i64 0, .slice (some ⟨gs, 0, none⟩) 128 128, .int .i64 3, .int .i64 0, .int .i64 0, .slice none 0 0, .int .i64 2, .int .i64 (k : Int), .int .i64 0, .slice none 0 0, .int .i64 7, .int .i64 0, .int .i64 0, .slice none 0 0, .int .i64 2, .int .i64 (k : Int), .int .i64 0, .slice none 0 0, .int .i64 3, .int .i64 0, .int .i64 0, .slice none 0 0, .int .i64 8, .int .i64 0, .int .i64 0, .slice none 0 0, .int .i64 2, .int .i64 (k : Int), .int .i64 0, .slice none 0 0] 78)) 4 (some ⟨w2.heap.size, 0, none⟩) 11 11 (tailC k gs).flatten := vrow_new w2 _ _ 4 11 (tailC k gs) rfl rfl (by unfold maxLen; decide)
  have hAP : Pt jobL (w2.alloc (.cells #[.int .i64 3, .int .i64 0, .int .i64 0, .slice none 0 0, .int .i64 5, .int .i64 (k : Int), .int .i64 0, .slice none 0 0, .int .i64 2, .int .i64 (k : Int), .int .i64 0, .slice none 0 0, .int .i64 1, .int .i64 (k : Int), .int .i64 0, .slice (some ⟨gs, 0, none⟩) 128 128, .int .i64 3, .int .i64 0, .int .i64 0, .slice none 0 0, .int .i64 2, .int .i64 (k : Int), .int .i64 0, .slice none 0 0, .int .i64 7, .int .i64 0, .int .i64 0, .slice none 0 0, .int .i64 2, .int .i64 (k : Int), .int .i64 0, .slice none 0 0, .int .i64 3, .int .i64 0, .int .i64 0, .slice none 0 0, .int .i64 8, .int .i64 0, .int .i64 0, .slice none 0 0, .int .i64 2, .int .i64 (k : Int), .int .i64 0, .slice none 0 0] 78)) (Kind w2 5) (tailJ k mark) (tailC k gs) := (tail_pt HDAT.out).keep (fun _ h => h) (fun b _ hlt => LAB.block b hlt)
  have hAF : ∀ b, Kind w2 5 b → Kind w2 5 b ∧ b < (w2.alloc (.cells #[.int .i64 3, .int .i64 0, .int .i64 0, .slice none 0 0, .int .i64 5, .int .i64 (k : Int), .int .i64 0, .slice none 0 0, .int .i64 2, .int .i64 (k : Int), .int .i64 0, .slice none 0 0, .int .i64 1, .int .i64 (k : Int), .int .i64 0, .slice (some ⟨gs, 0, none⟩) 128 128, .int .i64 3, .int .i64 0, .int .i64 0, .slice none 0 0, .int .i64 2, .int .i64 (k : Int), .int .i64 0, .slice none 0 0, .int .i64 7, .int .i64 0, .int .i64 0, .slice none 0 0, .int .i64 2, .int .i64 (k : Int), .int .i64 0, .slice none 0 0, .int .i64 3, .int .i64 0, .int .i64 0, .slice none 0 0, .int .i64 8, .int .i64 0, .int .i64 0, .slice none 0 0, .int .i64 2, .int .i64 (k : Int), .int .i64 0, .slice none 0 0] 78)).heap.size ∧ (Value.slice a1 l1 c1).ownBlock ≠ some b := fun b hb => ⟨hb, Nat.lt_of_lt_of_le hb.lt LAB.size, fun e => absurd (hb.ne (O2.out.kind b e)) (by decide)⟩
  have hAB : V.heap.size ≤ (w2.alloc (.cells #[.int .i64 3, .int .i64 0, .int .i64 0, .slice none 0 0, .int .i64 5, .int .i64 (k : Int), .int .i64 0, .slice none 0 0, .int .i64 2, .int .i64 (k : Int), .int .i64 0, .slice none 0 0, .int .i64 1, .int .i64 (k : Int), .int .i64 0, .slice (some ⟨gs, 0, none⟩) 128 128, .int .i64 3, .int .i64 0, .int .i64 0, .slice none 0 0, .int .i64 2, .int .i64 (k : Int), .int .i64 0, .slice none 0 0, .int .i64 7, .int .i64 0, .int .i64 0, .slice none 0 0, .int .i64 2, .int .i64 (k : Int), .int .i64 0, .slice none 0 0, .int .i64 3, .int .i64 0, .int .i64 0, .slice none 0 0, .int .i64 8, .int .i64 0, .int .i64 0, .slice none 0 0, .int .i64 2, .int .i64 (k : Int), .int .i64 0, .slice none 0 0] 78)).heap.size := Nat.le_trans hVs2 LAB.size
  have HAO := Lib.hid hAO
  have HAV := Lib.hid hAV
  have HAP := Lib.hid hAP
  have HAF := Lib.hid hAF
  have HAB := Lib.hid hAB
  have HLAB := Lib.hid LAB
  clear hAO hAV hAP hAF hAB LAB
  go_wp2_with (at_builtin; refine wpList_append_data (L := jobL) rfl (.tmp 19) (.tmp 39) 75 rfl V.heap.size 78 _ 48 Try.underlying75 info_job rfl (Kind w2 5) a1 l1 c1 js rfl HAO.out (some ⟨w2.heap.size, 0, none⟩) 11 11 (tailJ k mark) (tailC k gs) rfl HAV.out (Kind w2 5) HAP.out rfl HAF.out (by unfold maxLen; omega) (by omega) HAB.out ?_)
  intro a3 c3 w3 hown3 hg3
  have K3 : ∀ ts : List TypeId, 78 ∉ ts → Keeps ts w2 w3 := fun ts hts => (Keeps.below ts HLAB.out).trans (Keeps.grown hg3 (fun k hk t ht hkk => hts (by rw [← hkk.ne (HAO.out.kind k hk)]; exact ht)))
  have L3 := Lib.hid (HAO.out.grown (L2.out.trans (HLAB.out.mono L2.out.size)) hwV (Nat.le_trans hwV HAB.out) hg3)
  have O3 : Hid (SOwn jobL w3 V.heap.size 78 (Kind w3 5) a3 (l1 + 11) c3 (js ++ tailJ k mark)) := hown3.mono (Nat.le_refl _) (fun b hb => (K3 [5] (by decide)).kind (by simp) hb)
  clear hown3 hg3 K3 HAO HAV HAP HAF HAB HLAB O2 L2 HDAT
  go_wp2_with fail
  refine (playD a3 (l1 + 11) c3 (js ++ tailJ k mark) w3 O3.out.sRow (by omega) (fun j hj => by
    rcases List.mem_append.1 hj with h | h
    · exact (hmild.out j h).1
    · exact tailJ_ok k hk8 mark j h)).mono ?_
  rintro e w4 ⟨ar, cr, rfl, hR, hb4⟩
  have L4 := Lib.hid (L3.out.trans (hb4.mono L3.out.size))
  have hmr := hR.hmax
  have hlr := hR.hle
  unfold maxLen at hmr
  obtain ⟨r0, r1, r3, r4, r6, r9, hrun⟩ := dead_run (run_sound new_sound js hmild.out) k hk8 mark
  have hall : runR DS.new (js ++ tailJ k mark) = runR DS.new js ++ [r0, r1, (12, none), r3, r4, (0, some (secB mark)), r6, (13, none), (13, none), r9, (0, some zero128)] := by rw [runR_append, hrun]
  have hlj : (runR DS.new js).length = l1 := by rw [runR_length, hl1]
  have hat : ∀ t, t < 11 → (runR DS.new (js ++ tailJ k mark))[l1 + t]? = [r0, r1, (12, none), r3, r4, (0, some (secB mark)), r6, (13, none), (13, none), r9, (0, some zero128)][t]? := fun t ht => by
    rw [hall, List.getElem?_append_right (by omega), hlj, Nat.add_sub_cancel_left]
  have hget : ∀ t x, t < 11 → [r0, r1, (12, none), r3, r4, (0, some (secB mark)), r6, (13, none), (13, none), r9, (0, some zero128)][t]? = some x → ∃ gr ax lx cx, ar = some ⟨gr, 0, none⟩ ∧ gr < w4.heap.size ∧ w4.cell? ⟨gr, (l1 + t) * 2, none⟩ = some (.int .i64 x.1) ∧ w4.cell? ⟨gr, (l1 + t) * 2 + 1, none⟩ = some (.slice ax lx cx) ∧ DatAt w4 (Kind w4 5) x.2 ax lx cx := by
    intro t x ht hx
    obtain ⟨gr, vs, har, _, hgl, ⟨y, hy, hya⟩, hc⟩ := hR.get (l1 + t) (by omega)
    rw [hat t ht, hx] at hy
    injection hy with hy
    subst hy
    obtain ⟨ax, lx, cx, rfl, hdat⟩ := hya
    exact ⟨gr, ax, lx, cx, har, hgl, hc 0 (by decide), hc 1 (by decide), hdat⟩
  obtain ⟨gr, _, _, _, rfl, hgr, z2, _, _⟩ := hget 2 (12, none) (by decide) rfl
  obtain ⟨gr5, a5, l5, c5, he5, _, _, z5, d5⟩ := hget 5 (0, some (secB mark)) (by decide) rfl
  obtain ⟨gr7, _, _, _, he7, _, z7, _, _⟩ := hget 7 (13, none) (by decide) rfl
  obtain ⟨gr8, _, _, _, he8, _, z8, _, _⟩ := hget 8 (13, none) (by decide) rfl
  obtain ⟨gr10, a10, l10, c10, he10, _, z10, z11, d10⟩ := hget 10 (0, some zero128) (by decide) rfl
  obtain rfl : gr = gr5 := by injection he5 with he5; injection he5
  obtain rfl : gr = gr7 := by injection he7 with he7; injection he7
  obtain rfl : gr = gr8 := by injection he8 with he8; injection he8
  obtain rfl : gr = gr10 := by injection he10 with he10; injection he10
  have hrow5 : Row .u8 w4 a5 l5 c5 (secB mark) := by
    rcases d5 with ⟨h, _⟩ | ⟨d', h, h1, h2, h3⟩
    · cases h
    · injection h with h; subst h; exact h3.toRow
  have hrow10 : Row .u8 w4 a10 l10 c10 zero128 := by
    rcases d10 with ⟨h, _⟩ | ⟨d', h, h1, h2, h3⟩
    · cases h
    · injection h with h; subst h; exact h3.toRow
  have HR5 := Lib.hid hrow5
  have HR10 := Lib.hid hrow10
  simp only at z2 z5 z7 z8 z10 z11
  clear hget hat hall hlj hrun hR hb4 O3 L3 hrow5 hrow10 d5 d10 he5 he7 he8 he10
  have HS0 : Hid ((fun w' => Below w4.heap.size w4 w' ∧ w'.cell? ⟨gr, (l1 + 2) * 2, none⟩ = some (.int .i64 12) ∧ w'.cell? ⟨gr, (l1 + 5) * 2 + 1, none⟩ = some (.slice a5 l5 c5) ∧ w'.cell? ⟨gr, (l1 + 7) * 2, none⟩ = some (.int .i64 13) ∧ w'.cell? ⟨gr, (l1 + 8) * 2, none⟩ = some (.int .i64 13) ∧ w'.cell? ⟨gr, (l1 + 10) * 2, none⟩ = some (.int .i64 0) ∧ w'.cell? ⟨gr, (l1 + 10) * 2 + 1, none⟩ = some (.slice a10 l10 c10)) w4) := ⟨Below.refl _ _, z2, z5, z7, z8, z10, z11⟩
  have HKS : Hid (∀ w', Below w4.heap.size w4 w' → (fun w' => Below w4.heap.size w4 w' ∧ w'.cell? ⟨gr, (l1 + 2) * 2, none⟩ = some (.int .i64 12) ∧ w'.cell? ⟨gr, (l1 + 5) * 2 + 1, none⟩ = some (.slice a5 l5 c5) ∧ w'.cell? ⟨gr, (l1 + 7) * 2, none⟩ = some (.int .i64 13) ∧ w'.cell? ⟨gr, (l1 + 8) * 2, none⟩ = some (.int .i64 13) ∧ w'.cell? ⟨gr, (l1 + 10) * 2, none⟩ = some (.int .i64 0) ∧ w'.cell? ⟨gr, (l1 + 10) * 2 + 1, none⟩ = some (.slice a10 l10 c10)) w') := by
    intro w' hl
    have kc : ∀ {p : Addr} {v : Value}, w4.cell? p = some v → w'.cell? p = some v := fun h => (hl.cell (World.block_lt_of_cell? _ _ h)).trans h
    exact ⟨hl, kc z2, kc z5, kc z7, kc z8, kc z10, kc z11⟩
  have HSEC : Hid (∀ w', Below w4.heap.size w4 w' → Calls Try.prog 33 #[.int .i64 mark] w' fun e w'' => ∃ gq, e = .returned (.slice (some ⟨gq, 0, none⟩) 128 128) ∧ Hid (Row .u8 w'' (some ⟨gq, 0, none⟩) 128 128 (secB mark)) ∧ (fun w' => Below w4.heap.size w4 w' ∧ w'.cell? ⟨gr, (l1 + 2) * 2, none⟩ = some (.int .i64 12) ∧ w'.cell? ⟨gr, (l1 + 5) * 2 + 1, none⟩ = some (.slice a5 l5 c5) ∧ w'.cell? ⟨gr, (l1 + 7) * 2, none⟩ = some (.int .i64 13) ∧ w'.cell? ⟨gr, (l1 + 8) * 2, none⟩ = some (.int .i64 13) ∧ w'.cell? ⟨gr, (l1 + 10) * 2, none⟩ = some (.int .i64 0) ∧ w'.cell? ⟨gr, (l1 + 10) * 2 + 1, none⟩ = some (.slice a10 l10 c10)) w'') := by
    intro w' hl
    refine (sectorOf mark w').mono ?_
    rintro e w'' ⟨gq, rfl, ho, hb⟩
    exact ⟨gq, rfl, VRow.toRow ho.out.row (wf_bytes0 (secN_bytes mark 128)), HKS.out _ (hl.trans (hb.out.mono hl.size))⟩
  have s2 : IntKind.i64.wrap ((l1 : Int) + 2) = (l1 : Int) + 2 := IntWalk.i64_in _ (by omega)
  have p2 : (0 : Int) ≤ (l1 : Int) + 2 := by omega
  have q2 : (l1 : Int) + 2 < (l1 : Int) + 11 := by omega
  have n2 : ((l1 : Int) + 2).toNat = l1 + 2 := by omega
  have s5 : IntKind.i64.wrap ((l1 : Int) + 5) = (l1 : Int) + 5 := IntWalk.i64_in _ (by omega)
  have p5 : (0 : Int) ≤ (l1 : Int) + 5 := by omega
  have q5 : (l1 : Int) + 5 < (l1 : Int) + 11 := by omega
  have n5 : ((l1 : Int) + 5).toNat = l1 + 5 := by omega
  have s7 : IntKind.i64.wrap ((l1 : Int) + 7) = (l1 : Int) + 7 := IntWalk.i64_in _ (by omega)
  have p7 : (0 : Int) ≤ (l1 : Int) + 7 := by omega
  have q7 : (l1 : Int) + 7 < (l1 : Int) + 11 := by omega
  have n7 : ((l1 : Int) + 7).toNat = l1 + 7 := by omega
  have s8 : IntKind.i64.wrap ((l1 : Int) + 8) = (l1 : Int) + 8 := IntWalk.i64_in _ (by omega)
  have p8 : (0 : Int) ≤ (l1 : Int) + 8 := by omega
  have q8 : (l1 : Int) + 8 < (l1 : Int) + 11 := by omega
  have n8 : ((l1 : Int) + 8).toNat = l1 + 8 := by omega
  have s10 : IntKind.i64.wrap ((l1 : Int) + 10) = (l1 : Int) + 10 := IntWalk.i64_in _ (by omega)
  have p10 : (0 : Int) ≤ (l1 : Int) + 10 := by omega
  have q10 : (l1 : Int) + 10 < (l1 : Int) + 11 := by omega
  have n10 : ((l1 : Int) + 10).toNat = l1 + 10 := by omega
  have hB0' : Below w4.heap.size w4 w4.drew := (Below.refl _ _).drew
  obtain ⟨MC, hMC, hmk⟩ : ∃ MC : Array Value, MC.toList = zero128.map (.int .u8) ∧ ∀ w : World, (Instr.makeSlice 59 (.int .i64 128) (.int .i64 128)).run Try.prog w = .ok (.slice (some ⟨w.heap.size, 0, none⟩) 128 128) (w.alloc (.cells MC 5)) := by
    obtain ⟨i, hi0, hz, hsize, hby⟩ := info_parts info_byte0
    refine ⟨madeCells (Value.int .u8 0).cells (128 * 1), by kernel_rfl, fun w => ?_⟩
    have := run_make (P := Try.prog) w 59 5 i (.int .u8 0) Try.underlying59 hi0 hz .i64 .i64 128 128 (by decide) (by decide) (by rw [hby]; decide) (by decide)
    rw [hsize] at this
    exact this
  have HMC := Lib.hid hMC
  have hMR : Hid (∀ w : World, Row .u8 (w.alloc (.cells MC 5)) (some ⟨w.heap.size, 0, none⟩) 128 128 zero128) := fun w => row_lit (k := .u8) w zero128 5 MC HMC.out (by decide) (by unfold maxLen; decide)
  clear hMC
  go_wp2_with fail
  go_region_held3 (fun w' => Below w4.heap.size w4 w' ∧ w'.cell? ⟨gr, (l1 + 2) * 2, none⟩ = some (.int .i64 12) ∧ w'.cell? ⟨gr, (l1 + 5) * 2 + 1, none⟩ = some (.slice a5 l5 c5) ∧ w'.cell? ⟨gr, (l1 + 7) * 2, none⟩ = some (.int .i64 13) ∧ w'.cell? ⟨gr, (l1 + 8) * 2, none⟩ = some (.int .i64 13) ∧ w'.cell? ⟨gr, (l1 + 10) * 2, none⟩ = some (.int .i64 0) ∧ w'.cell? ⟨gr, (l1 + 10) * 2 + 1, none⟩ = some (.slice a10 l10 c10))
    (first | exact hS2 | exact ⟨below_drewN hS2.1 _, hS2.2⟩ | exact HS0.out | exact HKS.out _ hB0' | exact HKS.out _ ((below_drewN hS2.1 _).alloc hS2.1.size _) | exact HKS.out _ (below_drewN ((below_drewN hS2.1 _).alloc hS2.1.size _) _) | (go_keep; done))
    (first
      | (go_at_call 33; refine (HSEC.out _ ?_).mono ?_; (first | exact hB0' | exact hS2.1); rintro e w' ⟨gq, rfl, hrq, hS2⟩)
      | (go_at_call_of 28 a5; refine (sameBytes _ _ _ (secB mark) _ _ _ (secB mark) _ (HR5.out.below hS2.1) hrq.out).mono ?_; rintro e w' ⟨rfl, k9, rfl⟩)
      | (go_at_call_of 28 a10; refine (sameBytes _ _ _ zero128 _ _ _ zero128 _ (HR10.out.below ((below_drewN hS2.1 _).alloc hS2.1.size _)) (hMR.out _)).mono ?_; rintro e w' ⟨rfl, k10, rfl⟩))
  all_goals
    have LF := L4.out.trans ((below_drewN ((below_drewN hS2.1 k9).alloc hS2.1.size (.cells MC 5)) k10).mono L4.out.size)
    go_wp2_with fail
    go_ret
    exact ⟨rfl, LF⟩
end Go.Proofs.Yteidmdakglkkfaa
