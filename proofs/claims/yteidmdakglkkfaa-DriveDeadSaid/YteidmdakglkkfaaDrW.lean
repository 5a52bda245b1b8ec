/- The drive laws: lists of jobs put together; DriveAll. -/
import Derived.Test.YteidmdakglkkfaaDrO
namespace Go.Proofs.Yteidmdakglkkfaa
open Go.RowKit
set_option linter.unusedVariables false
set_option maxRecDepth 100000

theorem JRow.take {w : World} {a : Option Addr} {len cap : Nat} {js : List JobV} (h : JRow w a len cap js) (m : Nat) (hm : m ≤ len) : JRow w a m cap (js.take m) := by
  obtain ⟨uss, h1, h2, h3⟩ := h
  have hu : uss.length = len := by rw [← h2.1, h3]
  refine ⟨uss.take m, ⟨?_, by have := h1.hle; omega, h1.hmax, h1.hnil, ?_⟩, h2.take m, by rw [List.length_take]; omega⟩
  · rw [flatten_length 4 _ (fun x hx => h2.sizes x (List.mem_of_mem_take hx)), List.length_take]
    congr 1; omega
  · rcases h1.hat with h0 | ⟨b, off, ha, hc⟩
    · left; have : m * 4 ≤ len * 4 := Nat.mul_le_mul_right _ hm; omega
    · refine .inr ⟨b, off, ha, fun i hi => ?_⟩
      have : m * 4 ≤ len * 4 := Nat.mul_le_mul_right _ hm
      rw [hc i (by omega), ← flatten_take 4 _ h2.sizes m, List.getElem?_take, if_pos hi]
/-- A copy, made by append onto nil. -/
theorem copied {w w2 : World} {B : Nat} {a2 : Option Addr} {l c2 : Nat} {js : List JobV} (hB : B = w.heap.size) (hown : SOwn jobL w2 B 78 (Kind w 5) a2 l c2 js) (hg : w.grownBy w2 (Value.slice none 0 0).ownBlock) :
    Below w.heap.size w w2 ∧ SOwn jobL w2 w.heap.size 78 (Kind w2 5) a2 l c2 js := by
  have LB : Below w.heap.size w w2 := (SOwn.nil jobL w B 78 (Kind w 5)).grown (Below.refl _ _) (Nat.le_of_eq hB.symm) (Nat.le_refl _) hg
  exact ⟨LB, hB ▸ hown.mono (Nat.le_refl _) (fun b hb => (Keeps.below [5] LB).kind (by simp) hb)⟩
/-- One more job behind such a copy. -/
theorem oneMore {w w2 w3 : World} {a2 a3 : Option Addr} {l c2 l3 c3 : Nat} {js js' : List JobV} (hb : Below w.heap.size w w2) (hown : SOwn jobL w2 w.heap.size 78 (Kind w2 5) a2 l c2 js) (hown3 : SOwn jobL w3 w.heap.size 78 (Kind w2 5) a3 l3 c3 js') (hg : w2.grownBy w3 (Value.slice a2 l c2).ownBlock) :
    Below w.heap.size w w3 ∧ SOwn jobL w3 w.heap.size 78 (Kind w3 5) a3 l3 c3 js' := by
  have K5 : ∀ ts : List TypeId, 78 ∉ ts → Keeps ts w2 w3 := fun ts hts => Keeps.grown hg (fun k hk t ht hkk => hts (by rw [← hkk.ne (hown.kind k hk)]; exact ht))
  exact ⟨hown.grown hb (Nat.le_refl _) hb.size hg, hown3.mono (Nat.le_refl _) (fun b hb => (K5 [5] (by decide)).kind (by simp) hb)⟩
theorem hF2_own {w : World} {B : Nat} {a : Option Addr} {l c : Nat} {js : List JobV} (h : SOwn jobL w B 78 (Kind w 5) a l c js) : ∀ b, Kind w 5 b → Kind w 5 b ∧ b < w.heap.size ∧ (Value.slice a l c).ownBlock ≠ some b :=
  fun b hb => ⟨hb, hb.lt, fun e => absurd (hb.ne (h.kind b e)) (by decide)⟩
def plainJ (kind keep : Int) : JobV := ⟨kind, 0, keep, none⟩
theorem plainJ_ok {kind keep : Int} (h : kind = 3 ∨ kind = 4) : (plainJ kind keep).ok := by
  refine ⟨?_, ?_, (by decide : (0 : Nat) < 8), fun h' => ?_⟩
  · show 1 ≤ kind; omega
  · show kind ≤ 8; omega
  · have : kind = 1 ∨ kind = 6 := h'; omega
theorem plainJ_at (w : World) (kind keep : Int) : jobL.at_ w (fun _ => False) (plainJ kind keep) [.int .i64 kind, .int .i64 0, .int .i64 keep, .slice none 0 0] := ⟨_, _, _, rfl, .inl ⟨rfl, rfl, rfl, rfl⟩⟩
theorem view_ext {s t : DS} (h : ∀ i, i < 8 → dataD s i = dataD t i) : viewN s 8 = viewN t 8 := by
  unfold viewN
  exact List.map_congr_left fun i hi => h i (List.mem_range.1 hi)
theorem view_flush {js : List JobV} (h : Sound (runS DS.new js)) : viewN (runS DS.new (js ++ [plainJ 3 0])) 8 = viewN (runS DS.new js) 8 := by
  refine view_ext fun i _ => ?_
  rw [runS_append, runS_cons, step_flush h.cl.1 rfl]
  exact flush_data h i
theorem view_crash_all {js : List JobV} (h : Sound (runS DS.new js)) : viewN (runS DS.new (js ++ [plainJ 4 (-1)])) 8 = viewN (runS DS.new js) 8 := by
  refine view_ext fun i _ => ?_
  rw [runS_append, runS_cons, step_crash h.cl.1 rfl]
  show dataD ⟨settleN (bitSet (-1)) _ _ _, _, _⟩ i = _
  rw [settleN_congr (g := fun _ => true) _ _ _ (fun k _ => bit_all k)]
  exact flush_data h i
theorem view_crash_none {js : List JobV} (hm : ∀ j ∈ js, j.ok ∧ (j.kind = 1 ∨ j.kind = 2 ∨ j.kind = 3)) (m : Nat) (hml : m ≤ js.length) (h0 : ∀ t j, m ≤ t → js[t]? = some j → j.kind ≠ 3) (h1 : m = 0 ∨ ∃ j, js[m - 1]? = some j ∧ j.kind = 3) :
    viewN (runS DS.new (js ++ [plainJ 4 0])) 8 = viewN (runS DS.new (js.take m)) 8 := by
  have hA : Sound (runS DS.new (js.take m)) := run_sound new_sound _ (fun j hj => ⟨(hm j (List.mem_of_mem_take hj)).1, by have := (hm j (List.mem_of_mem_take hj)).2; omega⟩)
  have hwA : (runS DS.new (js.take m)).waits = [] := by
    rcases h1 with rfl | ⟨j, hj, hk⟩
    · rfl
    · by_cases hm0 : m = 0
      · subst hm0; rfl
      obtain ⟨m', rfl⟩ : ∃ m', m = m' + 1 := ⟨m - 1, by omega⟩
      rw [Nat.add_sub_cancel] at hj
      have hs : Sound (runS DS.new (js.take m')) := run_sound new_sound _ (fun j hj => ⟨(hm j (List.mem_of_mem_take hj)).1, by have := (hm j (List.mem_of_mem_take hj)).2; omega⟩)
      rw [List.take_add_one, hj, runS_append]
      show (runS (runS DS.new (js.take m')) [j]).waits = []
      rw [runS_cons, step_flush hs.cl.1 hk]; rfl
  have hC := puts_run hA (js.drop m) (fun j hj => by
    have hj2 := List.mem_of_mem_drop hj
    refine ⟨(hm j hj2).1, ?_⟩
    obtain ⟨t, ht, rfl⟩ := List.mem_iff_getElem.1 hj
    have hk := (hm _ hj2).2
    rw [List.getElem_drop] at hk ⊢
    have := h0 (m + t) _ (by omega) (List.getElem?_eq_getElem (by rw [List.length_drop] at ht; omega))
    omega)
  have hjs : runS DS.new js = runS (runS DS.new (js.take m)) (js.drop m) := by rw [← runS_append, List.take_append_drop]
  have hS : Sound (runS DS.new js) := run_sound new_sound _ (fun j hj => ⟨(hm j hj).1, by have := (hm j hj).2; omega⟩)
  refine view_ext fun i _ => ?_
  rw [runS_append, runS_cons, step_crash hS.cl.1 rfl]
  show dataD ⟨settleN (bitSet 0) _ _ _, _, _⟩ i = _
  rw [settleN_congr (g := fun _ => false) _ _ _ (fun k _ => bit_none k), settleN_none]
  rw [dataD_nil ⟨hS.cl.1, hS.cl.2⟩, hjs]
  show vp (runS (runS DS.new (js.take m)) (js.drop m)).plate i = _
  rw [hC.1]
  generalize hg : runS DS.new (js.take m) = sA at *
  obtain ⟨pl, ws, d⟩ := sA
  obtain rfl : ws = [] := hwA
  rw [dataD_nil hA.cl]
set_option maxHeartbeats 4000000 in
theorem driveAll {F : Nat → Prop} (a : Option Addr) (len cap : Nat) (xs : List ActV) (w : World) (h : SRow actL w F a len cap xs) :
    Calls Try.prog 12 #[.slice a len cap] w fun e w' => e = .returned (.bool true) ∧ Below w.heap.size w w' := by
  obtain ⟨js, hjs⟩ : ∃ js, Hid (jobsOf [1, 1, 3, 2] xs 60 = js) := ⟨_, rfl⟩
  have hjk : Hid (∀ j ∈ js, j.ok ∧ (j.kind = 1 ∨ j.kind = 2 ∨ j.kind = 3)) := by
    intro j hj
    rw [← hjs.out] at hj
    obtain ⟨h1, h2⟩ := jobsOf_mem (by decide) (by decide) hj
    refine ⟨h1, ?_⟩
    simp only [List.mem_cons, List.not_mem_nil, or_false] at h2
    omega
  have hmild : Hid (∀ j ∈ js, Mild j) := fun j hj => ⟨(hjk.out j hj).1, by have := (hjk.out j hj).2; omega⟩
  have hsound := Lib.hid (run_sound new_sound js hmild.out)
  have hmk : Hid (∀ kp : Int, ∀ kd : Int, kd = 3 ∨ kd = 4 → (∀ j ∈ js ++ [plainJ kd kp], j.ok) ∧ clean (runS DS.new (js ++ [plainJ kd kp]))) := by
    intro kp kd hkd
    refine ⟨fun j hj => ?_, ?_⟩
    · rcases List.mem_append.1 hj with h | h
      · exact (hjk.out j h).1
      · obtain rfl := List.mem_singleton.1 h; exact plainJ_ok hkd
    · refine (run_sound new_sound _ (fun j hj => ?_)).cl
      rcases List.mem_append.1 hj with h | h
      · exact hmild.out j h
      · obtain rfl := List.mem_singleton.1 h
        exact ⟨plainJ_ok hkd, by show kd = 1 ∨ kd = 2 ∨ kd = 3 ∨ kd = 4 ∨ kd = 6; omega⟩
  have hlen : js.length ≤ 60 := by rw [← hjs.out]; exact jobsOf_length ..
  have HX := Lib.hid h
  clear h
  go_enter Try.func12, Try.ntmps12
  go_wp2_with fail
  have RK := row_lit (k := .i64) w [1, 1, 3, 2] 3 #[.int .i64 1, .int .i64 1, .int .i64 3, .int .i64 2] rfl (by decide) (by unfold maxLen; decide)
  obtain ⟨V, hV⟩ : ∃ V, V = w.alloc (.cells #[.int .i64 1, .int .i64 1, .int .i64 3, .int .i64 2] 3) := ⟨_, rfl⟩
  have LA : Below w.heap.size w V := by rw [hV]; exact Below_alloc1 _
  rw [← hV] at RK ⊢
  refine (actsD a len cap xs 60 w.heap.size 0 4 4 [1, 1, 3, 2] V (HX.out.below LA) RK (by decide) (by decide)).mono ?_
  rintro e w1 ⟨a1, l1, c1, rfl, hO, hb1⟩
  rw [show (xs.take 60).map (jobOf [1, 1, 3, 2]) = js from hjs.out] at hO
  have hl1 := hO.1
  have hm1 := hO.hmax
  have hc1 := hO.hle
  unfold maxLen at hm1
  have L1 := Lib.hid (LA.trans (hb1.mono LA.size))
  have J1 := Lib.hid hO.jrow
  clear hO hb1 LA RK hV
  obtain ⟨uVA, vVA, pVA, _⟩ := J1.out
  have hvVA := Lib.hid vVA
  have hpVA := Lib.hid pVA
  clear vVA pVA
  go_wp2_with (at_builtin; refine wpList_append_data (L := jobL) rfl (.const (.slice none 0 0)) (.tmp 20) 75 rfl w1.heap.size 78 _ 48 Try.underlying75 info_job rfl (Kind w1 5) none 0 0 [] rfl (SOwn.nil ..) a1 l1 c1 js uVA rfl hvVA.out (Kind w1 5) hpVA.out hl1 (fun b hb => ⟨hb, hb.lt, by simp [Value.ownBlock]⟩) (by unfold maxLen; omega) (by omega) (Nat.le_refl _) ?_)
  intro aVA2 cVA2 w2 oVA2 gVA2
  obtain ⟨bVA2, qVA2⟩ := copied rfl oVA2 gVA2
  have BVA2 := Lib.hid bVA2
  have QVA2 := Lib.hid qVA2
  clear oVA2 gVA2 hvVA hpVA bVA2 qVA2
  go_wp2_with (at_builtin; refine wpList_append_one (L := jobL) (wr := w2) rfl (.tmp 21) (.tmp 23) 75 rfl w1.heap.size 78 _ 48 Try.underlying75 info_job rfl (Kind w2 5) aVA2 l1 cVA2 _ rfl QVA2.out #[.int .i64 3, .int .i64 0, .int .i64 0, .slice none 0 0] (plainJ 3 0) rfl (fun _ => False) (plainJ_at _ _ _) (fun b hb => hb.elim) (by unfold maxLen; omega) (by omega) BVA2.out.size ?_)
  intro aVA3 cVA3 w3 oVA3 gVA3
  obtain ⟨bVA3, qVA3⟩ := oneMore BVA2.out QVA2.out oVA3 gVA3
  have BVA3 := Lib.hid bVA3
  have QVA3 := Lib.hid qVA3
  clear oVA3 gVA3 bVA3 qVA3 BVA2 QVA2
  go_wp2_with fail
  refine (getsD aVA3 (l1 + 1) cVA3 (js ++ [plainJ 3 0]) w3 QVA3.out.jrow (by omega) (hmk.out 0 3 (by decide)).1 (hmk.out 0 3 (by decide)).2).mono ?_
  rintro e w4 ⟨aVA, cVA, rfl, oVA, bVA⟩
  have CVA : Below w1.heap.size w1 w4 := BVA3.out.trans (bVA.mono BVA3.out.size)
  have L2 := Lib.hid (L1.out.trans (CVA.mono L1.out.size))
  have J2 := Lib.hid (J1.out.below CVA)
  have VA := Lib.hid oVA.sRow
  clear oVA bVA CVA BVA3 QVA3 L1 J1
  rw [view_flush hsound.out] at VA
  obtain ⟨uVB, vVB, pVB, _⟩ := J2.out
  have hvVB := Lib.hid vVB
  have hpVB := Lib.hid pVB
  clear vVB pVB
  go_wp2_with (at_builtin; refine wpList_append_data (L := jobL) rfl (.const (.slice none 0 0)) (.tmp 29) 75 rfl w4.heap.size 78 _ 48 Try.underlying75 info_job rfl (Kind w4 5) none 0 0 [] rfl (SOwn.nil ..) a1 l1 c1 js uVB rfl hvVB.out (Kind w4 5) hpVB.out hl1 (fun b hb => ⟨hb, hb.lt, by simp [Value.ownBlock]⟩) (by unfold maxLen; omega) (by omega) (Nat.le_refl _) ?_)
  intro aVB2 cVB2 w5 oVB2 gVB2
  obtain ⟨bVB2, qVB2⟩ := copied rfl oVB2 gVB2
  have BVB2 := Lib.hid bVB2
  have QVB2 := Lib.hid qVB2
  clear oVB2 gVB2 hvVB hpVB bVB2 qVB2
  go_wp2_with (at_builtin; refine wpList_append_one (L := jobL) (wr := w5) rfl (.tmp 30) (.tmp 32) 75 rfl w4.heap.size 78 _ 48 Try.underlying75 info_job rfl (Kind w5 5) aVB2 l1 cVB2 _ rfl QVB2.out #[.int .i64 4, .int .i64 0, .int .i64 (-1), .slice none 0 0] (plainJ 4 (-1)) rfl (fun _ => False) (plainJ_at _ _ _) (fun b hb => hb.elim) (by unfold maxLen; omega) (by omega) BVB2.out.size ?_)
  intro aVB3 cVB3 w6 oVB3 gVB3
  obtain ⟨bVB3, qVB3⟩ := oneMore BVB2.out QVB2.out oVB3 gVB3
  have BVB3 := Lib.hid bVB3
  have QVB3 := Lib.hid qVB3
  clear oVB3 gVB3 bVB3 qVB3 BVB2 QVB2
  go_wp2_with fail
  refine (getsD aVB3 (l1 + 1) cVB3 (js ++ [plainJ 4 (-1)]) w6 QVB3.out.jrow (by omega) (hmk.out (-1) 4 (by decide)).1 (hmk.out (-1) 4 (by decide)).2).mono ?_
  rintro e w7 ⟨aVB, cVB, rfl, oVB, bVB⟩
  have CVB : Below w4.heap.size w4 w7 := BVB3.out.trans (bVB.mono BVB3.out.size)
  have L3 := Lib.hid (L2.out.trans (CVB.mono L2.out.size))
  have J3 := Lib.hid (J2.out.below CVB)
  have VA1 := Lib.hid (VA.out.below CVB)
  clear VA
  have VB := Lib.hid oVB.sRow
  clear oVB bVB CVB BVB3 QVB3 L2 J2
  rw [view_crash_all hsound.out] at VB
  go_wp2_with fail
  refine (getsD a1 l1 c1 js w7 J3.out (by omega) (fun j hj => (hjk.out j hj).1) hsound.out.cl).mono ?_
  rintro e w8 ⟨aVC, cVC, rfl, oVC, bVC⟩
  have L4 := Lib.hid (L3.out.trans (bVC.mono L3.out.size))
  have J4 := Lib.hid (J3.out.below bVC)
  have VA2 := Lib.hid (VA1.out.below bVC)
  have VB2 := Lib.hid (VB.out.below bVC)
  have VC := Lib.hid oVC.sRow
  clear oVC bVC L3 J3 VA1 VB
  go_wp2_with fail
  go_loopw [10, 11] (fun mv iv wr => ∃ (i m : Nat), i ≤ l1 ∧ m ≤ i ∧ iv = .int .i64 i ∧ mv = .int .i64 m ∧ Hid (∀ t j, m ≤ t → t < i → js[t]? = some j → j.kind ≠ 3) ∧ Hid (m = 0 ∨ ∃ j, js[m - 1]? = some j ∧ j.kind = 3) ∧ wr = w8) (fun _ iv _ => l1 - (intOf iv).toNat)
  case atStart => exact ⟨0, 0, by omega, by omega, rfl, rfl, fun t j _ h => absurd h (by omega), .inl rfl, rfl⟩
  case round =>
    obtain ⟨i, m, hi, hmi, rfl, rfl, hno, hyes, rfl⟩ := hrel
    by_cases hlt : i < l1
    · obtain ⟨g1, off, vs, rfl, _, hgl, hat, hc⟩ := J4.out.srow.get i hlt
      obtain ⟨j, hj⟩ : ∃ j, js[i]? = some j := ⟨_, List.getElem?_eq_getElem (by omega)⟩
      obtain ⟨ax, lx, cx, rfl, _⟩ := hat j hj
      have e0 : wr.cell? ⟨g1, off + i * 4, none⟩ = some (.int .i64 j.kind) := hc 0 (by decide)
      have il : (i : Int) < (l1 : Int) := by omega
      clear hc hat
      by_cases hk : j.kind = 3
      · have b1 : (j.kind == 3) = true := by simp [hk]
        have HN : Hid (∀ t j, i + 1 ≤ t → t < i + 1 → js[t]? = some j → j.kind ≠ 3) := fun t j h1 h2 => absurd h1 (by omega)
        have HY : Hid (i + 1 = 0 ∨ ∃ j, js[i + 1 - 1]? = some j ∧ j.kind = 3) := .inr ⟨j, by rw [Nat.add_sub_cancel]; exact hj, hk⟩
        clear hno hyes hk
        go_wp2_with fail
        go_roundw
        case rel => exact ⟨i + 1, i + 1, by omega, by omega, by go_num, by go_num, HN, HY, (by first | rfl | trivial)⟩
        case measure => simp [intOf]; omega
      · have b1 : (j.kind == 3) = false := by simp [hk]
        have HN : Hid (∀ t j, m ≤ t → t < i + 1 → js[t]? = some j → j.kind ≠ 3) := fun t j' h1 h2 h3 => by
          by_cases ht : t < i
          · exact hno.out t j' h1 ht h3
          · obtain rfl : t = i := by omega
            rw [hj] at h3; injection h3 with h3; subst h3; exact hk
        clear hno hk
        go_wp2_with fail
        go_roundw
        case rel => exact ⟨i + 1, m, by omega, by omega, by go_num, rfl, HN, hyes, (by first | rfl | trivial)⟩
        case measure => simp [intOf]; omega
    · obtain rfl : i = l1 := by omega
      have hno' : Hid (∀ t j, m ≤ t → js[t]? = some j → j.kind ≠ 3) := fun t j h1 h2 => hno.out t j h1 (by have := (List.getElem?_eq_some_iff.1 h2).1; omega) h2
      clear hno
      obtain ⟨uVD, vVD, pVD, _⟩ := J4.out
      have hvVD := Lib.hid vVD
      have hpVD := Lib.hid pVD
      clear vVD pVD
      go_wp2_with (at_builtin; refine wpList_append_data (L := jobL) rfl (.const (.slice none 0 0)) (.tmp 57) 75 rfl wr.heap.size 78 _ 48 Try.underlying75 info_job rfl (Kind wr 5) none 0 0 [] rfl (SOwn.nil ..) a1 i c1 js uVD rfl hvVD.out (Kind wr 5) hpVD.out hl1 (fun b hb => ⟨hb, hb.lt, by simp [Value.ownBlock]⟩) (by unfold maxLen; omega) (by omega) (Nat.le_refl _) ?_)
      intro aVD2 cVD2 w80 oVD2 gVD2
      obtain ⟨bVD2, qVD2⟩ := copied rfl oVD2 gVD2
      have BVD2 := Lib.hid bVD2
      have QVD2 := Lib.hid qVD2
      clear oVD2 gVD2 hvVD hpVD bVD2 qVD2
      go_wp2_with (at_builtin; refine wpList_append_one (L := jobL) (wr := w80) rfl (.tmp 58) (.tmp 60) 75 rfl wr.heap.size 78 _ 48 Try.underlying75 info_job rfl (Kind w80 5) aVD2 i cVD2 _ rfl QVD2.out #[.int .i64 4, .int .i64 0, .int .i64 0, .slice none 0 0] (plainJ 4 0) rfl (fun _ => False) (plainJ_at _ _ _) (fun b hb => hb.elim) (by unfold maxLen; omega) (by omega) BVD2.out.size ?_)
      intro aVD3 cVD3 w81 oVD3 gVD3
      obtain ⟨bVD3, qVD3⟩ := oneMore BVD2.out QVD2.out oVD3 gVD3
      have BVD3 := Lib.hid bVD3
      have QVD3 := Lib.hid qVD3
      clear oVD3 gVD3 bVD3 qVD3 BVD2 QVD2
      go_wp2_with fail
      refine (getsD aVD3 (i + 1) cVD3 (js ++ [plainJ 4 0]) w81 QVD3.out.jrow (by omega) (hmk.out 0 4 (by decide)).1 (hmk.out 0 4 (by decide)).2).mono ?_
      rintro e w12 ⟨aVD, cVD, rfl, oVD, bVD⟩
      have CVD : Below wr.heap.size wr w12 := BVD3.out.trans (bVD.mono BVD3.out.size)
      have L5 := Lib.hid (L4.out.trans (CVD.mono L4.out.size))
      have J5 := Lib.hid (J4.out.below CVD)
      have VA3 := Lib.hid (VA2.out.below CVD)
      have VB3 := Lib.hid (VB2.out.below CVD)
      have VC3 := Lib.hid (VC.out.below CVD)
      clear VA2 VB2 VC
      have VD := Lib.hid oVD.sRow
      clear oVD bVD CVD BVD3 QVD3 L4 J4
      rw [view_crash_none hjk.out m (by omega) hno'.out hyes.out] at VD
      have hmi2 : (m : Int) ≤ (i : Int) := by omega
      have hmi3 : (m : Int) ≤ (c1 : Int) := by omega
      go_wp2_with fail
      refine (getsD a1 m c1 (js.take m) w12 (J5.out.take m (by omega)) (by omega) (fun j hj => (hjk.out j (List.mem_of_mem_take hj)).1) (run_sound new_sound _ (fun j hj => hmild.out j (List.mem_of_mem_take hj))).cl).mono ?_
      rintro e w13 ⟨aVE, cVE, rfl, oVE, bVE⟩
      have L6 := Lib.hid (L5.out.trans (bVE.mono L5.out.size))
      have VA4 := Lib.hid (VA3.out.below bVE)
      have VB4 := Lib.hid (VB3.out.below bVE)
      have VC4 := Lib.hid (VC3.out.below bVE)
      have VD4 := Lib.hid (VD.out.below bVE)
      have VE := Lib.hid oVE.sRow
      clear oVE bVE VA3 VB3 VC3 VD L5 J5
      go_wp2_with fail
      refine (sameLists aVA 8 cVA _ aVB 8 cVB _ w13 VA4.out VB4.out).mono ?_
      rintro e w14 ⟨rfl, q1, rfl⟩
      rw [decide_eq_true rfl]
      go_wp2_with fail
      refine (sameLists aVA 8 cVA _ aVC 8 cVC _ (w13.drewN q1) (VA4.out.drewN q1) (VC4.out.drewN q1)).mono ?_
      rintro e w15 ⟨rfl, q2, rfl⟩
      rw [decide_eq_true rfl]
      go_wp2_with fail
      refine (sameLists aVD 8 cVD _ aVE 8 cVE _ (w13.drewN (q1 + q2)) (VD4.out.drewN (q1 + q2)) (VE.out.drewN (q1 + q2))).mono ?_
      rintro e w16 ⟨rfl, q3, rfl⟩
      rw [decide_eq_true rfl]
      go_wp2_with fail
      go_ret
      exact ⟨rfl, below_drewN L6.out _⟩
end Go.Proofs.Yteidmdakglkkfaa
