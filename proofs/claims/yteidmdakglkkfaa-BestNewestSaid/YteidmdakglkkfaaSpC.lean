/- The walk of commit. -/
import Derived.Test.YteidmdakglkkfaaSpG
namespace Go.Proofs.Yteidmdakglkkfaa
open Go.RowKit
set_option linter.unusedVariables false

/-- ranges in order, within n units -/
def RunsIn (n : Nat) (rs : List (Nat × Nat)) : Prop := ∀ r ∈ rs, r.1 < r.2 ∧ r.2 ≤ n
theorem runsGo_in (p : Nat → Bool) (n : Nat) : ∀ (us : List Nat) (i : Nat) (fo : Option Nat), i + us.length ≤ n → (∀ f, fo = some f → f < i) → RunsIn n (runsGo p i fo us)
  | [], i, none, _, _ => by intro r hr; simp [runsGo] at hr
  | [], i, some f, h, hf => by
    intro r hr
    simp [runsGo] at hr
    subst hr
    exact ⟨hf f rfl, by simp at h; omega⟩
  | u :: us, i, none, h, hf => by
    rw [runsGo]
    simp only [List.length_cons] at h
    split
    · exact runsGo_in p n us (i + 1) (some i) (by omega) (fun f hf => by injection hf; omega)
    · exact runsGo_in p n us (i + 1) none (by omega) (fun f hf => by cases hf)
  | u :: us, i, some f, h, hf => by
    rw [runsGo]
    simp only [List.length_cons] at h
    split
    · exact runsGo_in p n us (i + 1) (some f) (by omega) (fun f' hf' => by injection hf' with e; have := hf f rfl; omega)
    · intro r hr
      rcases List.mem_cons.1 hr with rfl | hr
      · exact ⟨hf f rfl, by show i ≤ n; omega⟩
      · exact runsGo_in p n us (i + 1) none (by omega) (fun f hf => by cases hf) r hr
theorem runs_in (p : Nat → Bool) (us : List Nat) : RunsIn us.length (runs p us) := runsGo_in p us.length us 0 none (by omega) (fun f hf => by cases hf)
theorem runsGo_length (p : Nat → Bool) : ∀ (us : List Nat) (i : Nat) (fo : Option Nat), (runsGo p i fo us).length ≤ us.length + 1
  | [], i, none => by simp [runsGo]
  | [], i, some f => by simp [runsGo]
  | u :: us, i, none => by
    rw [runsGo]
    have h1 := runsGo_length p us (i + 1) (some i)
    have h2 := runsGo_length p us (i + 1) none
    simp only [List.length_cons]
    split <;> omega
  | u :: us, i, some f => by
    rw [runsGo]
    have h1 := runsGo_length p us (i + 1) (some f)
    have h2 := runsGo_length p us (i + 1) none
    simp only [List.length_cons]
    split
    · omega
    · simp only [List.length_cons]; omega
theorem runs_length (p : Nat → Bool) (us : List Nat) : (runs p us).length ≤ us.length + 1 := runsGo_length p us 0 none

def Done (B g gu : Nat) (r : Sp) (w : World) (e : Ending) (w' : World) : Prop :=
  ∃ (a : Option Addr) (l c : Nat), e = .returned (.tuple #[]) ∧ Hid (Spc B w' g gu r a l c) ∧ Hid (SpKeep B g gu w w')
def freedTo (s : Sp) (rs : List (Nat × Nat)) (k : Nat) : Sp := (rs.take k).foldl freeRun s
theorem freedTo_succ (s : Sp) (rs : List (Nat × Nat)) (k : Nat) (h : k < rs.length) : freedTo s rs (k + 1) = freeRun (freedTo s rs k) rs[k] := by
  unfold freedTo
  rw [List.take_succ_eq_append_getElem h, List.foldl_append]; rfl
theorem freedTo_facts (s : Sp) (rs : List (Nat × Nat)) (n : Nat) (hr : RunsIn n rs) (hn : s.us.length = n) (h4 : n ≤ 4096) (hl : -1000000 ≤ s.left ∧ s.left ≤ 1000000) : ∀ k, k ≤ rs.length → k ≤ 4097 →
    (freedTo s rs k).us.length = n ∧ (freedTo s rs k).log.length = s.log.length + k ∧ -1000000 ≤ (freedTo s rs k).left ∧ (freedTo s rs k).left ≤ 1000000 + 4096 * k
  | 0, _, _ => ⟨hn, rfl, hl.1, by have := hl.2; show s.left ≤ _; omega⟩
  | k + 1, hk, hk2 => by
    obtain ⟨h1, h2, h3, h5⟩ := freedTo_facts s rs n hr hn h4 hl k (by omega) (by omega)
    rw [freedTo_succ _ _ _ (by omega)]
    have := hr rs[k] (List.getElem_mem _)
    refine ⟨?_, ?_, ?_, ?_⟩
    · show (setR _ _ _ _).length = n
      rw [setR_length _ _ _ _ (by omega) (by omega)]; exact h1
    · show (_ ++ [_]).length = _
      rw [List.length_append, h2]; rfl
    · show _ ≤ _ + _
      omega
    · show _ + _ ≤ _
      omega
/-- the first k units turned by f -/
def mapTo (f : Nat → Nat) (us : List Nat) (k : Nat) : List Nat := (us.take k).map f ++ us.drop k
theorem mapTo_length (f : Nat → Nat) (us : List Nat) (k : Nat) : (mapTo f us k).length = us.length := by simp [mapTo]; omega
theorem mapTo_getD (f : Nat → Nat) (us : List Nat) (k i : Nat) (h : i < us.length) : (mapTo f us k).getD i 0 = if i < k then f (us.getD i 0) else us.getD i 0 := by
  unfold mapTo
  rw [List.getD_eq_getElem?_getD, List.getD_eq_getElem?_getD]
  by_cases hk : i < k
  · rw [if_pos hk, List.getElem?_append_left (by simp; omega), List.getElem?_map, List.getElem?_take, if_pos hk, List.getElem?_eq_getElem h]; rfl
  · rw [if_neg hk, List.getElem?_append_right (by simp; omega), List.getElem?_drop]
    congr 2
    simp; omega
theorem mapTo_step (f : Nat → Nat) (us : List Nat) (k : Nat) (h : k < us.length) : mapTo f us (k + 1) = (mapTo f us k).set k (f (us.getD k 0)) := by
  apply list_ext (by rw [List.length_set, mapTo_length, mapTo_length])
  intro i hi
  rw [mapTo_length] at hi
  rw [mapTo_getD _ _ _ _ hi, set_getD, mapTo_getD _ _ _ _ hi, mapTo_length]
  by_cases h1 : i = k
  · subst h1; rw [if_pos (by omega), if_pos ⟨rfl, h⟩]
  · by_cases h2 : i < k
    · rw [if_pos (by omega), if_neg (by omega), if_pos h2]
    · rw [if_neg (by omega), if_neg (by omega), if_neg h2]
theorem mapTo_keep (f : Nat → Nat) (us : List Nat) (k : Nat) (h : k < us.length) (hf : f (us.getD k 0) = us.getD k 0) : mapTo f us (k + 1) = mapTo f us k := by
  apply list_ext (by rw [mapTo_length, mapTo_length])
  intro i hi
  rw [mapTo_length] at hi
  rw [mapTo_getD _ _ _ _ hi, mapTo_getD _ _ _ _ hi]
  by_cases h1 : i = k
  · subst h1; rw [if_pos (by omega), if_neg (by omega), hf]
  · by_cases h2 : i < k
    · rw [if_pos (by omega), if_pos h2]
    · rw [if_neg (by omega), if_neg h2]
theorem mapTo_zero (f : Nat → Nat) (us : List Nat) : mapTo f us 0 = us := by simp [mapTo]
theorem mapTo_all (f : Nat → Nat) (us : List Nat) (k : Nat) (h : us.length ≤ k) : mapTo f us k = us.map f := by simp [mapTo, List.take_of_length_le h, List.drop_of_length_le h]
def rest2 (u : Nat) : Nat := if u = 2 then 3 else u
set_option maxRecDepth 100000 in
set_option maxHeartbeats 4000000 in
theorem sp_commit (B g gu : Nat) (s : Sp) (a : Option Addr) (l c : Nat) (w : World) (hs : Spc B w g gu s a l c) (hn : s.us.length ≤ 4096) (hleft : -1000000 ≤ s.left ∧ s.left ≤ 1000000) (hlog : s.log.length ≤ 9000000) :
    Calls Try.prog 53 #[.pointer (some ⟨g, 0, none⟩)] w (Done B g gu s.commit w) := by
  have hB : B ≤ w.heap.size := by have := hs.h1; have := hs.hb.lt; omega
  have hne : g ≠ gu := hs.ne
  have HS := Lib.hid hs
  have HB := Lib.hid hB
  obtain ⟨us, left, log⟩ := s
  simp only at *
  obtain ⟨n, hnn⟩ : ∃ n, Hid (us.length = n) := ⟨_, rfl⟩
  rw [hnn.out] at hn
  obtain ⟨R, hR⟩ : ∃ R, Hid (Sp.commit ⟨us, left, log⟩ = R) := ⟨_, rfl⟩
  rw [hR.out]
  have HLG := Lib.hid hlog
  clear hs hB hlog
  go_enter Try.func53, Try.ntmps53
  go_wp2_with fail
  refine (runs_commit w g gu us left a l c HS.out.hb HS.out.hu (by have := hnn.out; omega)).mono ?_
  rintro e w1 ⟨a1, m, c1, rfl, hown, hb1⟩
  obtain ⟨rs, hrs⟩ : ∃ rs, Hid (runs (· == 3) us = rs) := ⟨_, rfl⟩
  rw [hrs.out] at hown
  have hrl : rs.length ≤ n + 1 := by rw [← hrs.out, ← hnn.out]; exact runs_length _ _
  have hri : RunsIn n rs := by rw [← hrs.out, ← hnn.out]; exact runs_in _ _
  have hml : rs.length = m := hown.out.1
  have HRI := Lib.hid hri
  have HML := Lib.hid hml
  have hm4 : m ≤ n + 1 := by omega
  have HFF := Lib.hid (freedTo_facts ⟨us, left, log⟩ rs n hri hnn.out (by omega) hleft)
  have S1 := Lib.hid (HS.out.below hb1)
  have K1 := Lib.hid (SpKeep.of_below (B := B) (g := g) (gu := gu) hb1 HB.out)
  have hRc : Hid (R = { freedTo ⟨us, left, log⟩ rs m with us := (freedTo ⟨us, left, log⟩ rs m).us.map rest2 }) := by
    show _ = _
    rw [← hR.out, Sp.commit, Sp.freed, freedTo, hrs.out, List.take_of_length_le (by omega)]; rfl
  have hsz1 := hb1.size
  clear hri hml hrl hleft hb1 hR hrs
  go_wp2_with fail
  go_loopw [9] (fun iv wr => ∃ (k : Nat) (a' : Option Addr) (l' c' : Nat), k ≤ m ∧ iv = .int .i64 k ∧ Hid (Spc B wr g gu (freedTo ⟨us, left, log⟩ rs k) a' l' c') ∧ Hid (SpKeep B g gu w wr) ∧ Hid (SOwn rangeL wr w.heap.size 95 (fun _ => False) a1 m c1 rs)) (fun iv _ => m - (intOf iv).toNat)
  case atStart => exact ⟨0, a, l, c, by omega, rfl, S1.out, K1.out, hown⟩
  case round =>
    obtain ⟨k, a', l', c', hk, rfl, hsp, hkp, hrow⟩ := hrel
    obtain ⟨q1, q2, q3, q4⟩ := HFF.out k (by have := HML.out; omega) (by omega)
    obtain ⟨sk, hsk⟩ : ∃ sk, Hid (freedTo ⟨us, left, log⟩ rs k = sk) := ⟨_, rfl⟩
    rw [hsk.out] at hsp q1 q2 q3 q4
    have q2' : sk.log.length ≤ 9000000 + k := by have := HLG.out; omega
    have Q1 := Lib.hid q1
    clear q1 q2
    have hBr : B ≤ wr.heap.size := by have := hsp.out.h1; have := hsp.out.hb.lt; omega
    have HBr := Lib.hid hBr
    clear hBr
    by_cases hlt : k < m
    · obtain ⟨g1, vs, rfl, hg1b, hg1l, ⟨x, hx, hat⟩, hcell⟩ := hrow.out.get k hlt
      obtain ⟨f, t⟩ := x
      have hvs : vs = [.int .i64 (f : Int), .int .i64 (t : Int)] := hat
      subst hvs
      have e0 : wr.cell? ⟨g1, k * 2, none⟩ = some (.int .i64 f) := hcell 0 (by decide)
      have e1 : wr.cell? ⟨g1, k * 2 + 1, none⟩ = some (.int .i64 t) := hcell 1 (by decide)
      have hft := HRI.out _ (List.mem_of_getElem? hx)
      simp only at hft
      obtain ⟨hft1, hft2⟩ := hft
      have hnext : Hid (freedTo ⟨us, left, log⟩ rs (k + 1) = ⟨setR sk.us f t 0, sk.left + ((t : Int) - f), sk.log ++ [(true, f, t)]⟩) := by
        have hkr : k < rs.length := by have := HML.out; omega
        show _ = _
        rw [freedTo_succ _ _ _ hkr, hsk.out]
        rw [List.getElem?_eq_getElem hkr] at hx
        injection hx with hx
        rw [hx]; rfl
      have Kr0 := Lib.hid ((SpKeep.refl B g gu wr).alloc HBr.out (.cells #[.int .i64 f, .int .i64 t] 95))
      have S0 := Lib.hid (hsp.out.alloc (.cells #[.int .i64 f, .int .i64 t] 95))
      have B0 := Lib.hid (Box.new (w := wr) (vs := #[.int .i64 f, .int .i64 t]) (t := 95) rfl)
      clear hcell hat hx hsk
      go_wp2_with fail
      refine (sp_set _ g gu sk.us sk.left a' l' c' S0.out.hb S0.out.hu _ _ 0 (by omega) (by omega) (by have := Q1.out; omega) (by have := Q1.out; omega)).mono ?_
      rintro e w3 ⟨rfl, hbu3, hg3⟩
      rw [Int.toNat_natCast, Int.toNat_natCast] at hbu3
      have S3 := Lib.hid (S0.out.setu hg3 hbu3.out (setR_length _ _ _ _ (by omega) (by have := Q1.out; omega)))
      have hgul := hsp.out.hu.lt
      have hggl := hsp.out.hb.lt
      have B3 := Lib.hid (B0.out.grown hg3 (by intro e; injection e with e; omega))
      have K3 := Lib.hid (Kr0.out.grown_u hg3 hsp.out.h2 (by have := HBr.out; simp; omega))
      have hgr : g ≠ wr.heap.size := by omega
      obtain ⟨r, hr⟩ : ∃ r, Hid (wr.heap.size = r) := ⟨_, rfl⟩
      rw [hr.out] at B3 hgr ⊢
      have c1' : w3.cell? ⟨g, 1, none⟩ = some (.int .i64 sk.left) := S3.out.hb.cell 1
      have f1' : w3.frozen? ⟨g, 1, none⟩ = false := S3.out.hb.free 1
      have p0 : w3.cell? ⟨r, 0, none⟩ = some (.int .i64 f) := B3.out.cell 0
      have p1 : w3.cell? ⟨r, 1, none⟩ = some (.int .i64 t) := B3.out.cell 1
      clear hbu3 hg3 e0 e1 Kr0 S0 B0
      go_wp2_with fail
      go_still_tail 10, (by kernel_rfl)
      change wpList _ _ _ _ _ w3.drew
      go_wp2_with fail
      have S4 := Lib.hid ((S3.out.setleft (sk.left + ((t : Int) - f))).below ((Below.refl _ _).drew))
      have K4 := Lib.hid ((K3.out.set_g hsp.out.h1 1 (.int .i64 (sk.left + ((t : Int) - f)))).drewN 1)
      have B4 := Lib.hid ((B3.out.other ⟨g, 1, none⟩ hgr (.int .i64 (sk.left + ((t : Int) - f)))).drew)
      obtain ⟨W4, hW4⟩ : ∃ V, V = (w3.setCell ⟨g, 1, none⟩ (.int .i64 (sk.left + ((t : Int) - f)))).drew := ⟨_, rfl⟩
      change Hid (SpKeep B g gu wr (w3.setCell ⟨g, 1, none⟩ (.int .i64 (sk.left + ((t : Int) - f)))).drew) at K4
      rw [← hW4] at S4 K4 B4 ⊢
      simp only at S4
      clear hW4 c1' f1' p0 p1 S3 K3 B3
      have SD := Lib.hid (S4.out.below ((Below.refl _ _).drew))
      have KD := Lib.hid (K4.out.drewN 1)
      have c2 : W4.cell? ⟨g, 2, none⟩ = some (.slice a' l' c') := S4.out.hb.cell 2
      have r0 : W4.cell? ⟨r, 0, none⟩ = some (.int .i64 f) := B4.out.cell 0
      have r1 : W4.cell? ⟨r, 1, none⟩ = some (.int .i64 t) := B4.out.cell 1
      have hll : sk.log.length = l' := S4.out.ho.1
      have hl3 : l' ≤ 9500000 := by omega
      have hgl4 : g < W4.heap.size := S4.out.hb.lt
      have hrl4 : r < W4.heap.size := B4.out.lt
      have hBW : B ≤ W4.drew.heap.size := by have := S4.out.h1; show B ≤ W4.heap.size; omega
      clear hll
      go_region_law (refine step_append_one (L := recL) (wr := W4.drew) rfl (.tmp 32) (.tmp 35) 26 rfl B 106 _ 24 Try.underlying26 info_rec rfl (fun _ => False) a' l' c' sk.log (by simp [Act.eval]) SD.out.ho #[.bool true, .int .i64 f, .int .i64 t] (true, f, t) (by simp [Act.eval]) (fun _ => False) rfl (fun b h => h.elim) (by unfold maxLen; omega) (by omega) hBW ?_; intro a5 c5 w5 hown5 hg5; have hlg := SD.out.logged hown5 hg5; have c5g : w5.cell? ⟨g, 2, none⟩ = some (.slice a' l' c') := hlg.1.cell 2; have f5g : w5.frozen? ⟨g, 2, none⟩ = false := hlg.1.free 2; have HLG := Lib.hid hlg; have HO5 := Lib.hid hown5; have HG5 := Lib.hid hg5; clear hlg hown5 hg5)
      all_goals
        have K6 := ((KD.out.grown_log SD.out.ho HG5.out hBW).set_g SD.out.h1 2 (.slice a5 (l' + 1) c5))
        have S6 := HLG.out.2
        obtain ⟨W6, hW6⟩ : ∃ V, V = w5.setCell ⟨g, 2, none⟩ (.slice a5 (l' + 1) c5) := ⟨_, rfl⟩
        rw [← hW6] at K6 S6 ⊢
        have HK6 := Lib.hid K6
        have HS6 := Lib.hid S6
        clear hW6 K6 S6 c2 r0 r1 c5g f5g HLG
        go_wp2_with fail
        go_roundw
        case rel => exact ⟨k + 1, a5, l' + 1, c5, by omega, by go_num, by rw [hnext.out]; exact HS6.out, hkp.out.trans HK6.out, HK6.out.flat hrow.out (by decide) hsp.out.hb hsp.out.hu (by decide) (by decide)⟩
        case measure => (simp [intOf]; try omega)
    · obtain rfl : k = m := by omega
      have hln : sk.us.length = n := Q1.out
      have hkk : Hid (R = { sk with us := sk.us.map rest2 }) := by have := hRc.out; rw [hsk.out] at this; exact this
      have c0 : wr.cell? ⟨g, 0, none⟩ = some (.slice (some ⟨gu, 0, none⟩) n n) := by rw [← hln]; exact hsp.out.hb.cell 0
      have hggl := hsp.out.hb.lt
      have HLN := Lib.hid hln
      obtain ⟨wo, rfl⟩ : ∃ wo : World, wo = wr := ⟨_, rfl⟩
      clear hln hRc hsk
      go_wp2_with fail
      go_loopw [45] (fun iv wx => ∃ j : Nat, j ≤ n ∧ iv = .int .i64 j ∧ Hid (Box wx gu (us8 (mapTo rest2 sk.us j)) 5) ∧ wo.grownBy wx (some gu)) (fun iv _ => n - (intOf iv).toNat)
      case atStart => exact ⟨0, by omega, rfl, by rw [mapTo_zero]; exact hsp.out.hu, World.grownBy.refl _ _⟩
      case round =>
        obtain ⟨j, hj, rfl, hbu, hgr⟩ := hrel
        have cg : wr.cell? ⟨g, 0, none⟩ = some (.slice (some ⟨gu, 0, none⟩) n n) := by
          rw [← HLN.out]; exact (hsp.out.hb.grown hgr (by intro e; injection e with e; exact hsp.out.ne e)).cell 0
        by_cases hlt2 : j < n
        · have hjl : j < sk.us.length := by have := HLN.out; omega
          have e1 : wr.cell? ⟨gu, j, none⟩ = some (.int .u8 (sk.us.getD j 0 : Nat)) := by
            rw [hbu.out.cell j, us8_get _ _ (by rw [mapTo_length]; exact hjl), mapTo_getD _ _ _ _ hjl, if_neg (by omega)]
          have hst := mapTo_step rest2 sk.us j hjl
          have hkp2 := mapTo_keep rest2 sk.us j hjl
          obtain ⟨u, hu⟩ : ∃ u, Hid (sk.us.getD j 0 = u) := ⟨_, rfl⟩
          rw [hu.out] at e1 hst hkp2
          have hji : (j : Int) < (n : Int) := by omega
          have fz : wr.frozen? ⟨gu, j, none⟩ = false := hbu.out.free j
          by_cases hu2 : u = 2
          · subst hu2
            have hb2 : ((2 : Nat) : Int) = 2 := rfl
            rw [hb2] at e1
            have hnb : Hid (Box (wr.setCell ⟨gu, j, none⟩ (.int .u8 3)) gu (us8 (mapTo rest2 sk.us (j + 1))) 5) := by
              have := hbu.out.set j (.int .u8 ((3 : Nat) : Int))
              rw [us8_set] at this
              rw [hst]; exact this
            have HG := Lib.hid (only_setCell (p := ⟨gu, j, none⟩) hgr (.inl rfl) (.int .u8 3))
            clear hb2 hst hkp2 hbu hgr
            go_wp2_with fail
            go_roundw
            case rel => exact ⟨j + 1, by omega, by go_num, hnb, HG.out⟩
            case measure => (simp [intOf]; try omega)
          · have b1 : ((u : Int) == 2) = false := by simp; omega
            have hnb : Hid (Box wr gu (us8 (mapTo rest2 sk.us (j + 1))) 5) := by rw [hkp2 (by unfold rest2; rw [if_neg hu2])]; exact hbu.out
            clear hst hkp2 hbu hu2
            go_wp2_with fail
            go_roundw
            case rel => exact ⟨j + 1, by omega, by go_num, hnb, hgr⟩
            case measure => (simp [intOf]; try omega)
        · obtain rfl : j = n := by omega
          have hfin := hbu.out
          rw [mapTo_all _ _ _ (by have := HLN.out; omega)] at hfin
          have S9 := Lib.hid (hsp.out.setu hgr hfin (by rw [List.length_map]))
          have K9 := Lib.hid (hkp.out.grown_u hgr hsp.out.h2 HBr.out)
          clear hfin hbu hgr
          go_wp2_with fail
          go_end0
          exact ⟨a', l', c', rfl, by rw [hkk.out]; exact S9.out, K9.out⟩
end Go.Proofs.Yteidmdakglkkfaa
