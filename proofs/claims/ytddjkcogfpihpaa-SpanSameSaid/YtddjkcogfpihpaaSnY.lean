/- The walks of package span's Both and Has. -/
import Derived.Test.YtddjkcogfpihpaaSnX
import Derived.Test.YtddjkcogfpihpaaSnH
import Derived.BigQuiet
namespace Go.Proofs.Ytddjkcogfpihpaa
open Go.RowKit Go.Sort Go.Shelf Go.Lib
set_option linter.unusedVariables false
set_option maxRecDepth 100000

set_option maxHeartbeats 8000000 in
theorem bothW (F G : Nat → Prop) (a : Option Addr) (la ca : Nat) (l : List Rg) (b : Option Addr) (lb cb : Nat) (m : List Rg) (w : World) (ha : SRow rgL w F a la ca l) (hb : SRow rgL w G b lb cb m) (hl : GoodR l) (hm : GoodR m) (h1 : la ≤ 90) (h2 : lb ≤ 90) :
    Calls Try.prog 13 #[.slice a la ca, .slice b lb cb] w (Ranged (fun d => d == 2) (edgesN l 1 ++ edgesN m 1) w.heap.size w) := by
  have a1 := ha.hle
  have a2 := ha.hmax
  have b1 := hb.hle
  have b2 := hb.hmax
  unfold maxLen at a2 b2
  have hla := ha.1
  have hlb := hb.1
  have HA := Lib.hid ha
  have HB := Lib.hid hb
  have HL := Lib.hid hl
  have HM := Lib.hid hm
  obtain ⟨B, hB⟩ : ∃ B, Hid (w.heap.size = B) := ⟨_, rfl⟩
  rw [hB.out]
  clear ha hb hl hm
  go_enter Try.func13, Try.ntmps13
  go_wp2_with fail
  refine (mayI F a la ca l w HA.out HL.out).mono ?_
  rintro e w1 ⟨rfl, hb1⟩
  have HA1 := Lib.hid (HA.out.below hb1)
  have HB1 := Lib.hid (HB.out.below hb1)
  have L1 : Hid (Below B w w1) := by rw [← hB.out]; exact hb1
  have s1 : B ≤ w1.heap.size := by have := hb1.size; have := hB.out; omega
  clear HA HB hb1
  go_wp2_with fail
  refine (mayI G b lb cb m w1 HB1.out HM.out).mono ?_
  rintro e w2 ⟨rfl, hb2⟩
  have HA2 := Lib.hid (HA1.out.below hb2)
  have HB2 := Lib.hid (HB1.out.below hb2)
  have L2 : Hid (Below B w w2) := L1.out.trans (hb2.mono s1)
  have s2 : B ≤ w2.heap.size := by have := hb2.size; omega
  clear HA1 HB1 hb2 L1
  go_wp2_with fail
  refine (edgesW F a la ca l 1 w2 HA2.out (by omega) (.inl rfl)).mono ?_
  rintro e w3 ⟨a3, c3, rfl, O3, B3⟩
  have HB3 := Lib.hid (HB2.out.below B3.out)
  have L3 : Hid (Below B w w3) := L2.out.trans (B3.out.mono s2)
  have s3 : B ≤ w3.heap.size := by have := B3.out.size; omega
  have P3 : Hid (SOwn rgL w3 B 52 (fun _ => False) a3 (2 * la) c3 (edgesN l 1)) := O3.out.mono s2 (fun _ h => h)
  clear HA2 HB2 B3 L2 O3
  go_wp2_with fail
  refine (edgesW G b lb cb m 1 w3 HB3.out (by omega) (.inl rfl)).mono ?_
  rintro e w4 ⟨a4, c4, rfl, O4, B4⟩
  have L4 : Hid (Below B w w4) := L3.out.trans (B4.out.mono s3)
  have s4 : B ≤ w4.heap.size := by have := B4.out.size; omega
  have P4 := Lib.hid (P3.out.below B4.out)
  have V4 := Lib.hid O4.out.rgv.1
  have T4 := Lib.hid O4.out.rgv.2
  clear HB3 L3 P3 B4 O4
  go_wp2_with (at_builtin; refine wpList_append_data (L := rgL) rfl (.tmp 15) (.tmp 17) 46 rfl B 52 (.agg #[.int .i64 0, .int .i64 0]) 16 Try.underlying46 info_edge rfl (fun _ => False) a3 (2 * la) c3 (edgesN l 1) rfl P4.out a4 (2 * lb) c4 (edgesN m 1) _ rfl V4.out (fun _ => False) T4.out (by rw [edgesN_length, hlb]) (fun b h => h.elim) (by unfold maxLen; omega) (by omega) s4 ?_)
  intro a5 c5 w5 hown5 hg5
  have L5 := Lib.hid (P4.out.grown L4.out (Nat.le_refl _) s4 hg5)
  have O5 := Lib.hid hown5
  have s5 : B ≤ w5.heap.size := by have := hg5.size; omega
  clear hown5 hg5 P4 V4 T4 L4
  go_wp2_with fail
  refine (sweptW_both B a5 (2 * la + 2 * lb) c5 _ w5 O5.out s5 (edges_sum _ _ _ _) (edges_by (.inl rfl) (.inl rfl)) (edges_low HL.out.at_ HM.out.at_) (by omega)).mono ?_
  rintro e w6 ⟨a6, n6, c6, out, rfl, O6, B6, R6⟩
  have hn6 : n6 ≤ 200 := by
    have h1 := R6.out.few
    have h2 := O6.out.1
    rw [List.length_append, edgesN_length, edgesN_length] at h1
    omega
  have P6 : Hid (SOwn rgL w6 B 30 (fun _ => False) a6 n6 c6 out) := O6.out.mono s5 (fun _ h => h)
  have L6 : Hid (Below B w w6) := L5.out.trans B6.out
  clear O6 B6 L5 O5
  go_wp2_with fail
  refine (toldW a6 n6 c6 w6 hn6).mono ?_
  rintro e w7 ⟨rfl, rfl⟩
  go_wp2_with fail
  go_ret2
  exact ⟨a6, n6, c6, out, rfl, P6, L6, R6⟩
set_option maxHeartbeats 1000000 in
theorem hasC (ga gn blk off len cap : Nat) (l : List Rg) (n : Int) (i : Nat) (W : World) (hi : i < len) (ha : W.cell? ⟨ga, 0, none⟩ = some (.slice (some ⟨blk, off, none⟩) len cap)) (hn : W.cell? ⟨gn, 0, none⟩ = some (.int .i64 n)) (hc : W.cell? ⟨blk, off + i * 2 + 1, none⟩ = some (.int .i64 (l.getD i (0, 0)).2)) :
    Calls Try.prog 26 (#[.int .i64 i] ++ #[.pointer (some ⟨ga, 0, none⟩), .pointer (some ⟨gn, 0, none⟩)]) W fun e w' => e = .returned (.bool (decide (n < (l.getD i (0, 0)).2))) ∧ ∃ q, w' = W.drewN q := by
  generalize (l.getD i (0, 0)).2 = y at hc ⊢
  have hiz : (i : Int) < (len : Int) := by omega
  go_enter Try.func26, Try.ntmps26
  go_wp2
  go_quiet (fail)
  go_wp2
  go_ret
  exact ⟨by first | rfl | simp, nq, rfl⟩
/-- Of ranges in order, those that end at or before a number come first. -/
theorem cnt_first {l : List Rg} (h : Canon l) (n : Int) : ∀ k, (List.range l.length).countP (fun i => !decide (n < (l.getD i (0, 0)).2)) = k → (k < l.length → n < (l.getD k (0, 0)).2) ∧ (∀ i, i < k → i < l.length → (l.getD i (0, 0)).2 ≤ n) ∧ k ≤ l.length := by
  intro k hk
  have mono : ∀ i j, i < j → j < l.length → (l.getD i (0, 0)).2 < (l.getD j (0, 0)).2 := fun i j hij hj => by
    have h1 := List.pairwise_iff_getElem.1 h.2 i j (by omega) hj hij
    have h2 := h.1 l[j] (List.getElem_mem hj)
    simp only [List.getD, List.getElem?_eq_getElem hj, List.getElem?_eq_getElem (show i < l.length by omega), Option.getD_some]
    omega
  -- the count of a first part
  have pre : ∀ m, m ≤ l.length → ((List.range m).countP (fun i => !decide (n < (l.getD i (0, 0)).2)) = m ∧ ∀ i, i < m → (l.getD i (0, 0)).2 ≤ n) ∨ (∃ q, q < m ∧ (List.range m).countP (fun i => !decide (n < (l.getD i (0, 0)).2)) = q ∧ n < (l.getD q (0, 0)).2 ∧ ∀ i, i < q → (l.getD i (0, 0)).2 ≤ n) := by
    intro m
    induction m with
    | zero => intro _; exact .inl ⟨rfl, fun i hi => absurd hi (by omega)⟩
    | succ m ih =>
      intro hm
      rw [List.range_succ, List.countP_append]
      rcases ih (by omega) with ⟨h1, h2⟩ | ⟨q, h1, h2, h3, h4⟩
      · by_cases hc : n < (l.getD m (0, 0)).2
        · exact .inr ⟨m, by omega, by rw [h1, List.countP_singleton, if_neg (by rw [decide_eq_true hc]; decide)]; rfl, hc, h2⟩
        · refine .inl ⟨by rw [h1, List.countP_singleton, if_pos (by rw [decide_eq_false hc]; rfl)], fun i hi => ?_⟩
          by_cases e : i = m
          · subst e; omega
          · exact h2 i (by omega)
      · have hc : n < (l.getD m (0, 0)).2 := by have := mono q m h1 (by omega); omega
        exact .inr ⟨q, by omega, by rw [h2, List.countP_singleton, if_neg (by rw [decide_eq_true hc]; decide)]; rfl, h3, h4⟩
  rcases pre l.length (Nat.le_refl _) with ⟨h1, h2⟩ | ⟨q, h1, h2, h3, h4⟩
  · rw [h1] at hk; subst hk
    exact ⟨fun h => absurd h (by omega), fun i hi _ => h2 i hi, Nat.le_refl _⟩
  · rw [h2] at hk; subst hk
    exact ⟨fun _ => h3, fun i hi _ => h4 i hi, by omega⟩
theorem has_at {l : List Rg} (h : Canon l) (n : Int) (k : Nat) (h1 : k < l.length → n < (l.getD k (0, 0)).2) (h2 : ∀ i, i < k → i < l.length → (l.getD i (0, 0)).2 ≤ n) : hasB l n = (decide (k < l.length) && decide ((l.getD k (0, 0)).1 ≤ n)) := by
  rw [Bool.eq_iff_iff, hasB_iff, Bool.and_eq_true, decide_eq_true_iff, decide_eq_true_iff]
  constructor
  · rintro ⟨r, hr, h3, h4⟩
    obtain ⟨i, hi, e⟩ := List.mem_iff_getElem.1 hr
    have er : l.getD i (0, 0) = r := by rw [← e]; simp [List.getD, hi]
    have hki : k ≤ i := by
      rcases Nat.lt_or_ge i k with h | h
      · have := h2 i h hi; rw [er] at this; omega
      · exact h
    refine ⟨by omega, ?_⟩
    by_cases e2 : k = i
    · rw [e2, er]; exact h3
    · have h5 := List.pairwise_iff_getElem.1 h.2 k i (by omega) hi (by omega)
      rw [e] at h5
      have h6 := h1 (by omega)
      rw [show l.getD k (0, 0) = l[k]'(by omega) by simp [List.getD, show k < l.length by omega]] at h6 ⊢
      have h7 := h.1 _ (List.getElem_mem (show k < l.length by omega))
      omega
  · rintro ⟨hk, h3⟩
    exact ⟨l.getD k (0, 0), getD_memR hk, h3, h1 hk⟩
set_option maxHeartbeats 4000000 in
theorem hasW (F : Nat → Prop) (a : Option Addr) (len cap : Nat) (l : List Rg) (n : Int) (w : World) (ha : SRow rgL w F a len cap l) (hg : GoodR l) :
    Calls Try.prog 16 #[.slice a len cap, .int .i64 n] w fun e w' => e = .returned (.bool (hasB l n)) ∧ Below w.heap.size w w' := by
  have hle := ha.hle
  have hmx := ha.hmax
  unfold maxLen at hmx
  have hll := ha.1
  have hl2 : len ≤ 200 := by rw [← hll]; exact hg.few
  obtain ⟨ga, hga⟩ : ∃ g, Hid (w.heap.size = g) := ⟨_, rfl⟩
  have b0 : Below w.heap.size w (w.alloc (.cells #[.slice a len cap] 24)) := Below_alloc1 _
  have b1 : Below w.heap.size w ((w.alloc (.cells #[.slice a len cap] 24)).alloc (.cells #[.int .i64 n] 3)) := b0.trans ((Below_alloc1 _).mono b0.size)
  have XA0 := (Box.new (w := w) (vs := #[.slice a len cap]) (t := 24) rfl)
  have XA := Lib.hid (XA0.below (Below_alloc1 (.cells #[.int .i64 n] 3)) XA0.lt)
  have XN := Lib.hid (Box.new (w := w.alloc (.cells #[.slice a len cap] 24)) (vs := #[.int .i64 n]) (t := 3) rfl)
  have hsz : (w.alloc (.cells #[.slice a len cap] 24)).heap.size = w.heap.size + 1 := by simp
  rw [hsz] at XN
  have L1 := Lib.hid b1
  have HA := Lib.hid (ha.below b1)
  have HG := Lib.hid hg
  clear ha hg b0 b1 XA0 hsz
  go_enter Try.func16, Try.ntmps16
  go_wp2_with fail
  obtain ⟨W0, hW0⟩ : ∃ W, ((w.alloc (.cells #[.slice a len cap] 24)).alloc (.cells #[.int .i64 n] 3)) = W := ⟨_, rfl⟩
  rw [hW0] at XA XN L1 HA ⊢
  rw [hga.out] at XA XN ⊢
  clear hW0
  refine (mayI F a len cap l W0 HA.out HG.out).mono ?_
  rintro e w1 ⟨rfl, hb1⟩
  have HA1 := Lib.hid (HA.out.below hb1)
  have XA1 := Lib.hid (XA.out.below hb1 XA.out.lt)
  have XN1 := Lib.hid (XN.out.below hb1 XN.out.lt)
  have L2 := Lib.hid (L1.out.trans (hb1.mono L1.out.size))
  have ca : w1.cell? ⟨ga, 0, none⟩ = some (.slice a len cap) := XA1.out.cell 0
  have cn : w1.cell? ⟨ga + 1, 0, none⟩ = some (.int .i64 n) := XN1.out.cell 0
  clear HA XA XN L1 hb1
  have eg : ∀ args w, (callFunc 26 args).run Try.prog w = .ok (.enter 26 args) w := enters_of Try.func26 (by kernel_rfl) rfl
  have cells : ∀ i, i < len → ∃ blk off, a = some ⟨blk, off, none⟩ ∧ blk < w1.heap.size ∧ w1.cell? ⟨blk, off + i * 2, none⟩ = some (.int .i64 (l.getD i (0, 0)).1) ∧ w1.cell? ⟨blk, off + i * 2 + 1, none⟩ = some (.int .i64 (l.getD i (0, 0)).2) := fun i hi => by
    obtain ⟨blk, off, vs, rfl, _, hb, hat, hcell⟩ := HA1.out.get i hi
    have hx := hat (l.getD i (0, 0)) (by rw [List.getElem?_eq_getElem (by omega)]; simp [List.getD, show i < l.length by omega])
    have hv : vs = [.int .i64 (l.getD i (0, 0)).1, .int .i64 (l.getD i (0, 0)).2] := hx
    subst hv
    exact ⟨blk, off, rfl, hb, hcell 0 (by decide), hcell 1 (by decide)⟩
  have CELLS := Lib.hid cells
  have hS := Any.sort_Search laidSearch 26 #[.pointer (some ⟨ga, 0, none⟩), .pointer (some ⟨ga + 1, 0, none⟩)] len (fun i => decide (n < (l.getD i (0, 0)).2)) w1 eg (by omega)
    (fun m os i hi => by
      obtain ⟨blk, off, e, hb, _, c2⟩ := cells i hi
      subst e
      exact (hasC ga (ga + 1) blk off len cap l n i _ hi (cell_grown XA1.out.lt ca m os) (cell_grown XN1.out.lt cn m os) (cell_grown hb c2 m os)).mono
        fun _ _ ⟨he, q, hq⟩ => ⟨he, q, #[], by rw [hq, grow_empty]⟩)
    (fun i j hij hj h => by
      rw [decide_eq_true_iff] at h ⊢
      by_cases e : i = j
      · subst e; exact h
      · have h1 := List.pairwise_iff_getElem.1 HG.out.canon.2 i j (by omega) (by omega) (by omega)
        have h2 := HG.out.canon.1 l[j] (List.getElem_mem (by omega))
        simp only [List.getD, List.getElem?_eq_getElem (show j < l.length by omega), List.getElem?_eq_getElem (show i < l.length by omega), Option.getD_some] at h ⊢
        omega)
  change Calls Try.prog 25 _ _ _ at hS
  rw [← hll] at hS
  obtain ⟨k, hk⟩ : ∃ k, (List.range l.length).countP (fun i => !decide (n < (l.getD i (0, 0)).2)) = k := ⟨_, rfl⟩
  rw [hk] at hS
  obtain ⟨k1, k2, k3⟩ := cnt_first HG.out.canon n k hk
  have hres := Lib.hid (has_at HG.out.canon n k k1 k2)
  rw [hll] at hS hres k1 k3
  clear hk k1 k2 cells eg
  go_wp2_with fail
  refine hS.mono ?_
  rintro e w2 ⟨rfl, q, os, rfl⟩
  have hbg := below_grown_sl w1.heap.size w1 q os (Nat.le_refl _)
  obtain ⟨w2, hw2⟩ : ∃ W, grow (w1.drewN q) os = W := ⟨_, rfl⟩
  rw [hw2] at hbg ⊢
  have XA2 := Lib.hid (XA1.out.below hbg XA1.out.lt)
  have XN2 := Lib.hid (XN1.out.below hbg XN1.out.lt)
  have L3 := Lib.hid (L2.out.trans (hbg.mono L2.out.size))
  have ca2 : w2.cell? ⟨ga, 0, none⟩ = some (.slice a len cap) := XA2.out.cell 0
  have cn2 : w2.cell? ⟨ga + 1, 0, none⟩ = some (.int .i64 n) := XN2.out.cell 0
  clear hS hw2 ca cn
  by_cases hkl : k < len
  · obtain ⟨blk, off, rfl, hb, c1, _⟩ := CELLS.out k hkl
    have c1' : w2.cell? ⟨blk, off + k * 2, none⟩ = some (.int .i64 (l.getD k (0, 0)).1) := (hbg.cell (p := ⟨blk, off + k * 2, none⟩) hb).trans c1
    obtain ⟨y, hy⟩ : ∃ y, Hid ((l.getD k (0, 0)).1 = y) := ⟨_, rfl⟩
    rw [hy.out] at c1' hres
    have hkI : (k : Int) < (len : Int) := by omega
    have hd : decide ((k : Int) < (len : Int)) = true := by simp; omega
    have hfin : Hid (hasB l n = decide (y ≤ n)) := by show _ = _; rw [hres.out]; simp [hkl]
    clear c1 hbg hres
    go_wp2_with fail
    go_quiet (fail)
    go_wp2_with fail
    go_ret
    exact ⟨ret_bool hfin.out.symm, below_drewN L3.out _⟩
  · have hd : decide ((k : Int) < (len : Int)) = false := by simp; omega
    have hfin : Hid (hasB l n = false) := by show _ = _; rw [hres.out]; simp [hkl]
    clear hbg hres
    go_wp2_with fail
    go_quiet (fail)
    go_wp2_with fail
    go_ret
    exact ⟨ret_bool hfin.out.symm, below_drewN L3.out _⟩
end Go.Proofs.Ytddjkcogfpihpaa
