/- The walks of package span's Add, Cut, Both. -/
import Derived.Test.YtddjkcogfpihpaaSnD
import Derived.Deep.RegionLaw
namespace Go.Proofs.Ytddjkcogfpihpaa
open Go.RowKit Go.Sort
set_option linter.unusedVariables false
set_option maxRecDepth 100000

theorem GoodR.one {r : Rg} (h : 0 ≤ r.1 ∧ r.1 < r.2 ∧ r.2 ≤ 1048576) : GoodR [r] := ⟨Canon.single h.2.1, fun q hq => by rw [List.mem_singleton.1 hq]; omega, by simp⟩
theorem one_at {r : Rg} {P : Rg → Prop} (h : P r) : ∀ q ∈ [r], P q := fun q hq => by rw [List.mem_singleton.1 hq]; exact h
theorem toldW (a : Option Addr) (n c : Nat) (w : World) (hn : n ≤ 200) : Calls Try.prog 19 #[.slice a n c] w fun e w' => e = .returned (.tuple #[.slice a n c, .int .i64 0]) ∧ w = w' := by
  have h1 : decide ((200 : Int) < (n : Int)) = false := by simp; omega
  go_enter Try.func19, Try.ntmps19
  go_wp2
  go_ret2
  exact ⟨rfl, rfl⟩
theorem lit_row (r : Rg) (w : World) : SRow rgL (w.alloc (.cells #[.int .i64 r.1, .int .i64 r.2] 30)) (fun _ => True) (some ⟨w.heap.size, 0, none⟩) 1 1 [r] := by
  refine ⟨rfl, fun _ _ _ => trivial, [[.int .i64 r.1, .int .i64 r.2]], ⟨rfl, Nat.le_refl _, by unfold maxLen; omega, (fun h => by cases h), .inr ⟨w.heap.size, 0, rfl, fun i hi => ?_⟩⟩, Pt.single rfl⟩
  rw [Nat.zero_add, cell_of_row _ _ i #[.int .i64 r.1, .int .i64 r.2] 30 (0, 0) (heap_alloc_new w _)]
  simp
theorem SOwn.rgv {w : World} {B : Nat} {t : TypeId} {G : Nat → Prop} {a : Option Addr} {n c : Nat} {E : List Rg} (h : SOwn rgL w B t G a n c E) : VRow w rgL.size a n c (E.map fun e => [Value.int .i64 e.1, Value.int .i64 e.2]).flatten ∧ Pt rgL w (fun _ => False) E (E.map fun e => [Value.int .i64 e.1, Value.int .i64 e.2]) := by
  obtain ⟨hl, vss, F, ho, hp, hF⟩ := h
  have := rg_flat hp
  subst this
  exact ⟨ho.row, rg_pt _ _ _⟩
theorem below_lit {V w3 w4 : World} (h3 : Below V.heap.size V w3) {o : Obj} (h4 : Below (w3.alloc o).heap.size (w3.alloc o) w4) : Below V.heap.size V w4 := h3.trans (((Below_alloc1 o).trans (h4.mono (Below_alloc1 o).size)).mono h3.size)
theorem below_two {V w3 w4 : World} (h3 : Below V.heap.size V w3) (h4 : Below w3.heap.size w3 w4) : Below V.heap.size V w4 := h3.trans (h4.mono h3.size)
def Ranged (want : Int → Bool) (E : List Rg) (B : Nat) (w : World) (e : Ending) (w' : World) : Prop :=
  ∃ a n c out, e = .returned (.tuple #[.slice a n c, .int .i64 0]) ∧ Hid (SOwn rgL w' B 30 (fun _ => False) a n c out) ∧ Hid (Below B w w') ∧ Hid (Res want E out)
set_option maxHeartbeats 8000000 in
theorem addW (F : Nat → Prop) (a : Option Addr) (len cap : Nat) (l : List Rg) (r : Rg) (w : World) (ha : SRow rgL w F a len cap l) (hg : GoodR l) (hl : len ≤ 150) (hr : 0 ≤ r.1 ∧ r.1 < r.2 ∧ r.2 ≤ 1048576) :
    Calls Try.prog 11 #[.slice a len cap, .agg #[.int .i64 r.1, .int .i64 r.2]] w (Ranged (fun d => decide (0 < d)) (edgesN l 1 ++ edgesN [r] (1)) w.heap.size w) := by
  have hle := ha.hle
  have hmx := ha.hmax
  unfold maxLen at hmx
  have hll := ha.1
  obtain ⟨f, t⟩ := r
  simp only at hr ⊢
  have HG := Lib.hid hg
  have HR := Lib.hid hr
  obtain ⟨g0, hg0⟩ : ∃ g, Hid (w.heap.size = g) := ⟨_, rfl⟩
  have HA := Lib.hid (ha.below (Below_alloc1 (.cells #[.int .i64 f, .int .i64 t] 30)))
  have L0 : Hid (Below w.heap.size w (w.alloc (.cells #[.int .i64 f, .int .i64 t] 30))) := Below_alloc1 _
  have X0 := Lib.hid (Box.new (w := w) (vs := #[.int .i64 f, .int .i64 t]) (t := 30) rfl)
  clear ha hg
  go_enter Try.func11, Try.ntmps11
  go_wp2_with fail
  obtain ⟨W0, hW0⟩ : ∃ W, w.alloc (.cells #[.int .i64 f, .int .i64 t] 30) = W := ⟨_, rfl⟩
  rw [hW0] at HA L0 X0 ⊢
  rw [hg0.out] at X0 ⊢
  clear hW0
  refine (mayI F a len cap l W0 HA.out HG.out).mono ?_
  rintro e w1 ⟨rfl, hb1⟩
  have HA1 := Lib.hid (HA.out.below hb1)
  have X1 := Lib.hid (X0.out.below hb1 X0.out.lt)
  have L1 := Lib.hid (L0.out.trans (hb1.mono L0.out.size))
  have q0 : w1.cell? ⟨g0, 0, none⟩ = some (.int .i64 f) := X1.out.cell 0
  have q1 : w1.cell? ⟨g0, 1, none⟩ = some (.int .i64 t) := X1.out.cell 1
  clear HA X0 L0 hb1
  go_wp2_with fail
  refine (one_yes f t w1 (by have := HR.out; omega) (by have := HR.out; omega) (by have := HR.out; omega)).mono ?_
  rintro e w2 ⟨rfl, hb2⟩
  have HA2 := Lib.hid (HA1.out.below hb2)
  have X2 := Lib.hid (X1.out.below hb2 X1.out.lt)
  have L2 := Lib.hid (L1.out.trans (hb2.mono L1.out.size))
  clear HA1 X1 L1 hb2 q0 q1
  go_upto_region 3 with fail
  obtain ⟨V, hV⟩ : ∃ V, V = w2.drew := ⟨_, rfl⟩
  have LV : Hid (Below w.heap.size w V) := by rw [hV]; exact L2.out.drew
  have hAV : Hid (SRow rgL V F a len cap l) := by rw [hV]; exact HA2.out.below (below_drewN (Below.refl _ _) 1)
  have hAL : Hid (SRow rgL (V.alloc (.cells #[.int .i64 f, .int .i64 t] 30)) F a len cap l) := hAV.out.below (Below_alloc1 _)
  have KS : Hid (∀ W', Below V.heap.size V W' → W'.cell? ⟨g0, 0, none⟩ = some (.int .i64 f) ∧ W'.cell? ⟨g0, 1, none⟩ = some (.int .i64 t)) := fun W' hb => by
    have := X2.out.below (w' := W') (by rw [hV] at hb; exact (below_drewN (Below.refl _ _) 1 : Below w2.heap.size w2 w2.drew).trans hb) X2.out.lt
    exact ⟨this.cell 0, this.cell 1⟩
  have HE1 : Hid (∀ W', SRow rgL W' F a len cap l → Calls Try.prog 21 #[.slice a len cap, .int .i64 1] W' (Edges (edgesN l 1) (2 * len) W')) := fun W' h => edgesW F a len cap l 1 W' h (by omega) (.inl rfl)
  have HE2 : Hid (∀ W' b, SRow rgL W' (fun _ => True) (some ⟨b, 0, none⟩) 1 1 [(f, t)] → Calls Try.prog 21 #[.slice (some ⟨b, 0, none⟩) 1 1, .int .i64 1] W' (Edges (edgesN [(f, t)] 1) 2 W')) := fun W' b h => edgesW _ _ 1 1 _ _ W' h (by omega) (by simp)
  have hBV : Below V.heap.size V V := Below.refl _ _
  obtain ⟨k0, k1⟩ := KS.out V hBV
  obtain ⟨k0', k1'⟩ := KS.out _ (Below_alloc1 (wr := V) (.cells #[.int .i64 f, .int .i64 t] 30))
  have kd0 : w2.cell? ⟨g0, 0, none⟩ = some (.int .i64 f) := by rw [hV] at k0; exact k0
  have kd1 : w2.cell? ⟨g0, 1, none⟩ = some (.int .i64 t) := by rw [hV] at k1; exact k1
  subst hV
  go_region_law (first
    | (go_simp; go_at_call_of 21 a; refine (HE1.out _ ?_).mono ?_; (first | exact hAV.out | exact hAL.out); rintro e w3 ⟨a3, c3, rfl, O3, B3⟩; have B3V := (show Below w2.drew.heap.size w2.drew w3 by first | exact B3.out | exact (Below_alloc1 _).trans (B3.out.mono (Below_alloc1 (wr := w2.drew) _).size)); have k3 := KS.out w3 B3V; have k30 := k3.1; have k31 := k3.2; have P3 := Lib.hid (show SOwn rgL w3 w2.drew.heap.size 52 (fun _ => False) a3 (2 * len) c3 (edgesN l 1) by first | exact O3.out | exact O3.out.mono (Below_alloc1 (wr := w2.drew) _).size (fun _ h => h)))
    | (go_simp; go_at_call 21; refine (HE2.out _ _ ?_).mono ?_; (first | exact lit_row (f, t) w3 | exact (lit_row (f, t) w2.drew).below B3.out); rintro e w4 ⟨a4, c4, rfl, O4, B4⟩; have P4 := Lib.hid (show SOwn rgL w4 w2.drew.heap.size 52 (fun _ => False) a3 (2 * len) c3 (edgesN l 1) by first | exact (P3.out.alloc _).below B4.out | exact P3.out.below B4.out); have B4V := (show Below w2.drew.heap.size w2.drew w4 by first | exact below_lit B3V B4.out | exact below_two B3V B4.out); have sz4 := (show w2.drew.heap.size ≤ w4.heap.size from B4V.size); clear B4 O3 P3 B3 B3V)
    | (refine step_append_data (L := rgL) rfl (.tmp 15) (.tmp 18) 46 rfl w2.drew.heap.size 52 (.agg #[.int .i64 0, .int .i64 0]) 16 Try.underlying46 info_edge rfl (fun _ => False) a3 (2 * len) c3 (edgesN l 1) (by simp [Act.eval]) P4.out a4 2 c4 (edgesN [(f, t)] 1) ((edgesN [(f, t)] 1).map fun e => [Value.int .i64 e.1, Value.int .i64 e.2]) (by simp [Act.eval]) O4.out.rgv.1 (fun _ => False) O4.out.rgv.2 rfl (fun b h => h.elim) (by unfold maxLen; omega) (by omega) sz4 ?_; intro a5 c5 w5 hown5 hg5; have B5V := Lib.hid (P4.out.grown B4V (Nat.le_refl _) sz4 hg5); have H5 := Lib.hid hown5; clear hown5 hg5 O4 P4 B4V)
    | (go_simp; go_at_call 20; refine (sweptW_add w2.drew.heap.size a5 (2 * len + 2) c5 _ w5 H5.out B5V.out.size (edges_sum _ _ _ _) (edges_by (.inl rfl) (by simp)) (edges_low HG.out.at_ (one_at HR.out)) (by omega)).mono ?_; rintro e w6 ⟨a6, n6, c6, out, rfl, O6, B6, R6⟩; have hn6 := (show n6 ≤ 200 by have h1 := R6.out.few; have h2 := O6.out.1; rw [List.length_append, edgesN_length, edgesN_length] at h1; simp at h1; omega))
    | (go_simp; go_at_call 19; refine (toldW a6 n6 c6 w6 hn6).mono ?_; rintro e w7 ⟨rfl, rfl⟩))
  all_goals go_wp2_with fail
  all_goals go_ret2
  all_goals
    have B6V := B5V.out.trans B6.out
    exact ⟨a6, n6, c6, out, rfl, O6.out.mono (Nat.le_trans LV.out.size B5V.out.size) (fun _ h => h), LV.out.trans (B6V.mono LV.out.size), R6⟩
set_option maxHeartbeats 8000000 in
theorem cutW (F : Nat → Prop) (a : Option Addr) (len cap : Nat) (l : List Rg) (r : Rg) (w : World) (ha : SRow rgL w F a len cap l) (hg : GoodR l) (hl : len ≤ 150) (hr : 0 ≤ r.1 ∧ r.1 < r.2 ∧ r.2 ≤ 1048576) :
    Calls Try.prog 12 #[.slice a len cap, .agg #[.int .i64 r.1, .int .i64 r.2]] w (Ranged (fun d => decide (0 < d)) (edgesN l 1 ++ edgesN [r] (-1)) w.heap.size w) := by
  have hle := ha.hle
  have hmx := ha.hmax
  unfold maxLen at hmx
  have hll := ha.1
  obtain ⟨f, t⟩ := r
  simp only at hr ⊢
  have HG := Lib.hid hg
  have HR := Lib.hid hr
  obtain ⟨g0, hg0⟩ : ∃ g, Hid (w.heap.size = g) := ⟨_, rfl⟩
  have HA := Lib.hid (ha.below (Below_alloc1 (.cells #[.int .i64 f, .int .i64 t] 30)))
  have L0 : Hid (Below w.heap.size w (w.alloc (.cells #[.int .i64 f, .int .i64 t] 30))) := Below_alloc1 _
  have X0 := Lib.hid (Box.new (w := w) (vs := #[.int .i64 f, .int .i64 t]) (t := 30) rfl)
  clear ha hg
  go_enter Try.func12, Try.ntmps12
  go_wp2_with fail
  obtain ⟨W0, hW0⟩ : ∃ W, w.alloc (.cells #[.int .i64 f, .int .i64 t] 30) = W := ⟨_, rfl⟩
  rw [hW0] at HA L0 X0 ⊢
  rw [hg0.out] at X0 ⊢
  clear hW0
  refine (mayI F a len cap l W0 HA.out HG.out).mono ?_
  rintro e w1 ⟨rfl, hb1⟩
  have HA1 := Lib.hid (HA.out.below hb1)
  have X1 := Lib.hid (X0.out.below hb1 X0.out.lt)
  have L1 := Lib.hid (L0.out.trans (hb1.mono L0.out.size))
  have q0 : w1.cell? ⟨g0, 0, none⟩ = some (.int .i64 f) := X1.out.cell 0
  have q1 : w1.cell? ⟨g0, 1, none⟩ = some (.int .i64 t) := X1.out.cell 1
  clear HA X0 L0 hb1
  go_wp2_with fail
  refine (one_yes f t w1 (by have := HR.out; omega) (by have := HR.out; omega) (by have := HR.out; omega)).mono ?_
  rintro e w2 ⟨rfl, hb2⟩
  have HA2 := Lib.hid (HA1.out.below hb2)
  have X2 := Lib.hid (X1.out.below hb2 X1.out.lt)
  have L2 := Lib.hid (L1.out.trans (hb2.mono L1.out.size))
  clear HA1 X1 L1 hb2 q0 q1
  go_upto_region 3 with fail
  obtain ⟨V, hV⟩ : ∃ V, V = w2.drew := ⟨_, rfl⟩
  have LV : Hid (Below w.heap.size w V) := by rw [hV]; exact L2.out.drew
  have hAV : Hid (SRow rgL V F a len cap l) := by rw [hV]; exact HA2.out.below (below_drewN (Below.refl _ _) 1)
  have hAL : Hid (SRow rgL (V.alloc (.cells #[.int .i64 f, .int .i64 t] 30)) F a len cap l) := hAV.out.below (Below_alloc1 _)
  have KS : Hid (∀ W', Below V.heap.size V W' → W'.cell? ⟨g0, 0, none⟩ = some (.int .i64 f) ∧ W'.cell? ⟨g0, 1, none⟩ = some (.int .i64 t)) := fun W' hb => by
    have := X2.out.below (w' := W') (by rw [hV] at hb; exact (below_drewN (Below.refl _ _) 1 : Below w2.heap.size w2 w2.drew).trans hb) X2.out.lt
    exact ⟨this.cell 0, this.cell 1⟩
  have HE1 : Hid (∀ W', SRow rgL W' F a len cap l → Calls Try.prog 21 #[.slice a len cap, .int .i64 1] W' (Edges (edgesN l 1) (2 * len) W')) := fun W' h => edgesW F a len cap l 1 W' h (by omega) (.inl rfl)
  have HE2 : Hid (∀ W' b, SRow rgL W' (fun _ => True) (some ⟨b, 0, none⟩) 1 1 [(f, t)] → Calls Try.prog 21 #[.slice (some ⟨b, 0, none⟩) 1 1, .int .i64 (-1)] W' (Edges (edgesN [(f, t)] (-1)) 2 W')) := fun W' b h => edgesW _ _ 1 1 _ _ W' h (by omega) (by simp)
  have hBV : Below V.heap.size V V := Below.refl _ _
  obtain ⟨k0, k1⟩ := KS.out V hBV
  obtain ⟨k0', k1'⟩ := KS.out _ (Below_alloc1 (wr := V) (.cells #[.int .i64 f, .int .i64 t] 30))
  have kd0 : w2.cell? ⟨g0, 0, none⟩ = some (.int .i64 f) := by rw [hV] at k0; exact k0
  have kd1 : w2.cell? ⟨g0, 1, none⟩ = some (.int .i64 t) := by rw [hV] at k1; exact k1
  subst hV
  go_region_law (first
    | (go_simp; go_at_call_of 21 a; refine (HE1.out _ ?_).mono ?_; (first | exact hAV.out | exact hAL.out); rintro e w3 ⟨a3, c3, rfl, O3, B3⟩; have B3V := (show Below w2.drew.heap.size w2.drew w3 by first | exact B3.out | exact (Below_alloc1 _).trans (B3.out.mono (Below_alloc1 (wr := w2.drew) _).size)); have k3 := KS.out w3 B3V; have k30 := k3.1; have k31 := k3.2; have P3 := Lib.hid (show SOwn rgL w3 w2.drew.heap.size 52 (fun _ => False) a3 (2 * len) c3 (edgesN l 1) by first | exact O3.out | exact O3.out.mono (Below_alloc1 (wr := w2.drew) _).size (fun _ h => h)))
    | (go_simp; go_at_call 21; refine (HE2.out _ _ ?_).mono ?_; (first | exact lit_row (f, t) w3 | exact (lit_row (f, t) w2.drew).below B3.out); rintro e w4 ⟨a4, c4, rfl, O4, B4⟩; have P4 := Lib.hid (show SOwn rgL w4 w2.drew.heap.size 52 (fun _ => False) a3 (2 * len) c3 (edgesN l 1) by first | exact (P3.out.alloc _).below B4.out | exact P3.out.below B4.out); have B4V := (show Below w2.drew.heap.size w2.drew w4 by first | exact below_lit B3V B4.out | exact below_two B3V B4.out); have sz4 := (show w2.drew.heap.size ≤ w4.heap.size from B4V.size); clear B4 O3 P3 B3 B3V)
    | (refine step_append_data (L := rgL) rfl (.tmp 15) (.tmp 18) 46 rfl w2.drew.heap.size 52 (.agg #[.int .i64 0, .int .i64 0]) 16 Try.underlying46 info_edge rfl (fun _ => False) a3 (2 * len) c3 (edgesN l 1) (by simp [Act.eval]) P4.out a4 2 c4 (edgesN [(f, t)] (-1)) ((edgesN [(f, t)] (-1)).map fun e => [Value.int .i64 e.1, Value.int .i64 e.2]) (by simp [Act.eval]) O4.out.rgv.1 (fun _ => False) O4.out.rgv.2 rfl (fun b h => h.elim) (by unfold maxLen; omega) (by omega) sz4 ?_; intro a5 c5 w5 hown5 hg5; have B5V := Lib.hid (P4.out.grown B4V (Nat.le_refl _) sz4 hg5); have H5 := Lib.hid hown5; clear hown5 hg5 O4 P4 B4V)
    | (go_simp; go_at_call 20; refine (sweptW_cut w2.drew.heap.size a5 (2 * len + 2) c5 _ w5 H5.out B5V.out.size (edges_sum _ _ _ _) (edges_by (.inl rfl) (by simp)) (edges_low HG.out.at_ (one_at HR.out)) (by omega)).mono ?_; rintro e w6 ⟨a6, n6, c6, out, rfl, O6, B6, R6⟩; have hn6 := (show n6 ≤ 200 by have h1 := R6.out.few; have h2 := O6.out.1; rw [List.length_append, edgesN_length, edgesN_length] at h1; simp at h1; omega))
    | (go_simp; go_at_call 19; refine (toldW a6 n6 c6 w6 hn6).mono ?_; rintro e w7 ⟨rfl, rfl⟩))
  all_goals go_wp2_with fail
  all_goals go_ret2
  all_goals
    have B6V := B5V.out.trans B6.out
    exact ⟨a6, n6, c6, out, rfl, O6.out.mono (Nat.le_trans LV.out.size B5V.out.size) (fun _ h => h), LV.out.trans (B6V.mono LV.out.size), R6⟩
end Go.Proofs.Ytddjkcogfpihpaa
