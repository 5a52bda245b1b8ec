/- Texts that belong together: GaG, GaW, GaS. -/
import Derived.Laws.CopyOwn
import Derived.Test.YtkjaddiagembaaaZ3
import Derived.Test.YtkjaddiagembaaaZ16
/- The geometry: what may be, and the columns of a block. -/
namespace Go.Proofs.Ytkjaddiagembaaa
set_option maxRecDepth 100000
open Go.RowKit

def Shapes (w : World) (e : Ending) (w' : World) : Prop := ∃ D P : Int, 2 ≤ D ∧ D ≤ 8 ∧ 1 ≤ P ∧ P ≤ 3 ∧ P < D ∧ e = .returned (.tuple #[.int .i64 D, .int .i64 P]) ∧ w = w'

set_option maxHeartbeats 400000 in
theorem shape (d p : Int) (w : World) : Calls Try.prog 7 #[.int .i64 d, .int .i64 p] w (Shapes w) := by
  go_enter Try.func7, Try.ntmps7
  go_wp2_with (go_at_call 8; refine (picked _ _ _ (by omega) (by omega)).mono ?_; rintro e w' ⟨r, hr, hr0, hr1, rfl, rfl⟩)
  all_goals go_ret2
  all_goals exact ⟨_, _, by omega, by omega, by omega, by omega, by omega, rfl, rfl⟩

/-! ### what may be -/
set_option maxHeartbeats 400000 in
theorem may_yes (D P : Int) (w : World) (h1 : 2 ≤ D) (h2 : D ≤ 8) (h3 : 1 ≤ P) (h4 : P ≤ 3) (h5 : P < D) :
    Calls Try.prog 38 #[.agg #[.int .i64 D, .int .i64 P]] w fun e w' => e = .returned (.bool true) ∧ w.alloc (.cells #[.int .i64 D, .int .i64 P] 79) = w' := by
  go_enter Try.func38, Try.ntmps38
  go_wp2
  go_ret
  exact ⟨rfl, rfl⟩
set_option maxHeartbeats 400000 in
theorem counted_yes (c : Int) (w : World) (h1 : 1 ≤ c) (h2 : c ≤ 32) : Calls Try.prog 39 #[.int .i64 c] w fun e w' => e = .returned (.bool true) ∧ w = w' := by
  go_enter Try.func39, Try.ntmps39
  go_wp2
  go_ret
  exact ⟨rfl, rfl⟩
set_option maxHeartbeats 400000 in
theorem addressed_yes (c : Int) (w : World) (h1 : 0 ≤ c) (h2 : c ≤ 65536) : Calls Try.prog 40 #[.int .i64 c] w fun e w' => e = .returned (.bool true) ∧ w = w' := by
  go_enter Try.func40, Try.ntmps40
  go_wp2
  go_ret
  exact ⟨rfl, rfl⟩




theorem info_col : (Try.prog.info? 67).map (fun i => (i.zero, i.size, i.bytes)) = some (some (.agg #[.int .i64 0, .int .i64 0, .int .i64 0, .bool false]), 4, 32) := by kernel_rfl

/-- one column -/
structure Col where
  drive : Int
  at' : Int
  count : Int
  parity : Bool
def Col.cells (c : Col) : List Value := [.int .i64 c.drive, .int .i64 c.at', .int .i64 c.count, .bool c.parity]
def colAt (D P a q L : Int) (k : Nat) : Col := ⟨(a + k) % D, (a + k) / D, if (k : Int) < L then q + 1 else q, decide ((k : Int) < P)⟩
def colCells (D P a q L : Int) (n : Nat) : List Value := (List.range n).flatMap fun k => (colAt D P a q L k).cells
theorem colCells_succ (D P a q L : Int) (n : Nat) : colCells D P a q L (n + 1) = colCells D P a q L n ++ (colAt D P a q L n).cells := by
  unfold colCells; rw [List.range_succ, List.flatMap_append]; simp
def longOf (r P : Int) : Int := if 0 < r then r + P else 0
def manyOf (q D L : Int) : Int := if q = 0 then L else D

def GeoCol1 (D P a c : Int) (w : World) (e : Ending) (w' : World) : Prop :=
  ∃ q r L N v, Hid (q = c / (D - P) ∧ r = c % (D - P) ∧ L = longOf r P ∧ N = manyOf q D L) ∧ 0 ≤ N ∧ N ≤ 11 ∧ e = .returned (.tuple #[v, .int .i64 0]) ∧
    w'.ownsRow w.heap.size 67 4 v N.toNat (colCells D P a q L N.toNat) ∧ Below w.heap.size w w'

set_option maxHeartbeats 1000000 in
theorem columns (D P a c : Int) (w : World) (h1 : 2 ≤ D) (h2 : D ≤ 8) (h3 : 1 ≤ P) (h4 : P ≤ 3) (h5 : P < D) (h6 : 1 ≤ c) (h7 : c ≤ 32) (h8 : 0 ≤ a) (h9 : a ≤ 65536) :
    Calls Try.prog 28 #[.int .i64 D, .int .i64 P, .int .i64 a, .int .i64 c] w (GeoCol1 D P a c w) := by
  have hw0 : (D - P == 0) = false := by simp; omega
  have hD0 : (D == 0) = false := by simp; omega
  obtain ⟨q, hq⟩ : ∃ q, Hid (q = c / (D - P)) := ⟨_, rfl⟩
  obtain ⟨r, hr⟩ : ∃ r, Hid (r = c % (D - P)) := ⟨_, rfl⟩
  obtain ⟨L, hL⟩ : ∃ L, Hid (L = longOf r P) := ⟨_, rfl⟩
  obtain ⟨N, hN⟩ : ∃ N, Hid (N = manyOf q D L) := ⟨_, rfl⟩
  have hq0 : 0 ≤ q := by rw [hq.out]; exact Int.ediv_nonneg (by omega) (by omega)
  have hq1 : q ≤ c := by rw [hq.out]; exact Int.ediv_le_self _ (by omega)
  have hr0 : 0 ≤ r := by rw [hr.out]; exact Int.emod_nonneg _ (by omega)
  have hr1 : r < D - P := by rw [hr.out]; exact Int.emod_lt_of_pos _ (by omega)
  have hL0 : 0 ≤ L ∧ L ≤ 11 := by rw [hL.out]; unfold longOf; split <;> omega
  have hN0 : 0 ≤ N ∧ N ≤ 11 := by rw [hN.out]; unfold manyOf; split <;> omega
  have hr2 : 0 ≤ c % (D - P) ∧ c % (D - P) < D - P := ⟨Int.emod_nonneg _ (by omega), Int.emod_lt_of_pos _ (by omega)⟩
  go_enter Try.func28, Try.ntmps28
  go_upto_if 45 with (first | (go_at_call 38; refine (may_yes _ _ _ (by omega) (by omega) (by omega) (by omega) (by omega)).mono ?_; rintro e w' ⟨rfl, rfl⟩) | (go_at_call 39; refine (counted_yes _ _ (by omega) (by omega)).mono ?_; rintro e w' ⟨rfl, rfl⟩) | (go_at_call 40; refine (addressed_yes _ _ (by omega) (by omega)).mono ?_; rintro e w' ⟨rfl, rfl⟩) | go_quiet (fail))
  go_cut [11, 12, 13] (fun v11 v12 v13 wx => v11 = .int .i64 q ∧ v12 = .int .i64 r ∧ v13 = .int .i64 L ∧ Below w.heap.size w wx)
  case first =>
    go_wp2
    all_goals go_meet
    · exact ⟨by rw [hq.out], by rw [hr.out], by rw [hL.out, hr.out, longOf, if_pos ‹_›], below_drewN (((Below.refl _ _).alloc (Nat.le_refl _) _).alloc (by simp) _) _⟩
    · exact ⟨by rw [hq.out], by rw [hr.out], by rw [hL.out, hr.out, longOf, if_neg (by omega)], below_drewN (((Below.refl _ _).alloc (Nat.le_refl _) _).alloc (by simp) _) _⟩
  case rest =>
  obtain ⟨rfl, rfl, rfl, hb⟩ := hcut
  clear hr1 hw0
  go_upto_if 51 with fail
  go_cut [14] (fun v14 wx => v14 = .int .i64 N ∧ Below w.heap.size w wx)
  case first =>
    by_cases h0 : q = 0
    · have hq0' : (q == 0) = true := by simp [h0]
      have HN : N = L := by rw [hN.out, manyOf, if_pos h0]
      clear h0
      have HN' := Lib.hid HN
      clear HN
      go_wp2
      all_goals go_meet
      exact ⟨by rw [HN'.out], hb⟩
    · have hq0' : (q == 0) = false := by simp [h0]
      have HN : N = D := by rw [hN.out, manyOf, if_neg h0]
      have HN' := Lib.hid HN
      clear HN
      go_wp2
      all_goals go_meet
      exact ⟨by rw [HN'.out], hb⟩
  case rest =>
  obtain ⟨rfl, hb1⟩ := hcut
  clear hb
  go_wp2_with fail
  obtain ⟨i0, hi, hz0, hz1, hz2⟩ := info_parts info_col
  go_loopw [15, 54] (fun v i wr => ∃ k : Nat, (k : Int) ≤ N ∧ i = .int .i64 k ∧ wr.ownsRow w.heap.size 67 4 v k (colCells D P a q L k) ∧ Below w.heap.size w wr) (fun _ i _ => (N - intOf i).toNat)
  case atStart => exact ⟨0, by omega, rfl, World.ownsRow_nil _ _ _ _, hb1⟩
  case round =>
    obtain ⟨k, hk, rfl, hown, hbr⟩ := hrel
    clear hb1
    have hsz := hbr.size
    by_cases hlt : (k : Int) < N
    · by_cases hkL : (k : Int) < L
      all_goals
        have hc : (colAt D P a q L k).cells = [.int .i64 ((a + k) % D), .int .i64 ((a + k) / D), .int .i64 (if (k : Int) < L then q + 1 else q), .bool (decide ((k : Int) < P))] := rfl
        first | rw [if_pos hkL] at hc | rw [if_neg hkL] at hc
        have hc' := Lib.hid hc
        clear hc
        go_wp2
        go_region
        go_wp2_with (at_builtin; refine wpList_append_own _ rfl (.tmp 79) (.tmp 81) 50 rfl w.heap.size 67 i0 _ 4 32 Try.underlying50 hi hz0 hz1 hz2 rfl (by decide) _ _ _ rfl (ownsRow_below hown (below_drewN (Below_alloc2 _ _) 1)) ⟨wr.heap.size + 1, 0, none⟩ 1 1 (colAt D P a q L k).cells rfl rfl ?_ ?_ ?_ ?_ ?_ ?_)
        · rw [hc'.out]; exact new_cells (wr.alloc _) _ _ _ (by simp) _ rfl
        · intro u hu; rw [hc'.out] at hu; simp at hu; rcases hu with rfl | rfl | rfl | rfl <;> rfl
        · unfold maxLen; omega
        · omega
        · simp; omega
        intro v' w1 hown' hgrow _
        go_wp2
        go_roundw
        case rel => exact ⟨k + 1, by omega, by go_num, by rw [colCells_succ]; exact hown', below_append hbr (below_drewN (Below_alloc2 _ _) 1) hown hgrow⟩
        case measure => simp [intOf]; omega
    · have hkN : N.toNat = k := by omega
      have hkN' := Lib.hid hkN
      clear hkN
      go_wp2
      go_ret2
      exact ⟨q, r, L, N, u15, ⟨hq.out, hr.out, hL.out, hN.out⟩, hN0.1, hN0.2, rfl, by rw [hkN'.out]; exact hown, hbr⟩



theorem flat_get {f : Nat → List Value} {m : Nat} (hf : ∀ i, (f i).length = m) (n k j : Nat) (hk : k < n) (hj : j < m) : ((List.range n).flatMap f)[m * k + j]? = (f k)[j]? := by
  have hlen : ∀ n, ((List.range n).flatMap f).length = m * n := by
    intro n
    induction n with
    | zero => simp
    | succ n ih => rw [List.range_succ, List.flatMap_append, List.length_append, ih]; simp [hf]; rw [Nat.mul_succ]
  induction n with
  | zero => omega
  | succ n ih =>
    rw [List.range_succ, List.flatMap_append]
    by_cases h : k < n
    · rw [List.getElem?_append_left (by rw [hlen]; have : m * (k + 1) ≤ m * n := Nat.mul_le_mul_left _ (by omega); rw [Nat.mul_succ] at this; omega)]
      exact ih h
    · obtain rfl : k = n := by omega
      rw [List.getElem?_append_right (by rw [hlen]; omega), hlen]
      simp

/-- what the columns' call leaves, by cells -/
def ColRow (D P a q L N : Int) (g : Nat) (w : World) : Prop := ∀ k : Nat, (k : Int) < N →
  w.cell? ⟨g, k * 4, none⟩ = some (.int .i64 ((a + k) % D)) ∧ w.cell? ⟨g, k * 4 + 1, none⟩ = some (.int .i64 ((a + k) / D)) ∧
  w.cell? ⟨g, k * 4 + 2, none⟩ = some (.int .i64 (if (k : Int) < L then q + 1 else q)) ∧ w.cell? ⟨g, k * 4 + 3, none⟩ = some (.bool (decide ((k : Int) < P)))
def GeoCols (D P a c : Int) (w : World) (e : Ending) (w' : World) : Prop :=
  ∃ q r L : Int, ∃ N g cap : Nat, Hid ((D - P) * q + r = c ∧ L = longOf r P ∧ (N : Int) = manyOf q D L) ∧ 0 ≤ q ∧ q ≤ 32 ∧ 0 ≤ r ∧ r < D - P ∧ 0 ≤ L ∧ L ≤ 11 ∧ P < N ∧ N ≤ D ∧ w.heap.size ≤ g ∧
    e = .returned (.tuple #[.slice (some ⟨g, 0, none⟩) N cap, .int .i64 0]) ∧ Hid (ColRow D P a q L N g w') ∧ Below w.heap.size w w' ∧ N ≤ cap ∧ cap ≤ maxLen

theorem columns2 (D P a c : Int) (w : World) (h1 : 2 ≤ D) (h2 : D ≤ 8) (h3 : 1 ≤ P) (h4 : P ≤ 3) (h5 : P < D) (h6 : 1 ≤ c) (h7 : c ≤ 32) (h8 : 0 ≤ a) (h9 : a ≤ 65536) :
    Calls Try.prog 28 #[.int .i64 D, .int .i64 P, .int .i64 a, .int .i64 c] w (GeoCols D P a c w) := by
  refine (columns D P a c w h1 h2 h3 h4 h5 h6 h7 h8 h9).mono ?_
  rintro e w' ⟨q, r, L, N, v, ⟨hq, hr, hL, hN⟩, hN0, hN1, rfl, hown, hb⟩
  have hcq : (D - P) * q + r = c := by rw [hq, hr]; exact Int.mul_ediv_add_emod c (D - P)
  have hq0 : 0 ≤ q := by rw [hq]; exact Int.ediv_nonneg (by omega) (by omega)
  have hq1 : q ≤ c := by rw [hq]; exact Int.ediv_le_self _ (by omega)
  have hr0 : 0 ≤ r := by rw [hr]; exact Int.emod_nonneg _ (by omega)
  have hr1 : r < D - P := by rw [hr]; exact Int.emod_lt_of_pos _ (by omega)
  have hL0 : 0 ≤ L ∧ L ≤ 11 := by rw [hL]; unfold longOf; split <;> omega
  have hNP : P < N ∧ N ≤ D := by
    rw [hN]; unfold manyOf
    split
    · rename_i h0
      rw [h0, Int.mul_zero] at hcq
      rw [hL]; unfold longOf
      rw [if_pos (by omega)]
      omega
    · omega
  obtain ⟨n, rfl⟩ : ∃ n : Nat, N = n := ⟨N.toNat, by omega⟩
  have hn0 : 0 < n := by omega
  rw [Int.toNat_natCast] at hown
  have hown2 := hown
  rcases hown.2 with ⟨_, h0⟩ | ⟨g, cap, cur, rfl, hbg, _, hnc, hcm, _⟩
  · omega
  · refine ⟨q, r, L, n, g, cap, ⟨hcq, hL, hN⟩, hq0, by omega, hr0, hr1, hL0.1, hL0.2, hNP.1, hNP.2, hbg, rfl, ?_, hb, hnc, hcm⟩
    intro k hk
    have hk' : k < n := by omega
    have hget : ∀ j, j < 4 → w'.cell? ⟨g, k * 4 + j, none⟩ = (colAt D P a q L k).cells[j]? := by
      intro j hj
      rw [hown2.cellAt (k * 4 + j) (by omega)]
      have := flat_get (f := fun k => (colAt D P a q L k).cells) (m := 4) (fun _ => rfl) n k j hk' hj
      rw [Nat.mul_comm] at this
      exact this
    exact ⟨hget 0 (by omega), hget 1 (by omega), hget 2 (by omega), hget 3 (by omega)⟩

end Go.Proofs.Ytkjaddiagembaaa
/- Package stripe: the small walks. -/
namespace Go.Proofs.Ytkjaddiagembaaa
open Go.RowKit
set_option linter.unusedVariables false
set_option maxRecDepth 100000

theorem own_box {w : World} {B g n : Nat} {e : TypeId} {vs : List Value} (h : Own w B e 1 (some ⟨g, 0, none⟩) n n vs) : w.heap[g]? = some (.cells vs.toArray e (0, 0)) ∧ B ≤ g := by
  rcases h.form with ⟨h0, _⟩ | ⟨g', cur, hg, hB, hh, h1, h2, h3, h4⟩
  · cases h0
  · obtain rfl : g = g' := by simpa using hg
    refine ⟨?_, hB⟩
    rw [hh]
    have e1 : cur.toList.take (n * 1) = cur.toList := List.take_of_length_le (by rw [Array.length_toList, h3]; exact Nat.le_refl _)
    rw [e1] at h4
    rw [← h4, Array.toArray_toList]
theorem box_own {w : World} {B g n : Nat} {e : TypeId} {vs : List Value} (h : w.heap[g]? = some (.cells vs.toArray e (0, 0))) (hB : B ≤ g) (hl : vs.length = n) (hn : n ≤ maxLen) : Own w B e 1 (some ⟨g, 0, none⟩) n n vs :=
  ⟨by omega, .inr ⟨g, n, vs.toArray, rfl, hB, h, Nat.le_refl _, hn, by simp [hl], by rw [Nat.mul_one, List.take_of_length_le (by simp [hl])]⟩⟩
theorem splice_fill (n : Nat) (x : List Int) (h : x.length ≤ n) : splice (List.replicate n (Value.int .u8 0)) 0 (x.map (.int .u8)) = (fillC n x).map (.int .u8) := by
  unfold splice fillC
  simp
theorem wpList_copy_fill {P : Program} {w : World} {ops : Array Oper} {rest : List Oper} {o : Oper} {a : Act} {Q : Exit → Act → World → Prop} (hgd : o.guard = none) (d s : Operand) (dT sT : TypeId)
    (ho : o.op = .call { callee := .builtin .copy, args := #[d, s], argTypes := #[dT, sT] }) (elem : TypeId) (hu : P.underlying dT = some (.slice elem)) (hsz : (P.info? elem).map (·.size) = some 1)
    (g n B : Nat) (e : TypeId) (hd : a.eval d = .slice (some ⟨g, 0, none⟩) n n) (hown : Own w B e 1 (some ⟨g, 0, none⟩) n n (List.replicate n (Value.int .u8 0)))
    (sp : Option Addr) (len cap : Nat) (x : List Int) (hs : a.eval s = .slice sp len cap) (hrow : Row .u8 w sp len cap x) (hl : len ≤ n)
    (h : ∀ w', Own w' B e 1 (some ⟨g, 0, none⟩) n n ((fillC n x).map (.int .u8)) → Below g w w' → wpList P ops Q rest (a.put o.dst (goInt x.length)) w') :
    wpList P ops Q (o :: rest) a w := by
  obtain ⟨hbox, hB⟩ := own_box hown
  have hxl := hrow.hlen
  have hnm : n ≤ maxLen := by
    rcases hown.form with ⟨h0, _⟩ | ⟨g', cur, _, _, _, _, h2, _⟩
    · cases h0
    · exact h2
  refine wpList_copy_splice hgd d s dT sT ho elem hu hsz (some ⟨g, 0, none⟩) sp n n len cap hd hs g 0 (List.replicate n (Value.int .u8 0)) e hbox (x.map (.int .u8)) (by rw [List.length_map, hxl, show Nat.min len n = min len n from rfl]; omega) ?_ (by simp [hxl]; omega) (fun v hv => by obtain ⟨y, _, rfl⟩ := List.mem_map.1 hv; rfl) g w (Below.refl _ _) (Nat.le_refl _) ?_
  · intro h0
    refine ⟨rfl, ?_⟩
    rcases hrow.hat with h1 | ⟨b, off, rfl, hc⟩
    · rw [List.length_map] at h0; omega
    · refine ⟨_, rfl, fun j v hv => ?_⟩
      have hjl : j < x.length := by simpa using (List.getElem?_eq_some_iff.1 hv).1
      have hadd : (⟨b, off, none⟩ : Addr).add j = ⟨b, off + j, none⟩ := by unfold Addr.add; split <;> simp_all
      rw [hadd, hc j (by omega)]
      rw [List.getElem?_map, List.getElem?_eq_getElem hjl] at hv
      rw [← hv]
      simp [List.getD, hjl]
  · intro w' hb hbel
    rw [splice_fill n x (by omega)] at hb
    have := h w' (box_own hb.out hB (by rw [List.length_map]; exact fillC_len (by omega)) hnm) hbel
    rwa [List.length_map]
/-- A block's value. -/
def blkV (b : Blk) (g cap : Nat) : Value := .agg #[.slice (some ⟨g, 0, none⟩) (b.p + b.m) cap, .int .i64 (b.p : Int), .int .i64 (b.long : Int)]
/-- Its columns in memory. -/
structure BCols (b : Blk) (g cap : Nat) (w : World) : Prop where
  lt : g < w.heap.size
  cap1 : b.p + b.m ≤ cap
  cap2 : cap ≤ 9223372036854775807
  cnt : ∀ k, k < b.p + b.m → w.cell? ⟨g, k * 4 + 2, none⟩ = some (.int .i64 (b.cnt k : Int))
theorem BCols.below {b : Blk} {g cap : Nat} {w w' : World} (h : BCols b g cap w) (hb : Below w.heap.size w w') : BCols b g cap w' :=
  ⟨by have := h.lt; have := hb.size; omega, h.cap1, h.cap2, fun k hk => (hb.cell h.lt).trans (h.cnt k hk)⟩
set_option maxHeartbeats 1000000 in
theorem sectorsW (n : Nat) (hn : n ≤ 4096) (w : World) : Calls Try.prog 23 #[.int .i64 (n : Int)] w fun e w' => e = .returned (.int .i64 (((n + 127) / 128 : Nat) : Int)) ∧ w' = w := by
  have w1 : IntKind.i64.wrap ((n : Int) + 128) = (n : Int) + 128 := IntWalk.i64_in _ (by omega)
  have w2 : IntKind.i64.wrap ((n : Int) + 128 - 1) = ((n + 127 : Nat) : Int) := by rw [IntWalk.i64_in _ (by omega)]; omega
  have w3 : ((n + 127 : Nat) : Int).tdiv 128 = (((n + 127) / 128 : Nat) : Int) := by rw [Int.tdiv_eq_ediv_of_nonneg (by omega)]; omega
  have w4 : ((n + 127 : Nat) : Int) / 128 = (((n + 127) / 128 : Nat) : Int) := by omega
  have w5 : IntKind.i64.wrap (((n + 127) / 128 : Nat) : Int) = (((n + 127) / 128 : Nat) : Int) := by rw [IntWalk.i64_in _ (by omega)]
  go_enter Try.func23, Try.ntmps23
  go_wp2_with fail
  go_ret
  exact ⟨rfl, rfl⟩
set_option maxHeartbeats 1000000 in
theorem sizedW (n : Nat) (h1 : 1 ≤ n) (h2 : n ≤ 4096) (w : World) : Calls Try.prog 27 #[.int .i64 (n : Int)] w fun e w' => e = .returned (.bool true) ∧ w' = w := by
  have i1 : decide ((1 : Int) ≤ (n : Int)) = true := by simp; omega
  have i2 : decide ((n : Int) ≤ 4096) = true := by simp; omega
  go_enter Try.func27, Try.ntmps27
  go_wp2_with fail
  go_ret
  exact ⟨rfl, rfl⟩
set_option maxHeartbeats 1000000 in
theorem sizeW (b : Blk) (g cap c : Nat) (hc : c < b.p + b.m) (w : World) (h : BCols b g cap w) : Calls Try.prog 18 #[blkV b g cap, .int .i64 (c : Int)] w fun e w' => e = .returned (.int .i64 (b.sz c : Int)) ∧ Below w.heap.size w w' := by
  have hn8 : b.p + b.m ≤ 8 := b.h2.2
  have h1 := h.cap1
  have h2 := h.cap2
  obtain ⟨n, hn⟩ : ∃ n, b.p + b.m = n := ⟨_, rfl⟩
  have hcn := (Below.cell (Below_alloc1 (wr := w) (.cells #[.slice (some ⟨g, 0, none⟩) n cap, .int .i64 (b.p : Int), .int .i64 (b.long : Int)] 52)) (p := ⟨g, c * 4 + 2, none⟩) h.lt).trans (h.cnt c hc)
  have hcb : b.cnt c ≤ 32 := by have := (b.h3 c hc).2; have := b.h5; omega
  have w1 : IntKind.i64.wrap ((b.cnt c : Int) * 128) = (b.sz c : Int) := by unfold Blk.sz; rw [IntWalk.i64_in _ (by omega)]; push_cast; rfl
  have ci : (c : Int) < (n : Int) := by omega
  unfold blkV
  rw [hn] at h1 ⊢
  obtain ⟨cc, hcc⟩ : ∃ cc, b.cnt c = cc := ⟨_, rfl⟩
  obtain ⟨sc, hsc⟩ : ∃ sc, b.sz c = sc := ⟨_, rfl⟩
  rw [hcc] at hcn w1
  rw [hsc] at w1 ⊢
  clear hcc hsc h hn
  go_enter Try.func18, Try.ntmps18
  go_wp2_with fail
  go_ret
  exact ⟨rfl, Below_alloc1 _⟩
set_option maxHeartbeats 2000000 in
theorem filledW (b : Blk) (g cap : Nat) (a : Option Addr) (len cap2 : Nat) (x : List Int) (w : World) (h : Row .u8 w a len cap2 x) (hl : len ≤ b.long) :
    Calls Try.prog 25 #[blkV b g cap, .slice a len cap2] w fun e w' => ∃ g', e = .returned (.slice (some ⟨g', 0, none⟩) b.long b.long) ∧ Hid (Own w' w.heap.size 5 1 (some ⟨g', 0, none⟩) b.long b.long ((fillC b.long x).map (.int .u8))) ∧ Below w.heap.size w w' := by
  have hll := b.long_le
  have hle := h.hle
  have hmx := h.hmax
  unfold maxLen at hmx
  have hxl := h.hlen
  unfold blkV
  obtain ⟨n, hn⟩ : ∃ n, b.p + b.m = n := ⟨_, rfl⟩
  rw [hn]
  obtain ⟨L, hL⟩ : ∃ L, b.long = L := ⟨_, rfl⟩
  rw [hL] at hl hll ⊢
  have HR := Lib.hid h
  clear h hn hL
  go_enter Try.func25, Try.ntmps25
  go_upto_region 2 with (refine wpList_make_zeros rfl _ _ 22 rfl 5 (.int .u8 0) 1 Try.underlying22 info_byte rfl .i64 .i64 (L : Int) (L : Int) L rfl rfl rfl rfl (by omega) (by unfold maxLen; omega) ?_; intro w1 hO1 hB1; simp only [World.size_alloc] at hO1 hB1; have HO1 := Lib.hid hO1; have HB1 := Lib.hid hB1; clear hO1 hB1)
  have hsz1 : w.heap.size + 1 ≤ w1.heap.size := by have h := HB1.out.size; rw [World.size_alloc] at h; exact h
  have HR1 : Hid (Row .u8 w1 a len cap2 x) := (HR.out.below (Below_alloc1 _)).below (by rw [World.size_alloc]; exact HB1.out)
  have HBW : Hid (Below w.heap.size w w1) := (Below_alloc1 _).trans (HB1.out.mono (by omega))
  go_wp2_with (refine wpList_copy_fill rfl (.tmp 9) (.tmp 10) 22 22 rfl 5 Try.underlying22 (by kernel_rfl) (w.heap.size + 1) L (w.heap.size + 1) 5 rfl HO1.out a len cap2 x rfl HR1.out hl ?_; intro w2 hO2 hB2; have HO2 := Lib.hid hO2; have HB2 := Lib.hid hB2; clear hO2 hB2)
  go_ret
  exact ⟨_, rfl, Own.mono HO2.out (by omega), HBW.out.trans (HB2.out.mono (by omega))⟩
end Go.Proofs.Ytkjaddiagembaaa
/- Package stripe: shaped. -/
namespace Go.Proofs.Ytkjaddiagembaaa
open Go.RowKit
set_option linter.unusedVariables false
set_option maxRecDepth 100000

def blkL (D P C : Nat) : Nat := if 0 < C % (D - P) then C % (D - P) + P else 0
def blkN (D P C : Nat) : Nat := if C / (D - P) = 0 then blkL D P C else D
def blkC (D P C k : Nat) : Nat := if k < blkL D P C then C / (D - P) + 1 else C / (D - P)
structure IsBlk (b : Blk) (D P C : Nat) : Prop where
  p : b.p = P
  n : b.p + b.m = blkN D P C
  c : ∀ k, b.cnt k = blkC D P C k
  s : b.bytes = C * 128
theorem blk_ex {D P C : Nat} (h1 : 2 ≤ D) (h2 : D ≤ 8) (h3 : 1 ≤ P) (h4 : P ≤ 3) (h5 : P < D) (h6 : 1 ≤ C) (h7 : C ≤ 32) : ∃ b : Blk, IsBlk b D P C := by
  obtain ⟨W, hW⟩ : ∃ W, D - P = W := ⟨_, rfl⟩
  have hW1 : 1 ≤ W := by omega
  have hdm : W * (C / W) + C % W = C := Nat.div_add_mod C W
  have hr : C % W < W := Nat.mod_lt _ (by omega)
  obtain ⟨q, hq⟩ : ∃ q, C / W = q := ⟨_, rfl⟩
  obtain ⟨r, hrr⟩ : ∃ r, C % W = r := ⟨_, rfl⟩
  rw [hq, hrr] at hdm
  rw [hrr] at hr
  have hWq : q ≤ W * q := Nat.le_mul_of_pos_left q (by omega)
  have hL : blkL D P C = if 0 < r then r + P else 0 := by unfold blkL; rw [hW, hrr]
  have hN : blkN D P C = if q = 0 then blkL D P C else D := by unfold blkN; rw [hW, hq]
  have hC : ∀ k, blkC D P C k = if k < blkL D P C then q + 1 else q := fun k => by unfold blkC; rw [hW, hq]
  have hNP : P < blkN D P C ∧ blkN D P C ≤ D := by
    rw [hN, hL]
    by_cases h0 : q = 0
    · subst h0
      have : r = C := by omega
      rw [if_pos rfl, if_pos (by omega)]; omega
    · rw [if_neg h0]; omega
  refine ⟨⟨P, blkN D P C - P, blkC D P C, ⟨h3, h4⟩, by omega, fun k hk => ?_, fun k hk => ?_, ?_⟩, rfl, by show P + (blkN D P C - P) = _; omega, fun k => rfl, ?_⟩
  · rw [hC, hC]
    have hk' : k < blkN D P C := by omega
    rw [hN, hL] at hk'
    rw [hL]
    by_cases hr0 : 0 < r
    · rw [if_pos hr0, if_pos (show 0 < r + P by omega)]
      rw [if_pos hr0] at hk'
      split <;> rename_i hlt
      · omega
      · by_cases h0 : q = 0
        · rw [if_pos h0] at hk'; omega
        · omega
    · rw [if_neg hr0, if_neg (by omega), if_neg (by omega)]
      rw [if_neg hr0] at hk'
      by_cases h0 : q = 0
      · rw [if_pos h0] at hk'; omega
      · omega
  · rw [hC, hC, hL]
    by_cases hr0 : 0 < r
    · rw [if_pos hr0, if_pos (by omega), if_pos (by omega)]
    · rw [if_neg hr0, if_neg (by omega), if_neg (by omega)]
  · show blkC D P C 0 ≤ 32
    rw [hC, hL]
    by_cases hr0 : 0 < r
    · rw [if_pos hr0, if_pos (by omega)]; omega
    · rw [if_neg hr0, if_neg (by omega)]; omega
  · have ho : ∀ (b : Blk), b.p = P → (∀ k, b.cnt k = blkC D P C k) → ∀ k, b.off k = (k * q + min k r) * 128 := by
      intro b hb1 hb2 k
      induction k with
      | zero => simp [Blk.off]
      | succ k ih =>
        show b.off k + b.cnt (b.p + k) * 128 = _
        rw [ih, hb1, hb2, hC, hL, Nat.succ_mul]
        by_cases hr0 : 0 < r
        · rw [if_pos hr0]
          split <;> omega
        · rw [if_neg hr0, if_neg (by omega)]; omega
    rw [show ∀ b : Blk, b.bytes = b.off b.m from fun _ => rfl, ho _ rfl (fun _ => rfl)]
    show ((blkN D P C - P) * q + min (blkN D P C - P) r) * 128 = C * 128
    congr 1
    rw [hN, hL]
    by_cases h0 : q = 0
    · subst h0
      have : r = C := by omega
      rw [if_pos rfl, if_pos (by omega), Nat.mul_zero]; omega
    · rw [if_neg h0, hW, Nat.min_eq_right (by omega)]; omega
theorem geo_blk {b : Blk} {D P C : Nat} (hb : IsBlk b D P C) (h5 : P < D) {q r L : Int} {N : Nat} (hs : ((D : Int) - P) * q + r = C ∧ L = longOf r P ∧ (N : Int) = manyOf q D L) (hq : 0 ≤ q) (hr : 0 ≤ r) (hrl : r < (D : Int) - P) :
    b.p + b.m = N ∧ ∀ k : Nat, (b.cnt k : Int) = if (k : Int) < L then q + 1 else q := by
  obtain ⟨h1, h2, h3⟩ := hs
  obtain ⟨q, rfl⟩ := Int.eq_ofNat_of_zero_le hq
  obtain ⟨r, rfl⟩ := Int.eq_ofNat_of_zero_le hr
  obtain ⟨W, hW⟩ : ∃ W, D - P = W := ⟨_, rfl⟩
  have hWi : (D : Int) - P = (W : Int) := by omega
  rw [hWi] at h1 hrl
  have h1' : W * q + r = C := by exact_mod_cast h1
  have hrl' : r < W := by exact_mod_cast hrl
  have hdiv : C / W = q := by rw [← h1', Nat.add_comm, Nat.add_mul_div_left _ _ (by omega), Nat.div_eq_of_lt hrl', Nat.zero_add]
  have hmod : C % W = r := by rw [← h1', Nat.add_comm, Nat.add_mul_mod_self_left, Nat.mod_eq_of_lt hrl']
  have hL : (blkL D P C : Int) = L := by
    unfold blkL longOf at *
    rw [hW, hmod, h2]
    by_cases h0 : 0 < r
    · rw [if_pos h0, if_pos (by omega)]; omega
    · rw [if_neg h0, if_neg (by omega)]; rfl
  constructor
  · rw [hb.n]
    have : (blkN D P C : Int) = (N : Int) := by
      rw [h3]
      unfold blkN manyOf
      rw [hW, hdiv]
      by_cases h0 : q = 0
      · subst h0
        rw [if_pos rfl, if_pos (by simp)]; exact hL
      · rw [if_neg h0, if_neg (by omega)]
    omega
  · intro k
    rw [hb.c]
    unfold blkC
    rw [hW, hdiv]
    by_cases h0 : k < blkL D P C
    · rw [if_pos h0, if_pos (by omega)]; omega
    · rw [if_neg h0, if_neg (by omega)]
set_option maxHeartbeats 2000000 in
theorem shapedW (D P a n C : Nat) (b : Blk) (hb : IsBlk b D P C) (h1 : 2 ≤ D) (h2 : D ≤ 8) (h3 : 1 ≤ P) (h4 : P ≤ 3) (h5 : P < D) (h6 : 1 ≤ n) (h7 : n ≤ 4096) (h8 : a ≤ 65536) (hC : C = (n + 127) / 128) (w : World) :
    Calls Try.prog 17 #[.int .i64 (D : Int), .int .i64 (P : Int), .int .i64 (a : Int), .int .i64 (n : Int)] w fun e w' => ∃ g cap, e = .returned (.tuple #[blkV b g cap, .int .i64 0]) ∧ Hid (BCols b g cap w') ∧ w.heap.size ≤ g ∧ Below w.heap.size w w' := by
  have hC1 : 1 ≤ C := by omega
  have hC32 : C ≤ 32 := by omega
  have HC := Lib.hid hC
  have HS := Lib.hid (sectorsW n h7)
  have HZ := Lib.hid (sizedW n h6 h7)
  rw [← hC] at HS
  have HCOL := Lib.hid (fun w => columns2 (D : Int) (P : Int) (a : Int) (C : Int) w (by omega) (by omega) (by omega) (by omega) (by omega) (by omega) (by omega) (by omega) (by omega))
  have HB := Lib.hid hb
  clear hC hb
  go_enter Try.func17, Try.ntmps17
  go_wp2_with (first
    | (go_at_call 27; refine (HZ.out _).mono ?_; rintro e w' ⟨rfl, rfl⟩)
    | (go_at_call 23; refine (HS.out _).mono ?_; rintro e w' ⟨rfl, rfl⟩))
  refine (HCOL.out _).mono ?_
  rintro e w1 ⟨q, r, L, N, g, cap, hs, hq0, hq1, hr0, hr1, _, _, hPN, hND, hg, rfl, hcr, hb1, hnc, hcm⟩
  obtain ⟨hN, hcnt⟩ := geo_blk HB.out h5 hs.out hq0 hr0 hr1
  rw [World.size_alloc] at hg hb1
  have hRB : Hid (Box w1 w.heap.size #[.slice none 0 0, .int .i64 0, .int .i64 0] 52) := Box.below (Box.new rfl) hb1 (by omega)
  have hBC : Hid (BCols b g cap w1) := ⟨by
      have := hcr.out 0 (by omega)
      exact World.block_lt_of_cell? _ _ this.1, by omega, by unfold maxLen at hcm; omega, fun k hk => by
      have := (hcr.out k (by omega)).2.2.1
      rw [this, hcnt k]⟩
  have hc0 : w1.cell? ⟨g, 2, none⟩ = some (.int .i64 (b.cnt 0 : Int)) := by
    have := hBC.out.cnt 0 (by omega)
    simpa using this
  have hBW : Hid (Below w.heap.size w w1) := (Below_alloc1 _).trans (hb1.mono (by omega))
  have h32 := b.h5
  have wl : IntKind.i64.wrap ((b.cnt 0 : Int) * 128) = (b.long : Int) := by unfold Blk.long; rw [IntWalk.i64_in _ (by omega)]; push_cast; rfl
  have hp : Hid ((P : Int) = (b.p : Int)) := by show _ = _; rw [HB.out.p]
  have i0 : (0 : Int) < (N : Int) := by omega
  obtain ⟨c0, hc0'⟩ : ∃ c0, b.cnt 0 = c0 := ⟨_, rfl⟩
  rw [hc0'] at hc0 wl
  obtain ⟨lg, hlg⟩ : ∃ lg, b.long = lg := ⟨_, rfl⟩
  rw [hlg] at wl
  have HN := Lib.hid hN
  have HLG := Lib.hid hlg
  unfold maxLen at hcm
  clear hs hcr hcnt hb1 hN hc0' hlg h32
  go_wp2_with (refine wpList_store_box rfl 52 (.tmp 8) (.tmp 36) rfl w.heap.size #[.slice (some ⟨g, 0, none⟩) N cap, .int .i64 (P : Int), .int .i64 (lg : Int)] rfl rfl 52 _ hRB.out (by kernel_rfl) rfl rfl ?_; intro w2 hb2 hg2; have HB2 := Lib.hid hb2; have HG2 := Lib.hid hg2; clear hb2 hg2)
  have hBC2 : Hid (BCols b g cap w2) := by
    have h1 := hBC.out
    have hgs := HG2.out.size
    exact ⟨by have := h1.lt; omega, h1.cap1, h1.cap2, fun k hk => by
      have hc := h1.cnt k hk
      have hb2 : Below g w1 w1 := Below.refl _ _
      have he := HG2.out.block g h1.lt (by simp; omega)
      have e2 : w2.cell? ⟨g, k * 4 + 2, none⟩ = w1.cell? ⟨g, k * 4 + 2, none⟩ := by unfold World.cell?; simp only [he]
      rw [e2]; exact hc⟩
  have hBW2 : Hid (Below w.heap.size w w2) := hBW.out.grown HG2.out hBW.out.size (fun k hk => by have e : w.heap.size = k := (by simpa using hk); omega)
  refine bodyPost_ret (results_box_tmp Try.results17 _ _ w.heap.size _ _ HB2.out _ rfl Try.underlying52 rfl (by kernel_rfl)) rfl ?_
  refine ⟨g, cap, ?_, hBC2, by omega, hBW2.out⟩
  unfold blkV
  rw [HN.out, HLG.out, ← hp.out]
  rfl
end Go.Proofs.Ytkjaddiagembaaa
