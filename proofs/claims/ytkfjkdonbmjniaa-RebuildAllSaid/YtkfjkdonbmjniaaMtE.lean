/- Package mat: reduce. -/
import Derived.Test.YtkfjkdonbmjniaaMtB
import Derived.Deep.CutBlock
namespace Go.Proofs.Ytkfjkdonbmjniaa
open Go.RowKit
set_option linter.unusedVariables false
set_option maxRecDepth 100000

theorem lead_some {M : List (List Int)} {r C : Nat} (h : Rect M r C) {rank c n : Nat} (hn : rank + n < r) (hz : ∀ j, j < n → (M.getD (rank + j) []).getD c 0 = 0) (hne : (M.getD (rank + n) []).getD c 0 ≠ 0) : leader M rank c = some n := by
  unfold leader
  rw [List.findIdx?_eq_some_iff_getElem]
  have hg : ∀ j, (hj : rank + j < r) → M.getD (rank + j) [] = M[rank + j]'(by rw [h.1]; exact hj) := fun j hj => by simp [List.getD, h.1, hj]
  refine ⟨by rw [List.length_drop, h.1]; omega, ?_, fun j hj => ?_⟩
  · rw [List.getElem_drop, ← hg n hn]; simp only [ne_eq, decide_not, Bool.not_eq_eq_eq_not, Bool.not_true, decide_eq_false_iff_not]; exact hne
  · rw [List.getElem_drop, ← hg j (by omega)]
    simp only [ne_eq, decide_not, Bool.not_eq_eq_eq_not, Bool.not_true, decide_eq_false_iff_not, Decidable.not_not]
    exact hz j hj
theorem lead_none {M : List (List Int)} {r C : Nat} (h : Rect M r C) {rank c : Nat} (hz : ∀ j, rank + j < r → (M.getD (rank + j) []).getD c 0 = 0) : leader M rank c = none := by
  unfold leader
  rw [List.findIdx?_eq_none_iff]
  intro x hx
  obtain ⟨j, hj, rfl⟩ := List.mem_iff_getElem.1 hx
  rw [List.length_drop, h.1] at hj
  rw [List.getElem_drop]
  have := hz j (by omega)
  rw [show M.getD (rank + j) [] = M[rank + j]'(by rw [h.1]; omega) by simp [List.getD]; rw [List.getElem?_eq_getElem (by rw [h.1]; omega)]; rfl] at this
  simp only [ne_eq, decide_not, Bool.not_eq_eq_eq_not, Bool.not_false, decide_eq_true_eq]
  exact this
set_option maxHeartbeats 1000000 in
theorem nonzero1 (b C c gc : Nat) (v : Int) (w : World) (hc : w.cell? ⟨gc, 0, none⟩ = some (.int .i64 c)) (hv : w.cell? ⟨b, c, none⟩ = some (.int .i64 v)) (hcC : c < C) (hC : C ≤ 16) :
    Calls Try.prog 63 #[.slice (some ⟨b, 0, none⟩) C C, .pointer (some ⟨gc, 0, none⟩)] w fun e w' => e = .returned (.bool (v != 0)) ∧ w = w' := by
  have i1 : (c : Int) < (C : Int) := by omega
  go_enter Try.func63, Try.ntmps63
  go_wp2_with fail
  go_ret
  first | exact ⟨rfl, rfl⟩ | exact ⟨rfl, trivial⟩
def leadI (x : Option Nat) : Int := match x with | none => -1 | some a => (a : Int)
set_option maxHeartbeats 2000000 in
theorem indexLead {B g r cap C : Nat} {bs : List Nat} {M : List (List Int)} (rank c gc : Nat) (w : World) (h : Nst w B (some ⟨g, 0, none⟩) r cap C bs M) (hc : w.cell? ⟨gc, 0, none⟩ = some (.int .i64 c)) (hcC : c < C) (hC : C ≤ 16) (hr : rank < r) (hr8 : r ≤ 8) :
    Calls Try.prog 62 #[.slice (some ⟨g, rank, none⟩) (r - rank) (cap - rank), .func (.func 63) #[] #[.pointer (some ⟨gc, 0, none⟩)]] w fun e w' => e = .returned (.int .i64 (leadI (leader M rank c))) ∧ w = w' := by
  obtain ⟨L, hL⟩ : ∃ L, Hid (leader M rank c = L) := ⟨_, rfl⟩
  rw [hL.out]
  obtain ⟨m, hm⟩ : ∃ m, r - rank = m := ⟨_, rfl⟩
  rw [hm]
  obtain ⟨cp, hcp⟩ : ∃ cp, cap - rank = cp := ⟨_, rfl⟩
  rw [hcp]
  have hle := h.out.row.hle
  have hmx := h.out.row.hmax
  unfold maxLen at hmx
  have HN := Lib.hid h
  clear h
  go_enter Try.func62, Try.ntmps62
  go_wp2_with fail
  go_loopw [8] (fun i wr => ∃ n : Nat, n ≤ m ∧ i = .int .i64 n ∧ Hid (∀ j, j < n → (M.getD (rank + j) []).getD c 0 = 0) ∧ w = wr) (fun i _ => m - (intOf i).toNat)
  case atStart => exact ⟨0, by omega, rfl, fun j hj => absurd hj (by omega), rfl⟩
  case round =>
    obtain ⟨n, hn, rfl, hz, rfl⟩ := hrel
    by_cases hlt : n < m
    · have e1 := HN.out.cell (rank + n) (by omega)
      have e2 := HN.out.at (rank + n) c (by omega) hcC
      obtain ⟨b, hb⟩ : ∃ b, bs.getD (rank + n) 0 = b := ⟨_, rfl⟩
      obtain ⟨v, hv⟩ : ∃ v, (M.getD (rank + n) []).getD c 0 = v := ⟨_, rfl⟩
      rw [hb] at e1 e2
      rw [hv] at e2
      have HV := Lib.hid hv
      have nm : (n : Int) < (m : Int) := by omega
      clear hb hv
      go_wp2_with fail
      refine (nonzero1 b C c gc v w hc e2 hcC hC).mono ?_
      rintro e w2 ⟨rfl, rfl⟩
      by_cases h0 : v = 0
      · have hb0 : (v != 0) = false := by simp [h0]
        have HZ : Hid (∀ j, j < n + 1 → (M.getD (rank + j) []).getD c 0 = 0) := fun j hj => by
          by_cases h : j < n
          · exact hz.out j h
          · obtain rfl : j = n := by omega
            rw [HV.out, h0]
        rw [hb0]
        clear hz h0
        go_wp2_with fail
        go_roundw
        case rel => first | exact ⟨n + 1, by omega, by go_num, HZ, rfl⟩ | exact ⟨n + 1, by omega, by go_num, HZ, trivial⟩
        case measure => simp [intOf]; omega
      · have hb0 : (v != 0) = true := by simp [h0]
        have HF : Hid (L = some n) := by
          show _ = _
          rw [← hL.out]
          exact lead_some HN.out.rect (by omega) hz.out (by rw [HV.out]; exact h0)
        rw [hb0]
        clear hz h0
        go_wp2_with fail
        go_ret
        first | exact ⟨by rw [HF.out]; rfl, rfl⟩ | exact ⟨by rw [HF.out]; rfl, trivial⟩
    · have HF : Hid (L = none) := by
        show _ = _
        rw [← hL.out]
        exact lead_none HN.out.rect (fun j hj => hz.out j (by omega))
      go_wp2_with fail
      go_ret
      first | exact ⟨by rw [HF.out]; rfl, rfl⟩ | exact ⟨by rw [HF.out]; rfl, trivial⟩
/-- What lies in memory while it is reduced: the matrix, and the column's number. -/
structure RS (w0 wr : World) (B g r cap C gc c : Nat) (bs : List Nat) (M : List (List Int)) : Prop where
  n : Nst wr B (some ⟨g, 0, none⟩) r cap C bs M
  bc : Box wr gc #[.int .i64 c] 3
  hgc : w0.heap.size ≤ gc
  gl : g < w0.heap.size
  lt : ∀ i, i < r → bs.getD i 0 < w0.heap.size
  bl : Below B w0 wr
theorem RS.below {w0 wr w' : World} {B g r cap C gc c : Nat} {bs : List Nat} {M : List (List Int)} (h : RS w0 wr B g r cap C gc c bs M) (hB : B ≤ w0.heap.size) (hb : Below wr.heap.size wr w') : RS w0 w' B g r cap C gc c bs M :=
  ⟨h.n.below hb, h.bc.below hb h.bc.lt, h.hgc, h.gl, h.lt, h.bl.trans (hb.mono (Nat.le_trans hB h.bl.size))⟩
theorem RS.put {w0 wr : World} {B g r cap C gc c : Nat} {bs : List Nat} {M : List (List Int)} (h : RS w0 wr B g r cap C gc c bs M) (i k : Nat) (hi : i < r) (hk : k < C) (v : Int) (hv : 0 ≤ v ∧ v ≤ 255) :
    RS w0 (wr.setCell ⟨bs.getD i 0, k, none⟩ (.int .i64 v)) B g r cap C gc c bs (M.set i ((M.getD i []).set k v)) :=
  ⟨h.n.put i k hi hk v hv, h.bc.other _ (by have := h.lt i hi; have := h.hgc; show bs.getD i 0 ≠ gc; omega) _, h.hgc, h.gl, h.lt, h.bl.setCell (p := ⟨bs.getD i 0, k, none⟩) (h.n.row i hi).2 _⟩
theorem RS.gB {w0 wr : World} {B g r cap C gc c : Nat} {bs : List Nat} {M : List (List Int)} (h : RS w0 wr B g r cap C gc c bs M) : B ≤ g := (World.ownsRow.lt h.n.out g rfl).1
theorem swapB_lt {bs : List Nat} {r p q : Nat} {N : Nat} (hl : bs.length = r) (hp : p < r) (hq : q < r) (h : ∀ i, i < r → bs.getD i 0 < N) : ∀ i, i < r → (swapB bs p q).getD i 0 < N := fun i hi => by
  rw [swapB_getD _ _ _ _ (by omega) (by omega)]
  exact h _ (sw_lt hp hq hi)
theorem RS.swap {w0 wr : World} {B g r cap C gc c : Nat} {bs : List Nat} {M : List (List Int)} (h : RS w0 wr B g r cap C gc c bs M) (p q : Nat) (hp : p < r) (hq : q < r) :
    RS w0 ((wr.setCell ⟨g, p, none⟩ (.slice (some ⟨bs.getD q 0, 0, none⟩) C C)).setCell ⟨g, q, none⟩ (.slice (some ⟨bs.getD p 0, 0, none⟩) C C)) B g r cap C gc c (swapB bs p q) (swapR M p q) := by
  have hne : g ≠ gc := by have := h.gl; have := h.hgc; omega
  exact ⟨h.n.swap p q hp hq, (h.bc.other ⟨g, p, none⟩ hne _).other ⟨g, q, none⟩ hne _, h.hgc, h.gl, swapB_lt h.n.lb hp hq h.lt, (h.bl.setCell (p := ⟨g, p, none⟩) h.gB _).setCell (p := ⟨g, q, none⟩) h.gB _⟩
theorem RS.swap' {w0 wr : World} {B g r cap C gc c : Nat} {bs : List Nat} {M : List (List Int)} (h : RS w0 wr B g r cap C gc c bs M) (p q : Nat) (hp : p < r) (hq : q < r) :
    RS w0 ((wr.setCell ⟨g, q, none⟩ (.slice (some ⟨bs.getD p 0, 0, none⟩) C C)).setCell ⟨g, p, none⟩ (.slice (some ⟨bs.getD q 0, 0, none⟩) C C)) B g r cap C gc c (swapB bs p q) (swapR M p q) := by
  have hne : g ≠ gc := by have := h.gl; have := h.hgc; omega
  exact ⟨h.n.swap' p q hp hq, (h.bc.other ⟨g, q, none⟩ hne _).other ⟨g, p, none⟩ hne _, h.hgc, h.gl, swapB_lt h.n.lb hp hq h.lt, (h.bl.setCell (p := ⟨g, q, none⟩) h.gB _).setCell (p := ⟨g, p, none⟩) h.gB _⟩
/-- The next column's number, in a new place. -/
theorem RS.next {w0 wr : World} {B g r cap C gc c : Nat} {bs : List Nat} {M : List (List Int)} (h : RS w0 wr B g r cap C gc c bs M) (hB : B ≤ w0.heap.size) :
    RS w0 (wr.alloc (.cells #[.int .i64 ((c : Int) + 1)] 3)) B g r cap C wr.heap.size (c + 1) bs M := by
  have hs := h.bl.size
  have hlow : Below wr.heap.size wr (wr.alloc (.cells #[.int .i64 ((c : Int) + 1)] 3)) := Below_alloc1 _
  exact ⟨h.n.below hlow, Box.new rfl, hs, h.gl, h.lt, h.bl.trans (hlow.mono (Nat.le_trans hB hs))⟩
/-- A cell of the outer slice, when another one has been written. -/
theorem Nst.again {w : World} {B g : Nat} {r cap C : Nat} {bs : List Nat} {M : List (List Int)} (h : Nst w B (some ⟨g, 0, none⟩) r cap C bs M) (p q : Nat) (v : Value) (hq : q < r) : ∃ u, (w.setCell ⟨g, p, none⟩ v).cell? ⟨g, q, none⟩ = some u := by
  have s1 := World.ownsRow.stored h.out p v
  refine ⟨((bs.map (rowV C)).set p v)[q]'(by rw [List.length_set, List.length_map, h.lb]; exact hq), ?_⟩
  rw [World.ownsRow.cellAt s1.1 q (by omega), List.getElem?_eq_getElem]
def cAt (w : World) (v : Value) : Nat := match v with
  | .pointer (some a) => (intOf ((w.cell? a).getD undef)).toNat
  | _ => 0
theorem cAt_eq {w : World} {a : Addr} {v : Int} (h : w.cell? a = some (.int .i64 v)) : cAt w (.pointer (some a)) = v.toNat := by
  show (intOf ((w.cell? a).getD undef)).toNat = _
  rw [h]; rfl
theorem elimN_at (M : List (List Int)) (rank c n : Nat) (hr : rank < M.length) : (elimN M rank c n).getD rank [] = M.getD rank [] := by
  rw [elimN_getD _ _ _ _ _ hr]
  split
  · unfold elimRow; rw [if_pos (.inl rfl)]
  · rfl
theorem set_getD (M : List (List Int)) (n : Nat) (hn : n < M.length) : M.set n (M.getD n []) = M := by
  apply List.ext_getElem (by simp)
  intro i h1 h2
  rw [List.getElem_set]
  split
  · rename_i e; subst e; simp [List.getD, hn]
  · rfl
theorem elimN_skip (M : List (List Int)) (rank c n : Nat) (hn : n < M.length) (h : n = rank ∨ at_ M n c = 0) : elimN M rank c (n + 1) = elimN M rank c n := by
  rw [← elimN_set M rank c n hn]
  have e1 : elimRow M rank c n = M.getD n [] := by unfold elimRow; rw [if_pos h]
  have e2 : (elimN M rank c n).getD n [] = M.getD n [] := by rw [elimN_getD _ _ _ _ _ hn, if_neg (by omega)]
  rw [e1, ← e2]
  exact set_getD _ n (by rw [elimN_length]; exact hn)
theorem set_set (M : List (List Int)) (i : Nat) (x y : List Int) : (M.set i x).set i y = M.set i y := by simp
theorem stepM_some {M : List (List Int)} {rank c a : Nat} (h : leader M rank c = some a) : stepM c (M, rank) = (elimN (scaled (swapR M rank (rank + a)) rank c) rank c (scaled (swapR M rank (rank + a)) rank c).length, rank + 1) := by
  unfold stepM; simp only [h]
theorem stepM_none {M : List (List Int)} {rank c : Nat} (h : leader M rank c = none) : stepM c (M, rank) = (M, rank) := by
  unfold stepM; simp only [h]
end Go.Proofs.Ytkfjkdonbmjniaa
