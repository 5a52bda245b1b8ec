/- Rank and inverse of lists of rows: the plain laws. No program here. -/
import Derived.Test.YtkfjkdonbmjniaaMtN
namespace Go.Proofs.Ytkfjkdonbmjniaa
open Go.RowKit
set_option linter.unusedVariables false

theorem rect_ext {A B : List (List Int)} {r c : Nat} (hA : Rect A r c) (hB : Rect B r c) (h : ∀ i k, i < r → k < c → at_ A i k = at_ B i k) : A = B := by
  apply List.ext_getElem (by rw [hA.1, hB.1])
  intro i h1 h2
  have hi : i < r := by rw [← hA.1]; exact h1
  have ea : A.getD i [] = A[i] := by simp [List.getD, h1]
  have eb : B.getD i [] = B[i] := by simp [List.getD, h2]
  rw [← ea, ← eb]
  obtain ⟨la, qa⟩ := hA.get i hi
  obtain ⟨lb, qb⟩ := hB.get i hi
  apply List.ext_getElem (by rw [la, lb])
  intro k h3 h4
  have hk : k < c := by rw [← la]; exact h3
  have := h i k hi hk
  unfold at_ at this
  have e1 : (A.getD i []).getD k 0 = (A.getD i [])[k] := by rw [List.getD, List.getElem?_eq_getElem h3]; rfl
  have e2 : (B.getD i []).getD k 0 = (B.getD i [])[k] := by rw [List.getD, List.getElem?_eq_getElem h4]; rfl
  have b1 := qa.getD k
  have b2 := qb.getD k
  rw [e1] at this b1
  rw [e2] at this b2
  omega
theorem sum_val (f : Nat → Lin.F) : ∀ n, (Lin.sum f n).1 = xs_ (fun i => (f i).1) n
  | 0 => rfl
  | n + 1 => by
    show (Lin.sum f n).1 ^^^ (f n).1 = xs_ (fun i => (f i).1) n ^^^ (f n).1
    rw [sum_val f n]
theorem mm_val {A B : List (List Int)} {r n c : Nat} (hA : Rect A r n) (hB : Rect B n c) (i k : Nat) : (Lin.mm n (fe A) (fe B) i k).1 = dotN (fun t => at_ A i t) (fun t => at_ B t k) n := by
  unfold Lin.mm dotN
  rw [sum_val]
  exact xs_congr n (fun t _ => by show gmul (fe A i t).1 (fe B t k).1 = _; rw [hA.fe, hB.fe])
theorem fe_mul {A B : List (List Int)} {r n c : Nat} (hA : Mat A r n) (hB : Mat B n c) (i k : Nat) (hi : i < r) (hk : k < c) : fe (mulM A B r n c) i k = Lin.mm n (fe A) (fe B) i k := by
  apply Subtype.ext
  rw [mm_val hA.rect hB.rect, (mulM_mat hA hB).rect.fe, mulM_at _ _ _ _ _ _ _ hi hk]
theorem red_ech {M : List (List Int)} {r C : Nat} (h : Rect M r C) (n : Nat) (hn : n ≤ C) : ∃ L, Lin.Echelon r n (redN M n).2 L ∧ Lin.Turned r (fe M) L ∧ ∀ i k, i < r → k < C → L i k = fe (redN M n).1 i k := by
  obtain ⟨hE, L, hT, hL⟩ := red_echelon h n hn
  refine ⟨L, ?_, hT, hL⟩
  obtain ⟨q1, q2, ⟨p, q3, q4⟩, q5⟩ := hE
  exact ⟨q1, q2, ⟨p, fun j hj => ⟨(q3 j hj).1, fun i hi => by rw [hL i _ hi (by have := (q3 j hj).1; omega)]; exact (q3 j hj).2 i hi⟩, q4⟩, fun i k h1 h2 h3 => by rw [hL i k h2 (by omega)]; exact q5 i k h1 h2 h3⟩
theorem rank_through {M : List (List Int)} {r C : Nat} (h : Rect M r C) {n k : Nat} (hn : n ≤ C) {X Y : Lin.M} (hA : ∀ i j, i < r → j < n → fe M i j = Lin.mm k X Y i j) : (redN M n).2 ≤ k := by
  obtain ⟨L, h1, h2, _⟩ := red_ech h n hn
  exact Lin.rank_le h1 h2 hA
theorem rank_factor {M : List (List Int)} {r C : Nat} (h : Rect M r C) {n : Nat} (hn : n ≤ C) : ∃ X Y : Lin.M, ∀ i j, i < r → j < n → fe M i j = Lin.mm (redN M n).2 X Y i j := by
  obtain ⟨L, h1, h2, _⟩ := red_ech h n hn
  exact Lin.factor h1 h2
theorem rank_le_rows {M : List (List Int)} {r C : Nat} (h : Rect M r C) {n : Nat} (hn : n ≤ C) : (redN M n).2 ≤ r := by
  obtain ⟨L, h1, _⟩ := red_ech h n hn
  exact h1.le_r
theorem rank_le_cols {M : List (List Int)} {r C : Nat} (h : Rect M r C) {n : Nat} (hn : n ≤ C) : (redN M n).2 ≤ n := by
  obtain ⟨L, h1, _⟩ := red_ech h n hn
  exact h1.le_n
theorem besideM_zero {M : List (List Int)} : besideM M 0 = M := by
  apply List.ext_getElem (by simp [besideM])
  intro i h1 h2
  simp [besideM, besideRow, List.getD, h2]
theorem beside_getD {M : List (List Int)} (more i : Nat) (hi : i < M.length) : (besideM M more).getD i [] = besideRow (M.getD i []) i more := by
  unfold besideM
  rw [List.getD, List.getElem?_map, List.getElem?_range hi]; rfl
theorem beside_left {M : List (List Int)} {n : Nat} (h : Rect M n n) (i k : Nat) (hi : i < n) (hk : k < n) : fe (besideM M n) i k = fe M i k := by
  apply Subtype.ext
  show at_ _ i k % 256 = at_ _ i k % 256
  unfold at_
  rw [beside_getD _ _ (by rw [h.1]; exact hi)]
  have hl := (h.get i hi).1
  unfold besideRow
  rw [if_pos (by omega), List.getD, List.getElem?_set_ne (by omega), List.getElem?_append_left (by omega)]; rfl
theorem beside_right {M : List (List Int)} {n : Nat} (h : Rect M n n) (i k : Nat) (hi : i < n) (hk : k < n) : fe (besideM M n) i (n + k) = Lin.idm i k := by
  apply Subtype.ext
  show at_ _ i (n + k) % 256 = _
  unfold at_
  rw [beside_getD _ _ (by rw [h.1]; exact hi)]
  have hl := (h.get i hi).1
  unfold besideRow
  rw [if_pos (by omega), hl, List.getD, List.getElem?_set]
  unfold Lin.idm
  by_cases e : i = k
  · rw [if_pos (by omega), if_pos (by rw [List.length_append, List.length_replicate]; omega), if_pos e]; rfl
  · rw [if_neg (by omega), List.getElem?_append_right (by omega), hl, Nat.add_sub_cancel_left, List.getElem?_replicate, if_pos hk, if_neg e]; rfl
theorem rank_beside {M : List (List Int)} {n : Nat} (h : Rect M n n) : (redN (besideM M n) n).2 = (redN M n).2 := by
  have hb := besideM_rect h n
  apply Nat.le_antisymm
  · obtain ⟨X, Y, hXY⟩ := rank_factor h (Nat.le_refl n)
    exact rank_through hb (by omega) (fun i j hi hj => by rw [beside_left h i j hi hj]; exact hXY i j hi hj)
  · obtain ⟨X, Y, hXY⟩ := rank_factor hb (n := n) (by omega)
    exact rank_through h (Nat.le_refl n) (fun i j hi hj => by rw [← beside_left h i j hi hj]; exact hXY i j hi hj)
/-- The inverse, where there is one. -/
def invM (M : List (List Int)) (n : Nat) : List (List Int) := (redN (besideM M n) n).1.map (fun x => x.drop n)
def oneM (n : Nat) : List (List Int) := (List.range n).map fun i => (List.range n).map fun k => if i = k then (1 : Int) else 0
theorem oneM_mat {n : Nat} (h1 : 1 ≤ n) (h8 : n ≤ 8) : Mat (oneM n) n n := by
  refine ⟨by simp [oneM], ⟨h1, h8⟩, ⟨h1, h8⟩, fun x hx => ?_⟩
  simp only [oneM, List.mem_map, List.mem_range] at hx
  obtain ⟨i, _, rfl⟩ := hx
  refine ⟨by simp, fun v hv => ?_⟩
  simp only [List.mem_map, List.mem_range] at hv
  obtain ⟨k, _, rfl⟩ := hv
  split <;> omega
theorem oneM_fe {n : Nat} (i k : Nat) (hi : i < n) (hk : k < n) : fe (oneM n) i k = Lin.idm i k := by
  apply Subtype.ext
  show at_ _ i k % 256 = _
  unfold at_ oneM
  have e : ((List.range n).map fun i => (List.range n).map fun k => if i = k then (1 : Int) else 0).getD i [] = (List.range n).map fun k => if i = k then (1 : Int) else 0 := by simp [List.getD, hi]
  rw [e, range_getD, if_pos hk]
  unfold Lin.idm
  split <;> rfl
theorem invM_mat {M : List (List Int)} {n : Nat} (h : Mat M n n) : Mat (invM M n) n n := by
  have hr := redN_rect (besideM_rect h.rect n) n
  refine ⟨by unfold invM; rw [List.length_map]; exact hr.1, h.2.1, h.2.1, fun x hx => ?_⟩
  simp only [invM, List.mem_map] at hx
  obtain ⟨y, hy, rfl⟩ := hx
  obtain ⟨h1, h2⟩ := hr.2 y hy
  exact ⟨by rw [List.length_drop, h1]; omega, fun v hv => h2 v (List.mem_of_mem_drop hv)⟩
theorem invM_fe {M : List (List Int)} {n : Nat} (h : Mat M n n) (i k : Nat) (hi : i < n) (hk : k < n) : fe (invM M n) i k = fe (redN (besideM M n) n).1 i (n + k) := by
  apply Subtype.ext
  show at_ _ i k % 256 = at_ _ i (n + k) % 256
  have hr := redN_rect (besideM_rect h.rect n) n
  have hi' : i < (redN (besideM M n) n).1.length := by rw [hr.1]; exact hi
  unfold at_ invM
  have e : ((redN (besideM M n) n).1.map (fun x => x.drop n)).getD i [] = ((redN (besideM M n) n).1.getD i []).drop n := by
    simp [List.getD, hi']
  rw [e, List.getD, List.getElem?_drop]; rfl
theorem mul_one_of {A B : List (List Int)} {n : Nat} (hA : Mat A n n) (hB : Mat B n n) (h : ∀ i k, i < n → k < n → Lin.mm n (fe A) (fe B) i k = Lin.idm i k) : mulM A B n n n = oneM n := by
  have h8 := hA.2.1
  refine rect_ext (mulM_mat hA hB).rect (oneM_mat h8.1 h8.2).rect fun i k hi hk => ?_
  rw [← (mulM_mat hA hB).rect.fe, ← (oneM_mat h8.1 h8.2).rect.fe, fe_mul hA hB i k hi hk, h i k hi hk, oneM_fe i k hi hk]
theorem inv_both {M : List (List Int)} {n : Nat} (h : Mat M n n) (hr : (redN M n).2 = n) :
    (∀ i k, i < n → k < n → Lin.mm n (fe (invM M n)) (fe M) i k = Lin.idm i k) ∧ ∀ i k, i < n → k < n → Lin.mm n (fe M) (fe (invM M n)) i k = Lin.idm i k := by
  obtain ⟨L, h1, h2, h3⟩ := red_ech (besideM_rect h.rect n) n (by omega)
  rw [rank_beside h.rect, hr] at h1
  have hi := Lin.inverse (A := fe M) (beside_left h.rect) (beside_right h.rect) h1 h2
  have hT : ∀ i k, i < n → k < n → fe (invM M n) i k = L i (n + k) := fun i k hi hk => by rw [invM_fe h i k hi hk, h3 i _ hi (by omega)]
  exact ⟨fun i k hi' hk => by rw [← hi.1 i k hi' hk]; exact Lin.mm_congr (fun t ht => hT i t hi' ht) (fun _ _ => rfl),
    fun i k hi' hk => by rw [← hi.2 i k hi' hk]; exact Lin.mm_congr (fun _ _ => rfl) (fun t ht => hT t k ht hk)⟩
theorem inv_left {M : List (List Int)} {n : Nat} (h : Mat M n n) (hr : (redN M n).2 = n) : mulM (invM M n) M n n n = oneM n := mul_one_of (invM_mat h) h (inv_both h hr).1
theorem inv_right {M : List (List Int)} {n : Nat} (h : Mat M n n) (hr : (redN M n).2 = n) : mulM M (invM M n) n n n = oneM n := mul_one_of h (invM_mat h) (inv_both h hr).2
theorem prod_rank_l {A B : List (List Int)} {n : Nat} (hA : Mat A n n) (hB : Mat B n n) : (redN (mulM A B n n n) n).2 ≤ (redN A n).2 := by
  obtain ⟨X, Y, hXY⟩ := rank_factor hA.rect (Nat.le_refl n)
  refine rank_through (mulM_mat hA hB).rect (Nat.le_refl n) (X := X) (Y := Lin.mm n Y (fe B)) fun i j hi hj => ?_
  rw [fe_mul hA hB i j hi hj, Lin.mm_congr (A' := Lin.mm (redN A n).2 X Y) (B' := fe B) (fun t ht => hXY i t hi ht) (fun _ _ => rfl), Lin.mm_assoc]
theorem prod_rank_r {A B : List (List Int)} {n : Nat} (hA : Mat A n n) (hB : Mat B n n) : (redN (mulM A B n n n) n).2 ≤ (redN B n).2 := by
  obtain ⟨X, Y, hXY⟩ := rank_factor hB.rect (Nat.le_refl n)
  refine rank_through (mulM_mat hA hB).rect (Nat.le_refl n) (X := Lin.mm n (fe A) X) (Y := Y) fun i j hi hj => ?_
  rw [fe_mul hA hB i j hi hj, Lin.mm_congr (A' := fe A) (B' := Lin.mm (redN B n).2 X Y) (fun _ _ => rfl) (fun t ht => hXY t j ht hj), ← Lin.mm_assoc]
/-- What has an inverse is of full rank. -/
theorem full_of_left {A : List (List Int)} {n : Nat} (hA : Mat A n n) {Q : Lin.M} (h : ∀ i k, i < n → k < n → Lin.mm n Q (fe A) i k = Lin.idm i k) : (redN A n).2 = n := by
  apply Nat.le_antisymm (rank_le_cols hA.rect (Nat.le_refl n))
  obtain ⟨X, Y, hXY⟩ := rank_factor hA.rect (Nat.le_refl n)
  refine Lin.no_less (A := Lin.mm n Q X) (B := Y) fun i j hi hj => ?_
  rw [← h i j hi hj, Lin.mm_assoc]
  exact Lin.mm_congr (fun _ _ => rfl) (fun t ht => (hXY t j ht hj).symm)
theorem prod_full {A B : List (List Int)} {n : Nat} (hA : Mat A n n) (hB : Mat B n n) (rA : (redN A n).2 = n) (rB : (redN B n).2 = n) :
    (redN (mulM A B n n n) n).2 = n ∧ mulM (invM B n) (invM A n) n n n = invM (mulM A B n n n) n := by
  have hP := mulM_mat hA hB
  obtain ⟨a1, a2⟩ := inv_both hA rA
  obtain ⟨b1, b2⟩ := inv_both hB rB
  have hQ := mulM_mat (invM_mat hB) (invM_mat hA)
  -- (B' A') (A B) changes nothing
  have hl : ∀ i k, i < n → k < n → Lin.mm n (fe (mulM (invM B n) (invM A n) n n n)) (fe (mulM A B n n n)) i k = Lin.idm i k := fun i k hi hk => by
    rw [Lin.mm_congr (A' := Lin.mm n (fe (invM B n)) (fe (invM A n))) (B' := Lin.mm n (fe A) (fe B)) (fun t ht => fe_mul (invM_mat hB) (invM_mat hA) i t hi ht) (fun t ht => fe_mul hA hB t k ht hk)]
    rw [Lin.mm_assoc, Lin.mm_congr (A' := fe (invM B n)) (B' := fe B) (fun _ _ => rfl) (fun t ht => by
      rw [← Lin.mm_assoc, Lin.mm_congr (A' := Lin.idm) (B' := fe B) (fun s hs => a1 t s ht hs) (fun _ _ => rfl)]
      exact Lin.idm_mm n (fe B) t k ht)]
    exact b1 i k hi hk
  have hf := full_of_left hP hl
  refine ⟨hf, ?_⟩
  obtain ⟨p1, p2⟩ := inv_both hP hf
  refine rect_ext hQ.rect (invM_mat hP).rect fun i k hi hk => ?_
  rw [← hQ.rect.fe, ← (invM_mat hP).rect.fe]
  congr 1
  -- Q = Q (P P') = (Q P) P' = P'
  have e1 : Lin.mm n (fe (mulM (invM B n) (invM A n) n n n)) (Lin.mm n (fe (mulM A B n n n)) (fe (invM (mulM A B n n n) n))) i k = fe (mulM (invM B n) (invM A n) n n n) i k := by
    rw [Lin.mm_congr (A' := fe (mulM (invM B n) (invM A n) n n n)) (B' := Lin.idm) (fun _ _ => rfl) (fun t ht => p2 t k ht hk)]
    exact Lin.mm_idm n _ i k hk
  rw [← e1, ← Lin.mm_assoc, Lin.mm_congr (A' := Lin.idm) (B' := fe (invM (mulM A B n n n) n)) (fun t ht => hl i t hi ht) (fun _ _ => rfl)]
  exact Lin.idm_mm n _ i k hi
end Go.Proofs.Ytkfjkdonbmjniaa
