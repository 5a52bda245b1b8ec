/- Vandermonde's matrices: the plain laws. No program here. -/
import Derived.Test.YtkfjkdonbmjniaaMtG
namespace Go.Proofs.Ytkfjkdonbmjniaa.Lin
open Go.Proofs.Ytkfjkdonbmjniaa
set_option linter.unusedVariables false

def powF (x : F) (k : Nat) : F := ⟨gpow x.1 k, gpow_lt x.2 k⟩
theorem powF_zero (x : F) : powF x 0 = one := rfl
theorem powF_succ (x : F) (k : Nat) : powF x (k + 1) = mul (powF x k) x := by
  apply Subtype.ext
  show gpow x.1 (k + 1) = gmul (gpow x.1 k) x.1
  have := gpow_add x.2 k 1
  rw [this]
  congr 1
  show gmul _ _ = _
  first | exact Go.Proofs.Ytkfjkdonbmjniaa.mul_one _ | exact Go.Proofs.Ytkfjkdonbmjniaa.one_mul x.2
def evalP : List F → F → F
  | [], _ => zero
  | c :: t, x => add c (mul x (evalP t x))
def quo (a : F) : List F → List F
  | [] => []
  | [_] => []
  | _ :: d :: t => evalP (d :: t) a :: quo a (d :: t)
theorem quo_length (a : F) : ∀ P : List F, (quo a P).length = P.length - 1
  | [] => rfl
  | [_] => rfl
  | _ :: d :: t => by
    show (quo a (d :: t)).length + 1 = _
    rw [quo_length a (d :: t)]; simp
theorem quo_div (a x : F) : ∀ P : List F, evalP P x = add (evalP P a) (mul (add x a) (evalP (quo a P) x))
  | [] => by show zero = add zero (mul _ zero); rw [mul_zero, add_zero]
  | [c] => by
    show add c (mul x zero) = add (add c (mul a zero)) (mul _ zero)
    rw [mul_zero, mul_zero, mul_zero, add_zero, add_zero]
  | c :: d :: t => by
    have ih := quo_div a x (d :: t)
    show add c (mul x (evalP (d :: t) x)) = add (add c (mul a (evalP (d :: t) a))) (mul (add x a) (add (evalP (d :: t) a) (mul x (evalP (quo a (d :: t)) x))))
    rw [ih]
    generalize evalP (d :: t) a = T
    generalize evalP (quo a (d :: t)) x = Q
    -- c + x (T + (x + a) Q) = (c + a T) + (x + a) (T + x Q)
    rw [mul_add, mul_add (add x a), add_mul x a T, add_assoc c]
    congr 1
    rw [← add_assoc, ← add_assoc (mul a T), add_comm (mul a T) (mul x T), add_assoc (mul x T), add_self, add_zero]
    congr 1
    rw [← mul_assoc, ← mul_assoc, mul_comm x (add x a)]
theorem quo_zero (a : F) : ∀ P : List F, evalP P a = zero → (∀ q ∈ quo a P, q = zero) → ∀ c ∈ P, c = zero
  | [], _, _ => fun c hc => by cases hc
  | [c], h, _ => fun c' hc => by
    obtain rfl := List.mem_singleton.1 hc
    have : add c' (mul a zero) = zero := h
    rwa [mul_zero, add_zero] at this
  | c :: d :: t, h, hq => by
    have h1 : evalP (d :: t) a = zero := hq _ (List.mem_cons_self ..)
    have h2 := quo_zero a (d :: t) h1 (fun q hm => hq q (List.mem_cons_of_mem _ hm))
    have h3 : add c (mul a (evalP (d :: t) a)) = zero := h
    rw [h1, mul_zero, add_zero] at h3
    intro c' hc
    rcases List.mem_cons.1 hc with rfl | hc
    · exact h3
    · exact h2 c' hc
/-- As many roots as coefficients: all are 0. -/
theorem roots : ∀ (n : Nat) (P : List F) (xs : Nat → F), P.length ≤ n → (∀ i j, i < n → j < n → xs i = xs j → i = j) → (∀ i, i < n → evalP P (xs i) = zero) → ∀ c ∈ P, c = zero
  | 0, P, _, h, _, _ => by
    obtain rfl : P = [] := List.eq_nil_of_length_eq_zero (by omega)
    intro c hc; cases hc
  | n + 1, P, xs, h, hd, hz => by
    refine quo_zero (xs n) P (hz n (by omega)) (roots n (quo (xs n) P) xs (by rw [quo_length]; omega) (fun i j hi hj => hd i j (by omega) (by omega)) (fun i hi => ?_))
    have := quo_div (xs n) (xs i) P
    rw [hz i (by omega), hz n (by omega), zero_add] at this
    rcases mul_eq_zero' this.symm with h1 | h1
    · have := hd i n (by omega) (by omega) (add_left h1)
      omega
    · exact h1
theorem evalP_snoc (c x : F) : ∀ P : List F, evalP (P ++ [c]) x = add (evalP P x) (mul (powF x P.length) c)
  | [] => by
    show add c (mul x zero) = add zero (mul (powF x 0) c)
    rw [mul_zero, add_zero, zero_add, powF_zero, one_mul]
  | d :: t => by
    show add d (mul x (evalP (t ++ [c]) x)) = add (add d (mul x (evalP t x))) (mul (powF x (t.length + 1)) c)
    rw [evalP_snoc c x t, mul_add, add_assoc, powF_succ, mul_comm (powF x t.length) x, mul_assoc]
theorem evalP_sum (v : Nat → F) (x : F) : ∀ n, evalP ((List.range n).map v) x = sum (fun j => mul (powF x j) (v j)) n
  | 0 => rfl
  | n + 1 => by
    rw [List.range_succ, List.map_append]
    show evalP ((List.range n).map v ++ [v n]) x = add (sum _ n) (mul (powF x n) (v n))
    rw [evalP_snoc, evalP_sum v x n]; simp
/-- Different points, and a list of coefficients that is 0 at all of them. -/
theorem vand_zero {n : Nat} (xs v : Nat → F) (hd : ∀ i j, i < n → j < n → xs i = xs j → i = j) (h : ∀ i, i < n → sum (fun j => mul (powF (xs i) j) (v j)) n = zero) : ∀ j, j < n → v j = zero := by
  intro j hj
  refine roots n ((List.range n).map v) xs (by simp) hd (fun i hi => by rw [evalP_sum]; exact h i hi) _ ?_
  exact List.mem_map.2 ⟨j, List.mem_range.2 hj, rfl⟩
end Go.Proofs.Ytkfjkdonbmjniaa.Lin
namespace Go.Proofs.Ytkfjkdonbmjniaa
def vandM (ps : List Int) : List (List Int) := ps.map fun x => (List.range ps.length).map fun k => ((gpow x.toNat k : Nat) : Int)
def pointF (ps : List Int) (i : Nat) : Lin.F := ⟨(ps.getD i 0).toNat % 256, Nat.mod_lt _ (by decide)⟩
theorem vandM_mat {ps : List Int} (h : El ps) (h1 : 1 ≤ ps.length) (h8 : ps.length ≤ 8) : Mat (vandM ps) ps.length ps.length := by
  refine ⟨by simp [vandM], ⟨h1, h8⟩, ⟨h1, h8⟩, fun x hx => ?_⟩
  simp only [vandM, List.mem_map] at hx
  obtain ⟨y, hy, rfl⟩ := hx
  refine ⟨by simp, fun v hv => ?_⟩
  simp only [List.mem_map, List.mem_range] at hv
  obtain ⟨k, _, rfl⟩ := hv
  have := h y hy
  have : gpow y.toNat k < 256 := gpow_lt (by omega) k
  omega
theorem vandM_fe {ps : List Int} (h : El ps) (i k : Nat) (hi : i < ps.length) (hk : k < ps.length) : fe (vandM ps) i k = Lin.powF (pointF ps i) k := by
  apply Subtype.ext
  show at_ _ i k % 256 = gpow ((ps.getD i 0).toNat % 256) k
  have he := h.getD i
  have hb : gpow (ps.getD i 0).toNat k < 256 := gpow_lt (by omega) k
  rw [Nat.mod_eq_of_lt (show (ps.getD i 0).toNat < 256 by omega)]
  have e : (vandM ps).getD i [] = (List.range ps.length).map fun k => ((gpow (ps.getD i 0).toNat k : Nat) : Int) := by
    unfold vandM
    simp [List.getD, hi]
  unfold at_
  rw [e, range_getD, if_pos hk, Int.toNat_natCast, Nat.mod_eq_of_lt hb]
theorem pointF_inj {ps : List Int} (h : El ps) {i j : Nat} (e : pointF ps i = pointF ps j) : ps.getD i 0 = ps.getD j 0 := by
  have := congrArg Subtype.val e
  have h1 := h.getD i
  have h2 := h.getD j
  simp only [pointF] at this
  omega
theorem vand_full {ps : List Int} (h : El ps) (h1 : 1 ≤ ps.length) (h8 : ps.length ≤ 8) (hd : ∀ a b, b < a → a < ps.length → ps.getD a 0 ≠ ps.getD b 0) : (redN (vandM ps) ps.length).2 = ps.length := by
  have hM := vandM_mat h h1 h8
  have hle := rank_le_cols hM.rect (Nat.le_refl ps.length)
  refine Classical.byContradiction fun hne => ?_
  obtain ⟨X, Y, hXY⟩ := rank_factor hM.rect (Nat.le_refl ps.length)
  obtain ⟨v, ⟨j, hj, hv⟩, hs⟩ := Lin.kernel (redN (vandM ps) ps.length).2 ps.length Y (by omega)
  refine hv (Lin.vand_zero (pointF ps) v (fun a b ha hb e => ?_) (fun i hi => ?_) j hj)
  · have := pointF_inj h e
    by_cases hab : a = b
    · exact hab
    · by_cases hlt : b < a
      · exact absurd this (hd a b hlt ha)
      · exact absurd this.symm (hd b a (by omega) hb)
  · have e1 : Lin.sum (fun t => Lin.mul (Lin.powF (pointF ps i) t) (v t)) ps.length = Lin.mm ps.length (Lin.mm (redN (vandM ps) ps.length).2 X Y) (fun t _ => v t) i 0 := by
      unfold Lin.mm
      refine Lin.sum_congr _ (fun t ht => ?_)
      congr 1
      rw [← vandM_fe h i t hi ht, hXY i t hi ht]; rfl
    rw [e1, Lin.mm_assoc]
    unfold Lin.mm
    rw [Lin.sum_congr _ (g := fun _ => Lin.zero) (fun t ht => by rw [hs t ht, Lin.mul_zero]), Lin.sum_zero]
theorem vand_less {ps : List Int} (h : El ps) (h1 : 1 ≤ ps.length) (h8 : ps.length ≤ 8) {a b : Nat} (hab : b < a) (ha : a < ps.length) (he : ps.getD a 0 = ps.getD b 0) : (redN (vandM ps) ps.length).2 < ps.length := by
  have hM := vandM_mat h h1 h8
  have hle := rank_le_cols hM.rect (Nat.le_refl ps.length)
  refine Classical.byContradiction fun hge => ?_
  obtain ⟨_, hr⟩ := inv_both hM (by omega)
  have hrow : Lin.mm ps.length (fe (vandM ps)) (fe (invM (vandM ps) ps.length)) a a = Lin.mm ps.length (fe (vandM ps)) (fe (invM (vandM ps) ps.length)) b a := by
    unfold Lin.mm
    refine Lin.sum_congr _ (fun t ht => ?_)
    rw [vandM_fe h a t ha ht, vandM_fe h b t (by omega) ht, show pointF ps a = pointF ps b from Subtype.ext (by show (ps.getD a 0).toNat % 256 = (ps.getD b 0).toNat % 256; rw [he])]
  rw [hr a a ha ha, hr b a (by omega) ha] at hrow
  unfold Lin.idm at hrow
  rw [if_pos rfl, if_neg (by omega)] at hrow
  exact Lin.one_ne hrow
end Go.Proofs.Ytkfjkdonbmjniaa
