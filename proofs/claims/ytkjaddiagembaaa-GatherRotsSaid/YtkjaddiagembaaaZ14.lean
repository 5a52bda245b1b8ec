/- Texts that belong together: MtY, RbP, RbQ. -/
import Derived.Test.YtkjaddiagembaaaZ11
import Derived.Test.YtkjaddiagembaaaZ13
/- Vandermonde's matrices: the plain laws. No program here. -/
namespace Go.Proofs.Ytkjaddiagembaaa.Lin
open Go.Proofs.Ytkjaddiagembaaa
set_option linter.unusedVariables false

def powF (x : F) (k : Nat) : F := ⟨gpow x.1 k, gpow_lt x.2 k⟩
theorem powF_zero (x : F) : powF x 0 = one := rfl
theorem powF_succ (x : F) (k : Nat) : powF x (k + 1) = mul (powF x k) x := by
  apply Subtype.ext
  show gpow x.1 (k + 1) = gmul (gpow x.1 k) x.1
  have := gpow_add x.2 k 1
  rw [this]
  congr 1
  show gmul _ _ = _
  first | exact Go.Proofs.Ytkjaddiagembaaa.mul_one _ | exact Go.Proofs.Ytkjaddiagembaaa.one_mul x.2
def evalP : List F → F → F
  | [], _ => zero
  | c :: t, x => add c (mul x (evalP t x))
def quo (a : F) : List F → List F
  | [] => []
  | [_] => []
  | _ :: d :: t => evalP (d :: t) a :: quo a (d :: t)
theorem quo_length (a : F) : ∀ P : List F, (quo a P).length = P.length - 1
  | [] => rfl
  | [_] => rfl
  | _ :: d :: t => by
    show (quo a (d :: t)).length + 1 = _
    rw [quo_length a (d :: t)]; simp
theorem quo_div (a x : F) : ∀ P : List F, evalP P x = add (evalP P a) (mul (add x a) (evalP (quo a P) x))
  | [] => by show zero = add zero (mul _ zero); rw [mul_zero, add_zero]
  | [c] => by
    show add c (mul x zero) = add (add c (mul a zero)) (mul _ zero)
    rw [mul_zero, mul_zero, mul_zero, add_zero, add_zero]
  | c :: d :: t => by
    have ih := quo_div a x (d :: t)
    show add c (mul x (evalP (d :: t) x)) = add (add c (mul a (evalP (d :: t) a))) (mul (add x a) (add (evalP (d :: t) a) (mul x (evalP (quo a (d :: t)) x))))
    rw [ih]
    generalize evalP (d :: t) a = T
    generalize evalP (quo a (d :: t)) x = Q
    -- c + x (T + (x + a) Q) = (c + a T) + (x + a) (T + x Q)
    rw [mul_add, mul_add (add x a), add_mul x a T, add_assoc c]
    congr 1
    rw [← add_assoc, ← add_assoc (mul a T), add_comm (mul a T) (mul x T), add_assoc (mul x T), add_self, add_zero]
    congr 1
    rw [← mul_assoc, ← mul_assoc, mul_comm x (add x a)]
theorem quo_zero (a : F) : ∀ P : List F, evalP P a = zero → (∀ q ∈ quo a P, q = zero) → ∀ c ∈ P, c = zero
  | [], _, _ => fun c hc => by cases hc
  | [c], h, _ => fun c' hc => by
    obtain rfl := List.mem_singleton.1 hc
    have : add c' (mul a zero) = zero := h
    rwa [mul_zero, add_zero] at this
  | c :: d :: t, h, hq => by
    have h1 : evalP (d :: t) a = zero := hq _ (List.mem_cons_self ..)
    have h2 := quo_zero a (d :: t) h1 (fun q hm => hq q (List.mem_cons_of_mem _ hm))
    have h3 : add c (mul a (evalP (d :: t) a)) = zero := h
    rw [h1, mul_zero, add_zero] at h3
    intro c' hc
    rcases List.mem_cons.1 hc with rfl | hc
    · exact h3
    · exact h2 c' hc
/-- As many roots as coefficients: all are 0. -/
theorem roots : ∀ (n : Nat) (P : List F) (xs : Nat → F), P.length ≤ n → (∀ i j, i < n → j < n → xs i = xs j → i = j) → (∀ i, i < n → evalP P (xs i) = zero) → ∀ c ∈ P, c = zero
  | 0, P, _, h, _, _ => by
    obtain rfl : P = [] := List.eq_nil_of_length_eq_zero (by omega)
    intro c hc; cases hc
  | n + 1, P, xs, h, hd, hz => by
    refine quo_zero (xs n) P (hz n (by omega)) (roots n (quo (xs n) P) xs (by rw [quo_length]; omega) (fun i j hi hj => hd i j (by omega) (by omega)) (fun i hi => ?_))
    have := quo_div (xs n) (xs i) P
    rw [hz i (by omega), hz n (by omega), zero_add] at this
    rcases mul_eq_zero' this.symm with h1 | h1
    · have := hd i n (by omega) (by omega) (add_left h1)
      omega
    · exact h1
theorem evalP_snoc (c x : F) : ∀ P : List F, evalP (P ++ [c]) x = add (evalP P x) (mul (powF x P.length) c)
  | [] => by
    show add c (mul x zero) = add zero (mul (powF x 0) c)
    rw [mul_zero, add_zero, zero_add, powF_zero, one_mul]
  | d :: t => by
    show add d (mul x (evalP (t ++ [c]) x)) = add (add d (mul x (evalP t x))) (mul (powF x (t.length + 1)) c)
    rw [evalP_snoc c x t, mul_add, add_assoc, powF_succ, mul_comm (powF x t.length) x, mul_assoc]
theorem evalP_sum (v : Nat → F) (x : F) : ∀ n, evalP ((List.range n).map v) x = sum (fun j => mul (powF x j) (v j)) n
  | 0 => rfl
  | n + 1 => by
    rw [List.range_succ, List.map_append]
    show evalP ((List.range n).map v ++ [v n]) x = add (sum _ n) (mul (powF x n) (v n))
    rw [evalP_snoc, evalP_sum v x n]; simp
/-- Different points, and a list of coefficients that is 0 at all of them. -/
theorem vand_zero {n : Nat} (xs v : Nat → F) (hd : ∀ i j, i < n → j < n → xs i = xs j → i = j) (h : ∀ i, i < n → sum (fun j => mul (powF (xs i) j) (v j)) n = zero) : ∀ j, j < n → v j = zero := by
  intro j hj
  refine roots n ((List.range n).map v) xs (by simp) hd (fun i hi => by rw [evalP_sum]; exact h i hi) _ ?_
  exact List.mem_map.2 ⟨j, List.mem_range.2 hj, rfl⟩
end Go.Proofs.Ytkjaddiagembaaa.Lin
namespace Go.Proofs.Ytkjaddiagembaaa
def vandM (ps : List Int) : List (List Int) := ps.map fun x => (List.range ps.length).map fun k => ((gpow x.toNat k : Nat) : Int)
def pointF (ps : List Int) (i : Nat) : Lin.F := ⟨(ps.getD i 0).toNat % 256, Nat.mod_lt _ (by decide)⟩
theorem vandM_mat {ps : List Int} (h : El ps) (h1 : 1 ≤ ps.length) (h8 : ps.length ≤ 8) : Mat (vandM ps) ps.length ps.length := by
  refine ⟨by simp [vandM], ⟨h1, h8⟩, ⟨h1, h8⟩, fun x hx => ?_⟩
  simp only [vandM, List.mem_map] at hx
  obtain ⟨y, hy, rfl⟩ := hx
  refine ⟨by simp, fun v hv => ?_⟩
  simp only [List.mem_map, List.mem_range] at hv
  obtain ⟨k, _, rfl⟩ := hv
  have := h y hy
  have : gpow y.toNat k < 256 := gpow_lt (by omega) k
  omega
theorem vandM_fe {ps : List Int} (h : El ps) (i k : Nat) (hi : i < ps.length) (hk : k < ps.length) : fe (vandM ps) i k = Lin.powF (pointF ps i) k := by
  apply Subtype.ext
  show at_ _ i k % 256 = gpow ((ps.getD i 0).toNat % 256) k
  have he := h.getD i
  have hb : gpow (ps.getD i 0).toNat k < 256 := gpow_lt (by omega) k
  rw [Nat.mod_eq_of_lt (show (ps.getD i 0).toNat < 256 by omega)]
  have e : (vandM ps).getD i [] = (List.range ps.length).map fun k => ((gpow (ps.getD i 0).toNat k : Nat) : Int) := by
    unfold vandM
    simp [List.getD, hi]
  unfold at_
  rw [e, range_getD, if_pos hk, Int.toNat_natCast, Nat.mod_eq_of_lt hb]
theorem pointF_inj {ps : List Int} (h : El ps) {i j : Nat} (e : pointF ps i = pointF ps j) : ps.getD i 0 = ps.getD j 0 := by
  have := congrArg Subtype.val e
  have h1 := h.getD i
  have h2 := h.getD j
  simp only [pointF] at this
  omega
theorem vand_full {ps : List Int} (h : El ps) (h1 : 1 ≤ ps.length) (h8 : ps.length ≤ 8) (hd : ∀ a b, b < a → a < ps.length → ps.getD a 0 ≠ ps.getD b 0) : (redN (vandM ps) ps.length).2 = ps.length := by
  have hM := vandM_mat h h1 h8
  have hle := rank_le_cols hM.rect (Nat.le_refl ps.length)
  refine Classical.byContradiction fun hne => ?_
  obtain ⟨X, Y, hXY⟩ := rank_factor hM.rect (Nat.le_refl ps.length)
  obtain ⟨v, ⟨j, hj, hv⟩, hs⟩ := Lin.kernel (redN (vandM ps) ps.length).2 ps.length Y (by omega)
  refine hv (Lin.vand_zero (pointF ps) v (fun a b ha hb e => ?_) (fun i hi => ?_) j hj)
  · have := pointF_inj h e
    by_cases hab : a = b
    · exact hab
    · by_cases hlt : b < a
      · exact absurd this (hd a b hlt ha)
      · exact absurd this.symm (hd b a (by omega) hb)
  · have e1 : Lin.sum (fun t => Lin.mul (Lin.powF (pointF ps i) t) (v t)) ps.length = Lin.mm ps.length (Lin.mm (redN (vandM ps) ps.length).2 X Y) (fun t _ => v t) i 0 := by
      unfold Lin.mm
      refine Lin.sum_congr _ (fun t ht => ?_)
      congr 1
      rw [← vandM_fe h i t hi ht, hXY i t hi ht]; rfl
    rw [e1, Lin.mm_assoc]
    unfold Lin.mm
    rw [Lin.sum_congr _ (g := fun _ => Lin.zero) (fun t ht => by rw [hs t ht, Lin.mul_zero]), Lin.sum_zero]
theorem vand_less {ps : List Int} (h : El ps) (h1 : 1 ≤ ps.length) (h8 : ps.length ≤ 8) {a b : Nat} (hab : b < a) (ha : a < ps.length) (he : ps.getD a 0 = ps.getD b 0) : (redN (vandM ps) ps.length).2 < ps.length := by
  have hM := vandM_mat h h1 h8
  have hle := rank_le_cols hM.rect (Nat.le_refl ps.length)
  refine Classical.byContradiction fun hge => ?_
  obtain ⟨_, hr⟩ := inv_both hM (by omega)
  have hrow : Lin.mm ps.length (fe (vandM ps)) (fe (invM (vandM ps) ps.length)) a a = Lin.mm ps.length (fe (vandM ps)) (fe (invM (vandM ps) ps.length)) b a := by
    unfold Lin.mm
    refine Lin.sum_congr _ (fun t ht => ?_)
    rw [vandM_fe h a t ha ht, vandM_fe h b t (by omega) ht, show pointF ps a = pointF ps b from Subtype.ext (by show (ps.getD a 0).toNat % 256 = (ps.getD b 0).toNat % 256; rw [he])]
  rw [hr a a ha ha, hr b a (by omega) ha] at hrow
  unfold Lin.idm at hrow
  rw [if_pos rfl, if_neg (by omega)] at hrow
  exact Lin.one_ne hrow
end Go.Proofs.Ytkjaddiagembaaa
/- RebuildAll, plain: the factors' matrices are of full rank; counts; what filled and endN come to. -/
namespace Go.Proofs.Ytkjaddiagembaaa
open Go.RowKit
set_option linter.unusedVariables false
set_option maxRecDepth 100000

theorem facM_fe {hs us : List Nat} {K : Nat} (h1 : hs.length = K) (h2 : us.length = K) (hK : 1 ≤ K) (hK3 : K ≤ 8) (b c : Nat) (hb : b < K) (hc : c < K) : fe (facM hs us) b c = ⟨twos (hs.getD c 0 * us.getD b 0), twos_lt _⟩ := by
  apply Subtype.ext
  rw [(facM_mat h1 h2 hK hK3).rect.fe]
  have e1 : (facM hs us).getD b [] = hs.map fun i => ((twos (i * us.getD b 0) : Nat) : Int) := by
    simp [facM, List.getD, show b < us.length by omega]
  unfold at_
  rw [e1]
  simp [List.getD, show c < hs.length by omega]
theorem gpow_twos (m : Nat) : ∀ b, gpow (twos m) b = twos (m * b)
  | 0 => rfl
  | b + 1 => by
    show gmul (gpow (twos m) b) (twos m) = _
    rw [gpow_twos m b, ← twos_add]; rfl
theorem fac_full {hs us : List Nat} {K s d : Nat} (h1 : hs.length = K) (h2 : us.length = K) (hK : 1 ≤ K) (hK3 : K ≤ 8) (h12 : ∀ c, c < K → hs.getD c 0 < 12) (hd : ∀ a b, b < a → a < K → hs.getD a 0 ≠ hs.getD b 0) (hs0 : d = 1 ∨ d = 2) (hu : ∀ b, b < K → us.getD b 0 = s + d * b) : (redN (facM hs us) K).2 = K := by
  obtain ⟨ps, hps⟩ : ∃ ps : List Int, ps = hs.map fun h => ((twos (h * d) : Nat) : Int) := ⟨_, rfl⟩
  have hpl : ps.length = K := by rw [hps]; simp [h1]
  have hel : El ps := fun v hv => by
    rw [hps] at hv
    obtain ⟨x, _, rfl⟩ := List.mem_map.1 hv
    have := twos_lt (x * d); omega
  have hpg : ∀ c, c < K → ps.getD c 0 = ((twos (hs.getD c 0 * d) : Nat) : Int) := fun c hc => by
    rw [hps]; simp [List.getD, show c < hs.length by omega]
  have hV := vand_full hel (by omega) (by omega) (fun a b hab ha e => by
    rw [hpg a (by omega), hpg b (by omega)] at e
    have e2 : twos (hs.getD a 0 * d) = twos (hs.getD b 0 * d) := by omega
    have b1 := h12 a (by omega)
    have b2 := h12 b (by omega)
    have := twos_inj (by rcases hs0 with rfl | rfl <;> omega) (by rcases hs0 with rfl | rfl <;> omega) e2
    exact hd a b hab (by omega) (by rcases hs0 with rfl | rfl <;> omega))
  rw [hpl] at hV
  have hM := vandM_mat hel (by omega) (by omega)
  rw [hpl] at hM
  obtain ⟨_, hI⟩ := inv_both hM hV
  have hA := facM_mat h1 h2 hK hK3
  refine full_of_left hA (Q := fun c j => Lin.mul (Lin.inv ⟨twos (hs.getD c 0 * s), twos_lt _⟩) (fe (invM (vandM ps) K) j c)) fun c e hc he => ?_
  have key : ∀ t, t < K → Lin.mul (Lin.mul (Lin.inv ⟨twos (hs.getD c 0 * s), twos_lt _⟩) (fe (invM (vandM ps) K) t c)) (fe (facM hs us) t e) = Lin.mul (Lin.mul (Lin.inv ⟨twos (hs.getD c 0 * s), twos_lt _⟩) ⟨twos (hs.getD e 0 * s), twos_lt _⟩) (Lin.mul (fe (vandM ps) e t) (fe (invM (vandM ps) K) t c)) := fun t ht => by
    have e1 : fe (facM hs us) t e = Lin.mul ⟨twos (hs.getD e 0 * s), twos_lt _⟩ (fe (vandM ps) e t) := by
      rw [facM_fe h1 h2 hK hK3 t e ht he, vandM_fe hel e t (by omega) (by omega)]
      apply Subtype.ext
      show twos _ = gmul (twos _) (gpow ((ps.getD e 0).toNat % 256) t)
      rw [hpg e he, Int.toNat_natCast, Nat.mod_eq_of_lt (twos_lt _), gpow_twos, ← twos_add, hu t ht]
      congr 1
      rw [Nat.mul_add, Nat.mul_assoc]
    rw [e1]
    generalize Lin.inv ⟨twos (hs.getD c 0 * s), twos_lt _⟩ = p
    generalize fe (invM (vandM ps) K) t c = q
    generalize (⟨twos (hs.getD e 0 * s), twos_lt _⟩ : Lin.F) = r
    generalize fe (vandM ps) e t = u
    rw [Lin.mul_assoc, Lin.mul_assoc, ← Lin.mul_assoc q r u, Lin.mul_comm q r, Lin.mul_assoc r q u, Lin.mul_comm q u]
  unfold Lin.mm
  rw [Lin.sum_congr K key, ← Lin.sum_mul_l]
  have := hI e c he hc
  unfold Lin.mm at this
  rw [this]
  unfold Lin.idm
  by_cases hce : c = e
  · subst hce
    rw [if_pos rfl, Lin.mul_one]
    exact Lin.inv_mul (fun h => twos_ne_zero _ (congrArg Subtype.val h))
  · rw [if_neg (fun h => hce h.symm), if_neg hce, Lin.mul_zero]
/-- Strictly ascending. -/
def Asc (l : List Nat) : Prop := l.Pairwise (· < ·)
theorem holesN_asc (gone : List Bool) (n : Nat) : ∀ k, Asc (holesN gone n k)
  | 0 => List.Pairwise.nil
  | k + 1 => by
    unfold holesN
    split
    · refine List.pairwise_append.2 ⟨holesN_asc gone n k, List.pairwise_singleton _ _, fun x hx y hy => ?_⟩
      rw [List.mem_singleton.1 hy]
      exact (holesN_mem gone n k x hx).1
    · exact holesN_asc gone n k
theorem usedN_asc (gone : List Bool) (n K : Nat) : ∀ t, Asc (usedN gone n K t)
  | 0 => List.Pairwise.nil
  | t + 1 => by
    unfold usedN
    split
    · refine List.pairwise_append.2 ⟨usedN_asc gone n K t, List.pairwise_singleton _ _, fun x hx y hy => ?_⟩
      rw [List.mem_singleton.1 hy]
      exact (usedN_mem gone n K t x hx).1
    · exact usedN_asc gone n K t
theorem Asc.lt {l : List Nat} (h : Asc l) (a b : Nat) (hab : b < a) (ha : a < l.length) : l.getD b 0 < l.getD a 0 := by
  have := List.pairwise_iff_getElem.1 h b a (by omega) ha hab
  simpa [List.getD, ha, show b < l.length by omega] using this
theorem holesN_ext (gone : List Bool) (n : Nat) : ∀ m, holesN gone n (n + m) = holesN gone n n
  | 0 => rfl
  | m + 1 => by
    show holesN gone n (n + m + 1) = _
    conv => { lhs; unfold holesN }
    rw [if_neg (fun h => by have := h.2; omega), holesN_ext gone n m]
theorem holesN_cnt (gone : List Bool) (n : Nat) : ∀ k, k ≤ n → (holesN gone n k).length = cntB gone k
  | 0, _ => rfl
  | k + 1, h => by
    have ih := holesN_cnt gone n k (by omega)
    show (if _ then _ else _ : List Nat).length = cntB gone k + if gone.getD k false then 1 else 0
    by_cases hg : gone.getD k false = true
    · rw [if_pos ⟨hg, by omega⟩, if_pos hg, List.length_append, ih]; rfl
    · rw [if_neg (fun h => hg h.1), if_neg hg, ih]; rfl
theorem usedN_cnt (gone : List Bool) (n K : Nat) : ∀ t, (usedN gone n K t).length = min K (t + cntB gone n - cntB gone (n + t)) ∧ cntB gone (n + t) ≤ t + cntB gone n
  | 0 => ⟨by simp [usedN], by simp⟩
  | t + 1 => by
    obtain ⟨ih, ih2⟩ := usedN_cnt gone n K t
    have e : cntB gone (n + (t + 1)) = cntB gone (n + t) + if gone.getD (n + t) false then 1 else 0 := rfl
    have e2 : usedN gone n K (t + 1) = if (usedN gone n K t).length < K ∧ gone.getD (n + t) false = false then usedN gone n K t ++ [t] else usedN gone n K t := rfl
    rw [e, e2]
    by_cases hg : gone.getD (n + t) false = true
    · rw [if_pos hg, if_neg (fun h => by rw [hg] at h; cases h.2), ih]
      exact ⟨by omega, by omega⟩
    · have hg2 : gone.getD (n + t) false = false := by simpa using hg
      rw [if_neg hg]
      by_cases hl : (usedN gone n K t).length < K
      · rw [if_pos ⟨hl, hg2⟩, List.length_append, ih]
        exact ⟨by simp; omega, by omega⟩
      · rw [if_neg (fun h => hl h.1), ih]
        exact ⟨by omega, by omega⟩
theorem cnt_mark {hs : List Bool} (n : Nat) : ∀ (P : List Nat), P.Nodup → (∀ x ∈ P, x < hs.length ∧ x < n) → (∀ x ∈ P, hs.getD x false = false) → cntB (markB hs P) n = cntB hs n + P.length := by
  intro P
  induction P generalizing hs with
  | nil => intro _ _ _; rfl
  | cons x P ih =>
    intro hd hl hf
    show cntB (markB (hs.set x true) P) n = _
    have hx := hl x (List.mem_cons_self ..)
    rw [ih (List.nodup_cons.1 hd).2 (fun y hy => by rw [List.length_set]; exact hl y (List.mem_cons_of_mem _ hy)) (fun y hy => ?_), cntB_set hs x hx.1 (hf x (List.mem_cons_self ..)), if_pos hx.2, List.length_cons]
    · omega
    · have hne : x ≠ y := fun e => (List.nodup_cons.1 hd).1 (by rw [e]; exact hy)
      rw [List.getD, List.getElem?_set_ne hne]
      exact hf y (List.mem_cons_of_mem _ hy)
end Go.Proofs.Ytkjaddiagembaaa
/- RebuildAll, plain: what filled and endN come to: the columns of which some were lost. -/
namespace Go.Proofs.Ytkjaddiagembaaa
open Go.RowKit
set_option linter.unusedVariables false
set_option maxRecDepth 100000

/-- All columns, of which some were lost and stand as noughts or as nothing. -/
structure Torn (D : List (List Int)) (n size p : Nat) (gone : List Bool) (S : List (List Int)) : Prop where
  cols : Cols D size
  byts : Byts D
  dl : D.length = n
  len : S.length = n + p
  hole : ∀ i, i < n → gone.getD i false = true → S.getD i [] = List.replicate size 0
  kept : ∀ i, i < n → gone.getD i false = false → S.getD i [] = D.getD i []
  par : ∀ j, j < p → gone.getD (n + j) false = false → S.getD (n + j) [] = encN D size j n
theorem take_getD (L : List (List Int)) (n i : Nat) (h : i < n) : (L.take n).getD i [] = L.getD i [] := by
  rw [List.getD, List.getElem?_take, if_pos h]; rfl
theorem xs_snoc (f : Nat → Nat) (l : List Nat) (k : Nat) : xs_ (fun c => f ((l ++ [k]).getD c 0)) (l ++ [k]).length = xs_ (fun c => f (l.getD c 0)) l.length ^^^ f k := by
  rw [List.length_append]
  show xs_ _ (l.length) ^^^ f ((l ++ [k]).getD l.length 0) = _
  rw [show (l ++ [k]).getD l.length 0 = k by simp [List.getD]]
  congr 1
  exact xs_congr _ (fun i hi => by rw [show (l ++ [k]).getD i 0 = l.getD i 0 by simp [List.getD, List.getElem?_append_left hi]])
theorem enc_holes {D S : List (List Int)} {n size p : Nat} {gone : List Bool} (h : Torn D n size p gone S) (j m : Nat) (hm : m < size) : ∀ k, k ≤ n → encE (S.take n) j m k ^^^ encE D j m k = xs_ (fun c => gmul (twos ((holesN gone n k).getD c 0 * j)) ((D.getD ((holesN gone n k).getD c 0) []).getD m 0).toNat) (holesN gone n k).length
  | 0, _ => by show (0 : Nat) ^^^ 0 = 0; rfl
  | k + 1, hk => by
    have ih := enc_holes h j m hm k (by omega)
    have e : encE (S.take n) j m (k + 1) ^^^ encE D j m (k + 1) = (encE (S.take n) j m k ^^^ encE D j m k) ^^^ (gmul (twos (k * j)) (((S.take n).getD k []).getD m 0).toNat ^^^ gmul (twos (k * j)) ((D.getD k []).getD m 0).toNat) := by
      show (encE (S.take n) j m k ^^^ _) ^^^ (encE D j m k ^^^ _) = _
      rw [xor4]
    rw [e, take_getD _ _ _ (by omega), ih]
    by_cases hg : gone.getD k false = true
    · have e2 : holesN gone n (k + 1) = holesN gone n k ++ [k] := by
        conv => { lhs; unfold holesN }
        rw [if_pos ⟨hg, by omega⟩]
      rw [e2, xs_snoc (fun x => gmul (twos (x * j)) ((D.getD x []).getD m 0).toNat), h.hole k (by omega) hg]
      congr 1
      rw [show (List.replicate size (0 : Int)).getD m 0 = 0 by simp [List.getD, hm]]
      show gmul _ 0 ^^^ _ = _
      rw [gmul_zero_r, Nat.zero_xor]
    · have e2 : holesN gone n (k + 1) = holesN gone n k := by
        conv => { lhs; unfold holesN }
        rw [if_neg (fun h => hg h.1)]
      rw [e2, h.kept k (by omega) (by simpa using hg), Nat.xor_self, Nat.xor_zero]
theorem wantC_at {D S : List (List Int)} {n size p : Nat} {gone : List Bool} (h : Torn D n size p gone S) (u m : Nat) (hm : m < size) (hu : u < p) (hg : gone.getD (n + u) false = false) :
    (wantC S n size u).getD m 0 = ((xs_ (fun c => gmul (twos ((holesN gone n n).getD c 0 * u)) ((D.getD ((holesN gone n n).getD c 0) []).getD m 0).toNat) (holesN gone n n).length : Nat) : Int) := by
  unfold wantC
  have hb := (encN_byt (S.take n) size u n).getD m
  have hb2 := (encN_byt D size u n).getD m
  rw [mixN_getD _ _ _ m (by rw [encN_length]; exact hm), if_pos hm, mixI_eq (by decide) hb, h.par u hu hg, one_mul (by omega), encN_E _ _ _ _ hm, encN_E _ _ _ _ hm, Int.toNat_natCast, Int.toNat_natCast, enc_holes h u m hm n (Nat.le_refl _)]
theorem get_getD (l : List Int) (m : Nat) (h : m < l.length) : l[m] = l.getD m 0 := by simp [List.getD, h]
theorem wantC_len (S : List (List Int)) (n size u : Nat) : (wantC S n size u).length = size := by unfold wantC; rw [mixN_length, encN_length]
theorem fillRow_at {X : List Int} {W : List (List Int)} {size : Nat} {x0 : List Int} (hX : El X) (h0 : Byt x0) (hl : x0.length = size) (m : Nat) (hm : m < size) : ∀ b, (fillRow X W size x0 b).getD m 0 = ((((x0.getD m 0).toNat ^^^ xs_ (fun t => gmul (X.getD t 0).toNat (((W.getD t []).getD m 0).toNat)) b : Nat)) : Int)
  | 0 => by
    have := h0.getD m
    show x0.getD m 0 = (((x0.getD m 0).toNat ^^^ 0 : Nat) : Int)
    rw [Nat.xor_zero]; omega
  | b + 1 => by
    have ih := fillRow_at hX h0 hl (W := W) m hm b
    have hx := hX.getD b
    have hb := (fillRow_byt (W := W) (size := size) hX h0 b).getD m
    show (mixN _ (fillRow X W size x0 b) (W.getD b []) size).getD m 0 = _
    rw [mixN_getD _ _ _ m (by rw [fillRow_length, hl]; exact hm), if_pos hm, mixI_eq (by omega) hb, ih, Int.toNat_natCast, Nat.xor_assoc]
    rfl
theorem lin_back {K : Nat} {M : List (List Int)} (hM : Mat M K K) (hf : (redN M K).2 = K) (v : Nat → Nat) (hv : ∀ c, v c < 256) (a : Nat) (ha : a < K) : xs_ (fun b => gmul (at_ (invM M K) a b) (xs_ (fun c => gmul (at_ M b c) (v c)) K)) K = v a := by
  have hI := inv_both hM hf
  have h1 : Lin.mm K (fe (invM M K)) (Lin.mm K (fe M) (fun c _ => ⟨v c, hv c⟩)) a 0 = ⟨v a, hv a⟩ := by
    rw [← Lin.mm_assoc, Lin.mm_congr (A' := Lin.idm) (B' := fun c _ => ⟨v c, hv c⟩) (fun t ht => hI.1 a t ha ht) (fun _ _ => rfl)]
    exact Lin.idm_mm K _ a 0 ha
  have h2 := congrArg Subtype.val h1
  unfold Lin.mm at h2
  rw [sum_val] at h2
  refine Eq.trans (xs_congr K fun b hb => ?_) h2
  show gmul _ _ = gmul (fe (invM M K) a b).1 (Lin.sum _ K).1
  rw [sum_val, (invM_mat hM).rect.fe]
  congr 1
  refine xs_congr K fun c hc => ?_
  show gmul _ _ = gmul (fe M b c).1 (v c)
  rw [hM.rect.fe]
theorem facM_at {hs us : List Nat} {K : Nat} (h1 : hs.length = K) (h2 : us.length = K) (hK : 1 ≤ K) (hK3 : K ≤ 8) (b c : Nat) (hb : b < K) (hc : c < K) : at_ (facM hs us) b c = twos (hs.getD c 0 * us.getD b 0) := by
  rw [← (facM_mat h1 h2 hK hK3).rect.fe, facM_fe h1 h2 hK hK3 b c hb hc]
theorem wants_get (L : List (List Int)) (n size : Nat) (us : List Nat) (b : Nat) (hb : b < us.length) : (wants L n size us).getD b [] = wantC L n size (us.getD b 0) := by
  simp [wants, List.getD, hb]
/-- One hole filled. -/
theorem fill_one {D S : List (List Int)} {n size p K : Nat} {gone : List Bool} {us : List Nat} (h : Torn D n size p gone S) (hl : (holesN gone n n).length = K) (ul : us.length = K) (hK3 : K ≤ 8) (hus : ∀ b, b < K → us.getD b 0 < p ∧ gone.getD (n + us.getD b 0) false = false)
    (hf : 1 ≤ K → (redN (facM (holesN gone n n) us) K).2 = K) (a : Nat) (ha : a < K) : fillRow ((invM (facM (holesN gone n n) us) K).getD a []) (wants S n size us) size (List.replicate size 0) K = D.getD ((holesN gone n n).getD a 0) [] := by
  have hM := facM_mat hl ul (by omega) hK3
  have hin : (holesN gone n n).getD a 0 < n := by
    refine (holesN_mem gone n n _ ?_).1
    rw [show (holesN gone n n).getD a 0 = (holesN gone n n)[a]'(by omega) by simp [List.getD, show a < (holesN gone n n).length by omega]]
    exact List.getElem_mem _
  have hz : Byt (List.replicate size (0 : Int)) := fun x hx => by rw [(List.mem_replicate.1 hx).2]; decide
  have hdl : (D.getD ((holesN gone n n).getD a 0) []).length = size := h.cols.get _ (by rw [h.dl]; exact hin)
  apply List.ext_getElem (by rw [fillRow_length, List.length_replicate, hdl])
  intro m h1 h2
  have hm : m < size := by omega
  have e := fillRow_at ((invM_mat hM).rect.el a) hz (List.length_replicate ..) (W := wants S n size us) m hm K
  have g1 : (fillRow ((invM (facM (holesN gone n n) us) K).getD a []) (wants S n size us) size (List.replicate size 0) K)[m] = (fillRow ((invM (facM (holesN gone n n) us) K).getD a []) (wants S n size us) size (List.replicate size 0) K).getD m 0 := get_getD _ _ h1
  have g2 : (D.getD ((holesN gone n n).getD a 0) [])[m] = (D.getD ((holesN gone n n).getD a 0) []).getD m 0 := get_getD _ _ h2
  rw [g1, g2, e, show (List.replicate size (0 : Int)).getD m 0 = 0 by simp [List.getD, hm]]
  show (((0 ^^^ _ : Nat)) : Int) = _
  rw [Nat.zero_xor]
  have hb := (h.byts.get ((holesN gone n n).getD a 0)).getD m
  have key := lin_back hM (hf (by omega)) (fun c => ((D.getD ((holesN gone n n).getD c 0) []).getD m 0).toNat % 256) (fun c => Nat.mod_lt _ (by decide)) a ha
  have hmod : ∀ c, ((D.getD ((holesN gone n n).getD c 0) []).getD m 0).toNat % 256 = ((D.getD ((holesN gone n n).getD c 0) []).getD m 0).toNat := fun c => by
    have := (h.byts.get ((holesN gone n n).getD c 0)).getD m
    exact Nat.mod_eq_of_lt (by omega)
  have e2 : xs_ (fun t => gmul (((invM (facM (holesN gone n n) us) K).getD a []).getD t 0).toNat (((wants S n size us).getD t []).getD m 0).toNat) K = ((D.getD ((holesN gone n n).getD a 0) []).getD m 0).toNat := by
    refine Eq.trans (xs_congr K fun b hb => ?_) (key.trans (hmod a))
    show gmul _ _ = gmul (at_ _ a b) _
    unfold at_
    congr 1
    rw [wants_get _ _ _ _ _ (by omega), wantC_at h _ m hm (hus b hb).1 (hus b hb).2, Int.toNat_natCast, hl]
    refine xs_congr K fun c hc => ?_
    show _ = gmul (at_ (facM (holesN gone n n) us) b c) _
    rw [facM_at hl ul (by omega) hK3 b c hb hc, hmod c]
  rw [e2]; omega
theorem fillN_rows {D S : List (List Int)} {n size p K : Nat} {gone : List Bool} {us : List Nat} (h : Torn D n size p gone S) (hl : (holesN gone n n).length = K) (ul : us.length = K) (hK3 : K ≤ 8) (hus : ∀ b, b < K → us.getD b 0 < p ∧ gone.getD (n + us.getD b 0) false = false)
    (hf : 1 ≤ K → (redN (facM (holesN gone n n) us) K).2 = K) : ∀ a, a ≤ K → (∀ b, b < a → (fillN (holesN gone n n) (invM (facM (holesN gone n n) us) K) (wants S n size us) size K S a).getD ((holesN gone n n).getD b 0) [] = D.getD ((holesN gone n n).getD b 0) []) ∧
      ∀ i, (∀ b, b < a → (holesN gone n n).getD b 0 ≠ i) → (fillN (holesN gone n n) (invM (facM (holesN gone n n) us) K) (wants S n size us) size K S a).getD i [] = S.getD i []
  | 0, _ => ⟨fun b hb => absurd hb (by omega), fun i _ => rfl⟩
  | a + 1, ha => by
    obtain ⟨i1, i2⟩ := fillN_rows h hl ul hK3 hus hf a (by omega)
    have hmem := holesN_mem gone n n ((holesN gone n n).getD a 0) (by
      rw [show (holesN gone n n).getD a 0 = (holesN gone n n)[a]'(by omega) by simp [List.getD, show a < (holesN gone n n).length by omega]]
      exact List.getElem_mem _)
    have hne : ∀ b, b < a → (holesN gone n n).getD b 0 ≠ (holesN gone n n).getD a 0 := fun b hb => by
      have := (holesN_asc gone n n).lt a b hb (by omega); omega
    have hlen : (holesN gone n n).getD a 0 < (fillN (holesN gone n n) (invM (facM (holesN gone n n) us) K) (wants S n size us) size K S a).length := by rw [fillN_length, h.len]; omega
    have hstep : (fillN (holesN gone n n) (invM (facM (holesN gone n n) us) K) (wants S n size us) size K S (a + 1)) = (fillN (holesN gone n n) (invM (facM (holesN gone n n) us) K) (wants S n size us) size K S a).set ((holesN gone n n).getD a 0) (D.getD ((holesN gone n n).getD a 0) []) := by
      conv => { lhs; unfold fillN }
      rw [i2 _ hne, h.hole _ hmem.1 hmem.2.2, fill_one h hl ul hK3 hus hf a (by omega)]
    rw [hstep]
    refine ⟨fun b hb => ?_, fun i hi => ?_⟩
    · rw [getDL_set _ _ _ _ hlen]
      by_cases e : b = a
      · subst e; rw [if_pos rfl]
      · rw [if_neg (fun e2 => hne b (by omega) e2.symm)]; exact i1 b (by omega)
    · rw [getDL_set _ _ _ _ hlen, if_neg (hi a (by omega))]
      exact i2 i (fun b hb => hi b (by omega))
theorem holesN_has (gone : List Bool) (n : Nat) : ∀ k i, i < k → i < n → gone.getD i false = true → i ∈ holesN gone n k
  | 0, i, h, _, _ => absurd h (by omega)
  | k + 1, i, h, h2, hg => by
    unfold holesN
    by_cases e : i = k
    · subst e; rw [if_pos ⟨hg, h2⟩]; simp
    · have := holesN_has gone n k i (by omega) h2 hg
      split
      · exact List.mem_append_left _ this
      · exact this
theorem filled_rows {D S : List (List Int)} {n size p K : Nat} {gone : List Bool} {us : List Nat} (h : Torn D n size p gone S) (hl : (holesN gone n n).length = K) (ul : us.length = K) (hK3 : K ≤ 8) (hus : ∀ b, b < K → us.getD b 0 < p ∧ gone.getD (n + us.getD b 0) false = false)
    (hf : 1 ≤ K → (redN (facM (holesN gone n n) us) K).2 = K) (i : Nat) : (filled S n size K (holesN gone n n) us).getD i [] = if i < n then D.getD i [] else S.getD i [] := by
  obtain ⟨i1, i2⟩ := fillN_rows h hl ul hK3 hus hf K (Nat.le_refl _)
  unfold filled
  by_cases hi : i < n
  · rw [if_pos hi]
    by_cases hg : gone.getD i false = true
    · obtain ⟨b, hb, e⟩ := List.mem_iff_getElem.1 (holesN_has gone n n i hi hi hg)
      have e2 : (holesN gone n n).getD b 0 = i := by rw [← e]; simp [List.getD, hb]
      have := i1 b (by omega)
      rwa [e2] at this
    · rw [i2 i (fun b hb e => hg ?_), h.kept i hi (by simpa using hg)]
      rw [← e]
      refine (holesN_mem gone n n _ ?_).2.2
      rw [show (holesN gone n n).getD b 0 = (holesN gone n n)[b]'(by omega) by simp [List.getD, show b < (holesN gone n n).length by omega]]
      exact List.getElem_mem _
  · rw [if_neg hi]
    refine i2 i (fun b hb e => hi ?_)
    rw [← e]
    refine (holesN_mem gone n n _ ?_).2.1
    rw [show (holesN gone n n).getD b 0 = (holesN gone n n)[b]'(by omega) by simp [List.getD, show b < (holesN gone n n).length by omega]]
    exact List.getElem_mem _
theorem list_ext_getD {A B : List (List Int)} (hl : A.length = B.length) (h : ∀ i, i < A.length → A.getD i [] = B.getD i []) : A = B := by
  apply List.ext_getElem hl
  intro i h1 h2
  have := h i h1
  simpa [List.getD, h1, h2] using this
theorem endN_rows {D F S : List (List Int)} {n size p : Nat} {gone : List Bool} (h : Torn D n size p gone S) (hF : ∀ i, F.getD i [] = if i < n then D.getD i [] else S.getD i []) (hFl : F.length = n + p) : ∀ t, t ≤ p → ∀ i, (endN gone n size F t).getD i [] = if i < n then D.getD i [] else if i < n + t then encN D size (i - n) n else S.getD i []
  | 0, _, i => by
    show F.getD i [] = _
    rw [hF i]
    by_cases hi : i < n
    · rw [if_pos hi, if_pos hi]
    · rw [if_neg hi, if_neg hi, if_neg (by omega)]
  | t + 1, ht, i => by
    have ih := endN_rows h hF hFl t (by omega)
    have htake : (endN gone n size F t).take n = D := by
      have hel : (endN gone n size F t).length = n + p := by
        have : ∀ t, (endN gone n size F t).length = F.length := fun t => by
          induction t with
          | zero => rfl
          | succ t iht => unfold endN; split
                          · rw [List.length_set, iht]
                          · exact iht
        rw [this, hFl]
      refine list_ext_getD (by rw [List.length_take, hel, h.dl]; omega) (fun i hi => ?_)
      have hi' : i < n := by rw [List.length_take] at hi; omega
      rw [take_getD _ _ _ hi', ih i, if_pos hi']
    have hel : (endN gone n size F t).length = n + p := by
      have : ∀ t, (endN gone n size F t).length = F.length := fun t => by
        induction t with
        | zero => rfl
        | succ t iht => unfold endN; split
                        · rw [List.length_set, iht]
                        · exact iht
      rw [this, hFl]
    conv => { lhs; unfold endN }
    by_cases hg : gone.getD (n + t) false = true
    · rw [if_pos hg, htake, getDL_set _ _ _ _ (by rw [hel]; omega)]
      by_cases e : n + t = i
      · subst e
        rw [if_pos rfl, if_neg (by omega), if_pos (by omega), Nat.add_sub_cancel_left]
      · rw [if_neg e, ih i]
        by_cases hi : i < n
        · rw [if_pos hi, if_pos hi]
        · rw [if_neg hi, if_neg hi]
          by_cases hi2 : i < n + t
          · rw [if_pos hi2, if_pos (by omega)]
          · rw [if_neg hi2, if_neg (by omega)]
    · rw [if_neg hg, ih i]
      by_cases hi : i < n
      · rw [if_pos hi, if_pos hi]
      · rw [if_neg hi, if_neg hi]
        by_cases hi2 : i < n + t
        · rw [if_pos hi2, if_pos (by omega)]
        · rw [if_neg hi2]
          by_cases e : i = n + t
          · subst e
            rw [if_pos (by omega), Nat.add_sub_cancel_left, h.par t (by omega) (by simpa using hg)]
          · rw [if_neg (by omega)]
theorem endN_length (gone : List Bool) (n size : Nat) (L : List (List Int)) : ∀ t, (endN gone n size L t).length = L.length
  | 0 => rfl
  | t + 1 => by
    unfold endN
    split
    · rw [List.length_set, endN_length gone n size L t]
    · exact endN_length gone n size L t
/-- All columns are there again. -/
theorem rebuilt_all {D S : List (List Int)} {n size p K : Nat} {gone : List Bool} {us : List Nat} (h : Torn D n size p gone S) (hl : (holesN gone n n).length = K) (ul : us.length = K) (hK3 : K ≤ 8) (hus : ∀ b, b < K → us.getD b 0 < p ∧ gone.getD (n + us.getD b 0) false = false)
    (hf : 1 ≤ K → (redN (facM (holesN gone n n) us) K).2 = K) : endN gone n size (filled S n size K (holesN gone n n) us) p = D ++ encAll D size p := by
  have hFl : (filled S n size K (holesN gone n n) us).length = n + p := by unfold filled; rw [fillN_length, h.len]
  have hr := endN_rows h (filled_rows h hl ul hK3 hus hf) hFl p (Nat.le_refl _)
  refine list_ext_getD (by rw [endN_length, hFl, List.length_append, h.dl]; simp [encAll]) (fun i hi => ?_)
  rw [endN_length, hFl] at hi
  rw [hr i]
  by_cases hin : i < n
  · rw [if_pos hin, List.getD, List.getD, List.getElem?_append_left (by rw [h.dl]; exact hin)]
  · rw [if_neg hin, if_pos hi]
    have e : (D ++ encAll D size p).getD i [] = (encAll D size p).getD (i - n) [] := by rw [List.getD, List.getD, List.getElem?_append_right (by rw [h.dl]; omega), h.dl]
    rw [e, encAll_get _ _ _ _ (by omega), h.dl]
theorem getD_mem (l : List Nat) (i : Nat) (h : i < l.length) : l.getD i 0 ∈ l := by
  rw [show l.getD i 0 = l[i] by simp [List.getD, h]]; exact List.getElem_mem _
theorem fac_full3 {hs us : List Nat} {K : Nat} (h1 : hs.length = K) (h2 : us.length = K) (hK : 1 ≤ K) (hK3 : K ≤ 3) (ha : Asc hs) (hb : Asc us) (h12 : ∀ x ∈ hs, x < 12) (hu : ∀ x ∈ us, x < 3) : (redN (facM hs us) K).2 = K := by
  have hh : ∀ c, c < K → hs.getD c 0 < 12 := fun c hc => h12 _ (getD_mem hs c (by omega))
  have hd : ∀ a b, b < a → a < K → hs.getD a 0 ≠ hs.getD b 0 := fun a b hab hak => by have := ha.lt a b hab (by omega); omega
  have hx : ∀ c, c < K → us.getD c 0 < 3 := fun c hc => hu _ (getD_mem us c (by omega))
  have hy : ∀ a b, b < a → a < K → us.getD b 0 < us.getD a 0 := fun a b hab hak => hb.lt a b hab (by omega)
  obtain rfl | rfl | rfl : K = 1 ∨ K = 2 ∨ K = 3 := by omega
  · exact fac_full (s := us.getD 0 0) (d := 1) h1 h2 hK (by omega) hh hd (.inl rfl) (fun b hb => by rw [show b = 0 by omega]; rfl)
  · have q0 := hx 0 (by omega)
    have q1 := hx 1 (by omega)
    have q2 := hy 1 0 (by omega) (by omega)
    exact fac_full (s := us.getD 0 0) (d := us.getD 1 0 - us.getD 0 0) h1 h2 hK (by omega) hh hd (by omega) (fun b hb => by
      obtain rfl | rfl : b = 0 ∨ b = 1 := by omega
      · simp
      · omega)
  · have q0 := hx 0 (by omega)
    have q1 := hx 1 (by omega)
    have q2 := hy 1 0 (by omega) (by omega)
    have q3 := hx 2 (by omega)
    have q4 := hy 2 1 (by omega) (by omega)
    exact fac_full (s := 0) (d := 1) h1 h2 hK (by omega) hh hd (.inl rfl) (fun b hb => by
      obtain rfl | rfl | rfl : b = 0 ∨ b = 1 ∨ b = 2 := by omega
      · omega
      · omega
      · omega)
end Go.Proofs.Ytkjaddiagembaaa
