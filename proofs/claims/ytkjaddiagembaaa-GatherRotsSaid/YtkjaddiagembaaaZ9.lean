/- Texts that belong together: Lin, MtR. -/
import Derived.Test.YtkjaddiagembaaaZ2
import Derived.Test.YtkjaddiagembaaaZ8
/- Linear algebra over the field of 256 elements. No program here. -/
namespace Go.Proofs.Ytkjaddiagembaaa.Lin
open Go.Proofs.Ytkjaddiagembaaa

abbrev F := {x : Nat // x < 256}
instance : Inhabited F := ⟨⟨0, by decide⟩⟩
def zero : F := ⟨0, by decide⟩
def one : F := ⟨1, by decide⟩
def add (a b : F) : F := ⟨a.1 ^^^ b.1, xor_lt a.2 b.2⟩
def mul (a b : F) : F := ⟨gmul a.1 b.1, gmul_lt a.2⟩
def inv (a : F) : F := ⟨ginv a.1, ginv_lt a.2⟩
theorem add_comm (a b : F) : add a b = add b a := Subtype.ext (Nat.xor_comm _ _)
theorem add_assoc (a b c : F) : add (add a b) c = add a (add b c) := Subtype.ext (Nat.xor_assoc _ _ _)
theorem add_self (a : F) : add a a = zero := Subtype.ext (Nat.xor_self _)
theorem add_zero (a : F) : add a zero = a := Subtype.ext (Nat.xor_zero _)
theorem zero_add (a : F) : add zero a = a := Subtype.ext (Nat.zero_xor _)
theorem mul_comm (a b : F) : mul a b = mul b a := Subtype.ext (gmul_comm a.2 b.2)
theorem mul_assoc (a b c : F) : mul (mul a b) c = mul a (mul b c) := Subtype.ext (gmul_assoc c.1 a.2 b.2)
theorem mul_add (a b c : F) : mul a (add b c) = add (mul a b) (mul a c) := Subtype.ext (gmul_xor_r a.2 b.2 c.2)
theorem add_mul (a b c : F) : mul (add a b) c = add (mul a c) (mul b c) := Subtype.ext (gmul_xor_l c.1 a.2 b.2)
theorem mul_one (a : F) : mul a one = a := Subtype.ext (Go.Proofs.Ytkjaddiagembaaa.mul_one a.1)
theorem one_mul (a : F) : mul one a = a := Subtype.ext (Go.Proofs.Ytkjaddiagembaaa.one_mul a.2)
theorem mul_zero (a : F) : mul a zero = zero := Subtype.ext (gmul_zero_r a.1)
theorem zero_mul (a : F) : mul zero a = zero := Subtype.ext (gmul_zero_l a.1)
theorem inv_mul {a : F} (h : a ≠ zero) : mul (inv a) a = one := Subtype.ext (Go.Proofs.Ytkjaddiagembaaa.inv_mul a.2 (fun e => h (Subtype.ext e)))
theorem mul_inv {a : F} (h : a ≠ zero) : mul a (inv a) = one := by rw [mul_comm]; exact inv_mul h
theorem one_ne : one ≠ zero := fun h => by have := congrArg Subtype.val h; exact absurd this (by decide)
theorem mul_ne {a b : F} (ha : a ≠ zero) (hb : b ≠ zero) : mul a b ≠ zero := fun h => hb (by
  have : mul (inv a) (mul a b) = zero := by rw [h, mul_zero]
  rwa [← mul_assoc, inv_mul ha, one_mul] at this)
theorem mul_eq_zero' {a b : F} (h : mul a b = zero) : a = zero ∨ b = zero := by
  by_cases ha : a = zero
  · exact .inl ha
  · by_cases hb : b = zero
    · exact .inr hb
    · exact absurd h (mul_ne ha hb)
theorem add_left {a b : F} (h : add a b = zero) : a = b := by
  have : add (add a b) b = b := by rw [h, zero_add]
  rwa [add_assoc, add_self, add_zero] at this
theorem add4 (a b c d : F) : add (add a b) (add c d) = add (add a c) (add b d) := Subtype.ext (xor4 _ _ _ _)
/-- Sums. -/
def sum (f : Nat → F) : Nat → F
  | 0 => zero
  | n + 1 => add (sum f n) (f n)
theorem sum_congr {f g : Nat → F} : ∀ n, (∀ i, i < n → f i = g i) → sum f n = sum g n
  | 0, _ => rfl
  | n + 1, h => by unfold sum; rw [sum_congr n (fun i hi => h i (by omega)), h n (by omega)]
theorem sum_zero : ∀ n, sum (fun _ => zero) n = zero
  | 0 => rfl
  | n + 1 => by unfold sum; rw [sum_zero n, add_zero]
theorem sum_add (f g : Nat → F) : ∀ n, sum (fun i => add (f i) (g i)) n = add (sum f n) (sum g n)
  | 0 => by unfold sum; rw [add_zero]
  | n + 1 => by unfold sum; rw [sum_add f g n, add4]
theorem sum_mul_l (a : F) (f : Nat → F) : ∀ n, mul a (sum f n) = sum (fun i => mul a (f i)) n
  | 0 => by unfold sum; exact mul_zero a
  | n + 1 => by unfold sum; rw [mul_add, sum_mul_l a f n]
theorem sum_mul_r (b : F) (f : Nat → F) : ∀ n, mul (sum f n) b = sum (fun i => mul (f i) b) n
  | 0 => by unfold sum; exact zero_mul b
  | n + 1 => by unfold sum; rw [add_mul, sum_mul_r b f n]
theorem sum_swap (f : Nat → Nat → F) (m : Nat) : ∀ n, sum (fun i => sum (fun j => f i j) m) n = sum (fun j => sum (fun i => f i j) n) m
  | 0 => (sum_zero m).symm
  | n + 1 => by
    show add (sum (fun i => sum (fun j => f i j) m) n) (sum (fun j => f n j) m) = sum (fun j => add (sum (fun i => f i j) n) (f n j)) m
    rw [sum_swap f m n, sum_add]
theorem sum_one (f : Nat → F) (p : Nat) : ∀ n, sum (fun i => if i = p then f i else zero) n = if p < n then f p else zero
  | 0 => by simp [sum]
  | n + 1 => by
    show add (sum _ n) (if n = p then f n else zero) = _
    rw [sum_one f p n]
    by_cases h : n = p
    · subst h; rw [if_neg (by omega), if_pos rfl, if_pos (by omega), zero_add]
    · rw [if_neg h, add_zero]
      by_cases h2 : p < n
      · rw [if_pos h2, if_pos (by omega)]
      · rw [if_neg h2, if_neg (by omega)]
def skip (p j : Nat) : Nat := if j < p then j else j + 1
theorem sum_skip (f : Nat → F) (p : Nat) : ∀ n, p ≤ n → sum f (n + 1) = add (f p) (sum (fun j => f (skip p j)) n)
  | 0, h => by
    obtain rfl : p = 0 := by omega
    show add zero (f 0) = add (f 0) zero
    rw [zero_add, add_zero]
  | n + 1, h => by
    by_cases hp : p = n + 1
    · subst hp
      show add (sum f (n + 1)) (f (n + 1)) = _
      rw [add_comm]
      congr 1
      exact sum_congr _ (fun i hi => by unfold skip; rw [if_pos hi])
    · show add (sum f (n + 1)) (f (n + 1)) = add (f p) (add (sum (fun j => f (skip p j)) n) (f (skip p n)))
      rw [sum_skip f p n (by omega), add_assoc]
      congr 2
      unfold skip; rw [if_neg (by omega)]
/-- Matrices are functions of row and column. -/
abbrev M := Nat → Nat → F
def mm (n : Nat) (A B : M) : M := fun i k => sum (fun t => mul (A i t) (B t k)) n
def idm : M := fun i k => if i = k then one else zero
theorem mm_congr {n : Nat} {A A' B B' : M} {i k : Nat} (h : ∀ t, t < n → A i t = A' i t) (h' : ∀ t, t < n → B t k = B' t k) : mm n A B i k = mm n A' B' i k :=
  sum_congr n (fun t ht => by rw [h t ht, h' t ht])
theorem mm_assoc (n m : Nat) (A B C : M) (i k : Nat) : mm m (mm n A B) C i k = mm n A (mm m B C) i k := by
  unfold mm
  rw [sum_congr m (g := fun t => sum (fun s => mul (mul (A i s) (B s t)) (C t k)) n) (fun t _ => sum_mul_r _ _ n)]
  rw [sum_congr n (g := fun s => sum (fun t => mul (mul (A i s) (B s t)) (C t k)) m) (fun s _ => by rw [sum_mul_l]; exact sum_congr m (fun t _ => (mul_assoc _ _ _).symm))]
  exact sum_swap _ n m
theorem idm_mm (n : Nat) (A : M) (i k : Nat) (hi : i < n) : mm n idm A i k = A i k := by
  unfold mm idm
  rw [sum_congr n (g := fun t => if t = i then A t k else zero) (fun t _ => by
    by_cases h : i = t
    · rw [if_pos h, if_pos h.symm, one_mul]
    · rw [if_neg h, if_neg (fun e => h e.symm), zero_mul])]
  rw [sum_one (fun t => A t k) i n, if_pos hi]
theorem mm_idm (n : Nat) (A : M) (i k : Nat) (hk : k < n) : mm n A idm i k = A i k := by
  unfold mm idm
  rw [sum_congr n (g := fun t => if t = k then A i t else zero) (fun t _ => by
    by_cases h : t = k
    · rw [if_pos h, if_pos h, mul_one]
    · rw [if_neg h, if_neg h, mul_zero])]
  rw [sum_one (fun t => A i t) k n, if_pos hk]
/-- More unknowns than equations: there is an answer that is not 0. -/
theorem kernel : ∀ (k n : Nat) (B : M), k < n → ∃ v : Nat → F, (∃ j, j < n ∧ v j ≠ zero) ∧ ∀ i, i < k → sum (fun j => mul (B i j) (v j)) n = zero
  | 0, n, B, h => ⟨fun _ => one, ⟨0, h, one_ne⟩, fun i hi => absurd hi (by omega)⟩
  | k + 1, n, B, h => by
    by_cases hz : ∀ j, j < n → B k j = zero
    · obtain ⟨v, hv, hs⟩ := kernel k n B (by omega)
      refine ⟨v, hv, fun i hi => ?_⟩
      by_cases hik : i < k
      · exact hs i hik
      · obtain rfl : i = k := by omega
        rw [sum_congr n (g := fun _ => zero) (fun j hj => by rw [hz j hj, zero_mul]), sum_zero]
    · obtain ⟨p, hp, hne⟩ : ∃ p, p < n ∧ B k p ≠ zero := by
        refine Classical.byContradiction fun hc => hz fun j hj => ?_
        refine Classical.byContradiction fun hb => hc ⟨j, hj, hb⟩
      obtain ⟨m, rfl⟩ : ∃ m, n = m + 1 := ⟨n - 1, by omega⟩
      obtain ⟨u, ⟨j0, hj0, hu⟩, hs⟩ := kernel k m (fun i j => add (B i (skip p j)) (mul (mul (B i p) (inv (B k p))) (B k (skip p j)))) (by omega)
      -- v at p is reckoned from the others
      let vp : F := mul (inv (B k p)) (sum (fun j => mul (B k (skip p j)) (u j)) m)
      have hskip : ∀ j, skip p j ≠ p := fun j => by unfold skip; split <;> omega
      let v : Nat → F := fun j => if j = p then vp else if j < p then u j else u (j - 1)
      have hvp : v p = vp := if_pos rfl
      have hvs : ∀ j, v (skip p j) = u j := fun j => by
        show (if skip p j = p then vp else if skip p j < p then u (skip p j) else u (skip p j - 1)) = u j
        rw [if_neg (hskip j)]
        unfold skip
        by_cases hj : j < p
        · rw [if_pos hj, if_pos hj]
        · rw [if_neg hj, if_neg (by omega), Nat.add_sub_cancel]
      have hsum : ∀ i, sum (fun j => mul (B i j) (v j)) (m + 1) = add (mul (B i p) vp) (sum (fun j => mul (B i (skip p j)) (u j)) m) := fun i => by
        rw [sum_skip (fun j => mul (B i j) (v j)) p m (by omega), hvp]
        congr 1
        exact sum_congr m (fun j _ => by rw [hvs])
      refine ⟨v, ⟨skip p j0, ?_, by rw [hvs]; exact hu⟩, fun i hi => ?_⟩
      · unfold skip; split <;> omega
      · rw [hsum]
        by_cases hik : i < k
        · have := hs i hik
          rw [sum_congr m (g := fun j => add (mul (B i (skip p j)) (u j)) (mul (mul (B i p) (inv (B k p))) (mul (B k (skip p j)) (u j)))) (fun j _ => by rw [add_mul, mul_assoc (mul (B i p) (inv (B k p)))]), sum_add, ← sum_mul_l] at this
          show add (mul (B i p) (mul (inv (B k p)) _)) _ = zero
          rw [← mul_assoc, add_comm]; exact this
        · obtain rfl : i = k := by omega
          show add (mul (B i p) (mul (inv (B i p)) _)) _ = zero
          rw [← mul_assoc, mul_inv hne, one_mul, add_self]
/-- The matrix that changes nothing does not go through a lesser number. -/
theorem no_less {k n : Nat} {A B : M} (h : ∀ i j, i < n → j < n → mm k A B i j = idm i j) : n ≤ k := by
  refine Classical.byContradiction fun hlt => ?_
  obtain ⟨v, ⟨j, hj, hv⟩, hs⟩ := kernel k n B (by omega)
  have h1 : mm n (mm k A B) (fun t _ => v t) j 0 = v j := by
    rw [mm_congr (A' := idm) (B' := fun t _ => v t) (fun t ht => h j t hj ht) (fun _ _ => rfl)]
    exact idm_mm n (fun t _ => v t) j 0 hj
  rw [mm_assoc] at h1
  have h2 : mm k A (mm n B (fun t _ => v t)) j 0 = zero := by
    unfold mm
    rw [sum_congr k (g := fun _ => zero) (fun t ht => by rw [hs t ht, mul_zero]), sum_zero]
  exact hv (h1.symm.trans h2)
/-- Rows were combined, in a way that can be taken back. -/
def Turned (r : Nat) (A A' : M) : Prop := ∃ E E' : M, (∀ i k, i < r → A' i k = mm r E A i k) ∧ (∀ i k, i < r → k < r → mm r E' E i k = idm i k) ∧ (∀ i k, i < r → k < r → mm r E E' i k = idm i k)
theorem Turned.refl (r : Nat) (A : M) : Turned r A A := ⟨idm, idm, fun i k hi => (idm_mm r A i k hi).symm, fun i k hi _ => idm_mm r idm i k hi, fun i k hi _ => idm_mm r idm i k hi⟩
theorem Turned.trans {r : Nat} {A B C : M} (h : Turned r A B) (h' : Turned r B C) : Turned r A C := by
  obtain ⟨E, E', h1, h2, h3⟩ := h
  obtain ⟨G, G', h4, h5, h6⟩ := h'
  refine ⟨mm r G E, mm r E' G', fun i k hi => ?_, fun i k hi hk => ?_, fun i k hi hk => ?_⟩
  · rw [h4 i k hi, mm_assoc]
    exact mm_congr (fun _ _ => rfl) (fun t ht => h1 t k ht)
  · rw [mm_assoc, mm_congr (A' := E') (B' := E) (fun _ _ => rfl) (fun t ht => by
      rw [← mm_assoc, mm_congr (A' := idm) (B' := E) (fun s hs => h5 t s ht hs) (fun _ _ => rfl)]
      exact idm_mm r E t k ht)]
    exact h2 i k hi hk
  · rw [mm_assoc, mm_congr (A' := G) (B' := G') (fun _ _ => rfl) (fun t ht => by
      rw [← mm_assoc, mm_congr (A' := idm) (B' := G') (fun s hs => h3 t s ht hs) (fun _ _ => rfl)]
      exact idm_mm r G' t k ht)]
    exact h6 i k hi hk
/-- Each row times something, and something of one row. -/
def two (s : Nat → Nat) (a : Nat → F) (q : Nat) (b : Nat → F) : M := fun i t => add (if t = s i then a i else zero) (if t = q then b i else zero)
theorem two_mm {r : Nat} (s : Nat → Nat) (a : Nat → F) (q : Nat) (b : Nat → F) (A : M) (i k : Nat) (hs : s i < r) (hq : q < r) : mm r (two s a q b) A i k = add (mul (a i) (A (s i) k)) (mul (b i) (A q k)) := by
  unfold mm two
  rw [sum_congr r (g := fun t => add (if t = s i then mul (a i) (A t k) else zero) (if t = q then mul (b i) (A t k) else zero)) (fun t _ => by
    rw [add_mul]
    congr 1
    · split
      · rfl
      · exact zero_mul _
    · split
      · rfl
      · exact zero_mul _)]
  rw [sum_add, sum_one (fun t => mul (a i) (A t k)) (s i) r, sum_one (fun t => mul (b i) (A t k)) q r, if_pos hs, if_pos hq]
theorem turned_perm {r : Nat} {A A' : M} (s : Nat → Nat) (hs : ∀ i, i < r → s i < r) (hss : ∀ i, s (s i) = i) (hr : 0 < r) (h : ∀ i k, i < r → A' i k = A (s i) k) : Turned r A A' := by
  have hE : ∀ (B : M) i k, i < r → mm r (two s (fun _ => one) 0 (fun _ => zero)) B i k = B (s i) k := fun B i k hi => by
    rw [two_mm _ _ _ _ _ i k (hs i hi) hr, one_mul, zero_mul, add_zero]
  have ht : ∀ i k, two s (fun _ => one) 0 (fun _ => zero) i k = if k = s i then one else zero := fun i k => by
    unfold two
    have hz : (if k = 0 then zero else zero : F) = zero := by split <;> rfl
    rw [hz, add_zero]
  have hI : ∀ i k, i < r → k < r → mm r (two s (fun _ => one) 0 (fun _ => zero)) (two s (fun _ => one) 0 (fun _ => zero)) i k = idm i k := fun i k hi hk => by
    rw [hE _ i k hi, ht, hss]
    unfold idm
    by_cases h3 : k = i
    · rw [if_pos h3, if_pos h3.symm]
    · rw [if_neg h3, if_neg (fun e => h3 e.symm)]
  exact ⟨_, _, fun i k hi => by rw [hE A i k hi, h i k hi], hI, hI⟩
theorem turned_swap {r : Nat} {A A' : M} (p q : Nat) (hp : p < r) (hq : q < r) (h : ∀ i k, i < r → A' i k = A (if i = p then q else if i = q then p else i) k) : Turned r A A' := by
  refine turned_perm (fun i => if i = p then q else if i = q then p else i) (fun i hi => ?_) (fun i => ?_) (by omega) h
  · show (if i = p then q else if i = q then p else i) < r
    split
    · exact hq
    · split
      · exact hp
      · exact hi
  · show (if (if i = p then q else if i = q then p else i) = p then q else if (if i = p then q else if i = q then p else i) = q then p else (if i = p then q else if i = q then p else i)) = i
    by_cases h1 : i = p
    · simp only [if_pos h1]
      by_cases h3 : q = p
      · rw [if_pos h3]; omega
      · rw [if_neg h3]; simp; omega
    · simp only [if_neg h1]
      by_cases h3 : i = q
      · simp only [if_pos h3]; simp; omega
      · simp only [if_neg h3, if_neg h1]
theorem turned_scale {r : Nat} {A A' : M} (p : Nat) (hp : p < r) (c : F) (hc : c ≠ zero) (h : ∀ i k, i < r → A' i k = if i = p then mul c (A i k) else A i k) : Turned r A A' := by
  have hE : ∀ (c : F) (B : M) i k, i < r → mm r (two id (fun i => if i = p then c else one) p (fun _ => zero)) B i k = if i = p then mul c (B i k) else B i k := fun c B i k hi => by
    rw [two_mm id _ _ _ _ i k hi hp, zero_mul, add_zero]
    show mul (if i = p then c else one) (B i k) = _
    split
    · rfl
    · exact one_mul _
  have hI : ∀ c d : F, mul c d = one → ∀ i k, i < r → k < r → mm r (two id (fun i => if i = p then c else one) p (fun _ => zero)) (two id (fun i => if i = p then d else one) p (fun _ => zero)) i k = idm i k := fun c d hcd i k hi hk => by
    rw [hE c _ i k hi]
    have hz : (if k = p then zero else zero : F) = zero := by split <;> rfl
    have ht : two id (fun i => if i = p then d else one) p (fun _ => zero) i k = if k = i then (if i = p then d else one) else zero := by
      unfold two
      rw [hz, add_zero]; rfl
    rw [ht]
    unfold idm
    by_cases h3 : k = i
    · rw [if_pos h3, if_pos h3.symm]
      by_cases h4 : i = p
      · rw [if_pos h4, if_pos h4]; exact hcd
      · rw [if_neg h4, if_neg h4]
    · have e1 : (if i = k then one else zero : F) = zero := if_neg (fun e => h3 e.symm)
      rw [e1]
      simp only [if_neg h3, mul_zero, ite_self]
  exact ⟨_, two id (fun i => if i = p then inv c else one) p (fun _ => zero), fun i k hi => by rw [hE c A i k hi, h i k hi], hI _ _ (inv_mul hc), hI _ _ (mul_inv hc)⟩
theorem turned_sub {r : Nat} {A A' : M} (p : Nat) (hp : p < r) (f : Nat → F) (hf : f p = zero) (h : ∀ i k, i < r → A' i k = add (A i k) (mul (f i) (A p k))) : Turned r A A' := by
  have hE : ∀ (B : M) i k, i < r → mm r (two id (fun _ => one) p f) B i k = add (B i k) (mul (f i) (B p k)) := fun B i k hi => by
    rw [two_mm id _ _ _ _ i k hi hp, one_mul]; rfl
  have hI : ∀ i k, i < r → k < r → mm r (two id (fun _ => one) p f) (two id (fun _ => one) p f) i k = idm i k := fun i k hi hk => by
    rw [hE _ i k hi]
    have ht : ∀ i, two id (fun _ => one) p f i k = add (idm i k) (if k = p then f i else zero) := fun i => by
      unfold two idm
      congr 1
      by_cases h3 : k = i
      · rw [if_pos (show k = id i from h3), if_pos h3.symm]
      · rw [if_neg (show ¬ k = id i from h3), if_neg (fun e => h3 e.symm)]
    rw [ht, ht, hf]
    have hz : (if k = p then zero else zero : F) = zero := by split <;> rfl
    rw [hz, add_zero, add_assoc]
    have : add (if k = p then f i else zero) (mul (f i) (idm p k)) = zero := by
      unfold idm
      by_cases h3 : k = p
      · rw [if_pos h3, if_pos h3.symm, mul_one, add_self]
      · rw [if_neg h3, if_neg (fun e => h3 e.symm), mul_zero, add_zero]
    rw [this, add_zero]
  exact ⟨_, _, fun i k hi => by rw [hE A i k hi, h i k hi], hI, hI⟩
/-- What Gauss and Jordan's steps come to: the first n columns, of r rows. -/
structure Echelon (r n rank : Nat) (L : M) : Prop where
  le_r : rank ≤ r
  le_n : rank ≤ n
  piv : ∃ p : Nat → Nat, (∀ j, j < rank → p j < n ∧ ∀ i, i < r → L i (p j) = idm i j) ∧ (rank = n → ∀ j, j < rank → p j = j)
  low : ∀ i k, rank ≤ i → i < r → k < n → L i k = zero
theorem Echelon.start (r : Nat) (L : M) : Echelon r 0 0 L := ⟨Nat.zero_le _, Nat.le_refl _, ⟨id, fun j hj => absurd hj (by omega), fun _ j hj => rfl⟩, fun _ k _ _ hk => absurd hk (by omega)⟩
/-- A column with nothing new. -/
theorem Echelon.skip {r n rank : Nat} {L : M} (h : Echelon r n rank L) (hz : ∀ i, rank ≤ i → i < r → L i n = zero) : Echelon r (n + 1) rank L := by
  obtain ⟨p, h1, _⟩ := h.piv
  refine ⟨h.le_r, by have := h.le_n; omega, ⟨p, fun j hj => ⟨by have := (h1 j hj).1; omega, (h1 j hj).2⟩, fun e => ?_⟩, fun i k h4 h5 h6 => ?_⟩
  · have := h.le_n; omega
  · by_cases hk : k < n
    · exact h.low i k h4 h5 hk
    · obtain rfl : k = n := by omega
      exact hz i h4 h5
/-- A column with a new leader. -/
theorem Echelon.step {r n rank : Nat} {L L1 L2 L3 : M} (h : Echelon r n rank L) (at_ : Nat) (h1 : rank ≤ at_) (h2 : at_ < r) (hne : L at_ n ≠ zero)
    (hs : ∀ i k, i < r → L1 i k = L (if i = rank then at_ else if i = at_ then rank else i) k)
    (hc : ∀ i k, i < r → L2 i k = if i = rank then mul (inv (L1 rank n)) (L1 i k) else L1 i k)
    (hf : ∀ i k, i < r → L3 i k = add (L2 i k) (mul (if i = rank then zero else L2 i n) (L2 rank k))) :
    Echelon r (n + 1) (rank + 1) L3 ∧ Turned r L L3 := by
  have hr : rank < r := by omega
  have e1 : L1 rank n = L at_ n := by rw [hs rank n hr, if_pos rfl]
  have hne1 : L1 rank n ≠ zero := by rw [e1]; exact hne
  have hinv : inv (L1 rank n) ≠ zero := fun e => by
    have := inv_mul hne1
    rw [e, zero_mul] at this
    exact one_ne this.symm
  have hlead : L2 rank n = one := by rw [hc rank n hr, if_pos rfl]; exact inv_mul hne1
  have hT := ((turned_swap rank at_ hr h2 hs).trans (turned_scale rank hr _ hinv hc)).trans (turned_sub rank hr (fun i => if i = rank then zero else L2 i n) (if_pos rfl) hf)
  refine ⟨?_, hT⟩
  obtain ⟨p, hp1, hp2⟩ := h.piv
  -- the row of the leader is 0 ahead of it, and so are the rows below
  have hlow1 : ∀ i k, rank ≤ i → i < r → k < n → L1 i k = zero := fun i k h3 h4 h5 => by
    rw [hs i k h4]
    split
    · exact h.low _ k h1 h2 h5
    · split
      · exact h.low _ k (Nat.le_refl _) hr h5
      · exact h.low _ k h3 h4 h5
  have hrow2 : ∀ k, k < n → L2 rank k = zero := fun k hk => by rw [hc rank k hr, if_pos rfl, hlow1 rank k (Nat.le_refl _) hr hk, mul_zero]
  have h3k : ∀ i k, i < r → k < n → L3 i k = L2 i k := fun i k hi hk => by rw [hf i k hi, hrow2 k hk, mul_zero, add_zero]
  have h3n : ∀ i, i < r → L3 i n = idm i rank := fun i hi => by
    rw [hf i n hi, hlead, mul_one]
    unfold idm
    by_cases e : i = rank
    · rw [if_pos e, if_pos e, add_zero, e]; exact hlead
    · rw [if_neg e, if_neg e, add_self]
  have hpiv : ∀ j, j < rank → ∀ i, i < r → L3 i (p j) = idm i j := fun j hj i hi => by
    obtain ⟨h4, h5⟩ := hp1 j hj
    rw [h3k i _ hi h4, hc i _ hi]
    have h6 : L1 i (p j) = idm i j := by
      rw [hs i _ hi]
      by_cases e : i = rank
      · rw [if_pos e, h5 at_ h2]
        unfold idm
        rw [if_neg (by omega), if_neg (by omega)]
      · rw [if_neg e]
        by_cases e2 : i = at_
        · rw [if_pos e2, h5 rank hr]
          unfold idm
          rw [if_neg (by omega), if_neg (by omega)]
        · rw [if_neg e2, h5 i hi]
    rw [h6]
    by_cases e : i = rank
    · rw [if_pos e]
      unfold idm
      rw [if_neg (by omega), mul_zero]
    · rw [if_neg e]
  refine ⟨by omega, by have := h.le_n; omega, ⟨fun j => if j = rank then n else p j, fun j hj => ?_, fun e j hj => ?_⟩, fun i k h4 h5 h6 => ?_⟩
  · show (if j = rank then n else p j) < n + 1 ∧ ∀ i, i < r → L3 i (if j = rank then n else p j) = idm i j
    by_cases e : j = rank
    · rw [if_pos e, e]; exact ⟨by omega, h3n⟩
    · rw [if_neg e]; exact ⟨by have := (hp1 j (by omega)).1; omega, hpiv j (by omega)⟩
  · show (if j = rank then n else p j) = j
    by_cases e2 : j = rank
    · rw [if_pos e2]; omega
    · rw [if_neg e2]; exact hp2 (by omega) j (by omega)
  · by_cases hk : k < n
    · rw [h3k i k h5 hk, hc i k h5, if_neg (by omega)]
      exact hlow1 i k (by omega) h5 hk
    · obtain rfl : k = n := by omega
      rw [h3n i h5]
      unfold idm
      rw [if_neg (by omega)]
/-- A matrix of rank k is a product through k. -/
theorem factor {r n rank : Nat} {A L : M} (h : Echelon r n rank L) (hT : Turned r A L) : ∃ X Y : M, ∀ i k, i < r → k < n → A i k = mm rank X Y i k := by
  obtain ⟨E, E', h1, h2, h3⟩ := hT
  refine ⟨E', L, fun i k hi hk => ?_⟩
  have : A i k = mm r E' L i k := by
    rw [mm_congr (A' := E') (B' := mm r E A) (fun _ _ => rfl) (fun t ht => h1 t k ht), ← mm_assoc, mm_congr (A' := idm) (B' := A) (fun t ht => h2 i t hi ht) (fun _ _ => rfl)]
    exact (idm_mm r A i k hi).symm
  rw [this]
  unfold mm
  have hcut : ∀ m, rank + m ≤ r → sum (fun t => mul (E' i t) (L t k)) (rank + m) = sum (fun t => mul (E' i t) (L t k)) rank := by
    intro m
    induction m with
    | zero => intro _; rfl
    | succ m ih =>
      intro hm
      show add (sum _ (rank + m)) (mul (E' i (rank + m)) (L (rank + m) k)) = _
      rw [ih (by omega), h.low _ k (by omega) (by omega) hk, mul_zero, add_zero]
  have := hcut (r - rank) (by have := h.le_r; omega)
  rw [show rank + (r - rank) = r by have := h.le_r; omega] at this
  exact this
/-- .. and through no less. -/
theorem rank_le {r n rank k : Nat} {A L X Y : M} (h : Echelon r n rank L) (hT : Turned r A L) (hA : ∀ i j, i < r → j < n → A i j = mm k X Y i j) : rank ≤ k := by
  obtain ⟨E, E', h1, h2, h3⟩ := hT
  obtain ⟨p, hp, _⟩ := h.piv
  refine no_less (A := mm r E X) (B := fun t j => Y t (p j)) fun i j hi hj => ?_
  have hir : i < r := by have := h.le_r; omega
  rw [← (hp j hj).2 i hir, h1 i _ hir, mm_assoc]
  exact mm_congr (fun _ _ => rfl) (fun t ht => (hA t (p j) ht (hp j hj).1).symm)
/-- All columns have leaders: the left part is the one that changes nothing. -/
theorem Echelon.full {r n : Nat} {L : M} (h : Echelon r n n L) : ∀ i j, i < r → j < n → L i j = idm i j := by
  obtain ⟨p, hp, hid⟩ := h.piv
  intro i j hi hj
  have := (hp j hj).2 i hi
  rwa [hid rfl j hj] at this
/-- With the one that changes nothing beside it: the inverse comes to stand there. -/
theorem inverse {n : Nat} {A W L : M} (hW1 : ∀ i k, i < n → k < n → W i k = A i k) (hW2 : ∀ i k, i < n → k < n → W i (n + k) = idm i k) (h : Echelon n n n L) (hT : Turned n W L) :
    (∀ i k, i < n → k < n → mm n (fun i k => L i (n + k)) A i k = idm i k) ∧ ∀ i k, i < n → k < n → mm n A (fun i k => L i (n + k)) i k = idm i k := by
  obtain ⟨E, E', h1, h2, h3⟩ := hT
  have hE : ∀ i k, i < n → k < n → L i (n + k) = E i k := fun i k hi hk => by
    rw [h1 i _ hi]
    unfold mm
    rw [sum_congr n (g := fun t => mul (E i t) (idm t k)) (fun t ht => by rw [hW2 t k ht hk])]
    exact mm_idm n E i k hk
  have hEA : ∀ i k, i < n → k < n → mm n E A i k = idm i k := fun i k hi hk => by
    rw [← h.full i k hi hk, h1 i k hi]
    exact mm_congr (fun _ _ => rfl) (fun t ht => (hW1 t k ht hk).symm)
  have hA : ∀ i k, i < n → k < n → A i k = E' i k := fun i k hi hk => by
    have h4 : mm n E' (mm n E A) i k = A i k := by
      rw [← mm_assoc, mm_congr (A' := idm) (B' := A) (fun t ht => h2 i t hi ht) (fun _ _ => rfl)]
      exact idm_mm n A i k hi
    rw [← h4, mm_congr (A' := E') (B' := idm) (fun _ _ => rfl) (fun t ht => hEA t k ht hk)]
    exact mm_idm n E' i k hk
  refine ⟨fun i k hi hk => ?_, fun i k hi hk => ?_⟩
  · rw [← hEA i k hi hk]
    exact mm_congr (fun t ht => hE i t hi ht) (fun _ _ => rfl)
  · rw [← h2 i k hi hk]
    exact mm_congr (fun t ht => hA i t hi ht) (fun t ht => hE t k ht hk)
end Go.Proofs.Ytkjaddiagembaaa.Lin
/- Gauss and Jordan's steps over lists of rows, and what they come to. No program here. -/
namespace Go.Proofs.Ytkjaddiagembaaa
open Go.RowKit
set_option linter.unusedVariables false

/-- An element, as one of the field. -/
def fe (M : List (List Int)) : Lin.M := fun i k => ⟨at_ M i k % 256, Nat.mod_lt _ (by decide)⟩
/-- Rows of C numbers below 256. -/
def Rect (M : List (List Int)) (r C : Nat) : Prop := M.length = r ∧ ∀ x ∈ M, x.length = C ∧ El x
theorem Rect.get {M : List (List Int)} {r C : Nat} (h : Rect M r C) (i : Nat) (hi : i < r) : (M.getD i []).length = C ∧ El (M.getD i []) := by
  have hl : i < M.length := by rw [h.1]; exact hi
  rw [show M.getD i [] = M[i] by simp [List.getD, hl]]; exact h.2 _ (List.getElem_mem hl)
theorem Rect.el {M : List (List Int)} {r C : Nat} (h : Rect M r C) (i : Nat) : El (M.getD i []) := by
  by_cases hi : i < r
  · exact (h.get i hi).2
  · have hl : ¬ i < M.length := by rw [h.1]; exact hi
    rw [show M.getD i [] = [] by simp [List.getD, hl]]; intro v hv; cases hv
theorem Rect.at_lt {M : List (List Int)} {r C : Nat} (h : Rect M r C) (i k : Nat) : at_ M i k < 256 := by
  have := (h.el i).getD k
  unfold at_; omega
theorem Rect.fe {M : List (List Int)} {r C : Nat} (h : Rect M r C) (i k : Nat) : (fe M i k).1 = at_ M i k := Nat.mod_eq_of_lt (h.at_lt i k)
theorem Mat.rect {M : List (List Int)} {r c : Nat} (h : Mat M r c) : Rect M r c := ⟨h.1, h.2.2.2⟩
theorem Rect.set {M : List (List Int)} {r C : Nat} (h : Rect M r C) (i : Nat) {x : List Int} (hx : x.length = C ∧ El x) : Rect (M.set i x) r C :=
  ⟨by rw [List.length_set, h.1], fun y hy => by
    rcases List.mem_or_eq_of_mem_set hy with h1 | h1
    · exact h.2 y h1
    · rw [h1]; exact hx⟩
theorem getD_set_eq (M : List (List Int)) (i j : Nat) (x : List Int) (hi : i < M.length) : (M.set i x).getD j [] = if j = i then x else M.getD j [] := by
  rw [List.getD, List.getElem?_set]
  by_cases h : i = j
  · rw [if_pos h, if_pos h.symm, if_pos hi]; rfl
  · rw [if_neg h, if_neg (fun e => h e.symm)]; rfl
def swapR (M : List (List Int)) (p q : Nat) : List (List Int) := (M.set p (M.getD q [])).set q (M.getD p [])
theorem swapR_getD (M : List (List Int)) (p q i : Nat) (hp : p < M.length) (hq : q < M.length) : (swapR M p q).getD i [] = M.getD (if i = p then q else if i = q then p else i) [] := by
  unfold swapR
  rw [getD_set_eq _ _ _ _ (by rw [List.length_set]; exact hq), getD_set_eq _ _ _ _ hp]
  by_cases h1 : i = q
  · rw [if_pos h1]
    by_cases h2 : i = p
    · rw [if_pos h2, ← h2, h1]
    · rw [if_neg h2, if_pos h1]
  · rw [if_neg h1]
    by_cases h2 : i = p
    · rw [if_pos h2, if_pos h2]
    · rw [if_neg h2, if_neg h2, if_neg h1]
theorem swapR_rect {M : List (List Int)} {r C : Nat} (h : Rect M r C) (p q : Nat) (hp : p < r) (hq : q < r) : Rect (swapR M p q) r C := (h.set p (h.get q hq)).set q (h.get p hp)
/-- A row times a number: of it the first k are done. -/
def scaleN (c : Nat) (x : List Int) (k : Nat) : List Int := (List.range x.length).map fun j => if j < k then ((gmul (x.getD j 0).toNat c : Nat) : Int) else x.getD j 0
def scaleR (c : Nat) (x : List Int) : List Int := scaleN c x x.length
theorem range_getD (f : Nat → Int) (n j : Nat) : ((List.range n).map f).getD j 0 = if j < n then f j else 0 := by
  by_cases h : j < n
  · rw [if_pos h, List.getD, List.getElem?_map, List.getElem?_range h]; rfl
  · rw [if_neg h, List.getD, List.getElem?_eq_none (by simp; omega)]; rfl
theorem scaleN_length (c : Nat) (x : List Int) (k : Nat) : (scaleN c x k).length = x.length := by simp [scaleN]
theorem scaleN_getD (c : Nat) (x : List Int) (k j : Nat) (hj : j < x.length) : (scaleN c x k).getD j 0 = if j < k then ((gmul (x.getD j 0).toNat c : Nat) : Int) else x.getD j 0 := by
  unfold scaleN; rw [range_getD, if_pos hj]
theorem scaleN_zero (c : Nat) (x : List Int) : scaleN c x 0 = x := by
  apply List.ext_getElem (by simp [scaleN])
  intro i h1 h2
  simp [scaleN, List.getD, h2]
theorem scaleN_set (c : Nat) (x : List Int) (k : Nat) (hk : k < x.length) : (scaleN c x k).set k ((gmul (x.getD k 0).toNat c : Nat) : Int) = scaleN c x (k + 1) := by
  apply List.ext_getElem (by simp [scaleN])
  intro i h1 h2
  rw [List.getElem_set]
  by_cases e : k = i
  · subst e; simp [scaleN]
  · rw [if_neg e]
    simp only [scaleN, List.getElem_map, List.getElem_range]
    by_cases hik : i < k
    · rw [if_pos hik, if_pos (by omega)]
    · rw [if_neg hik, if_neg (by omega)]
/-- To a row a multiple of another one is added: the first k are done. -/
def xorN (f : Nat) (top x : List Int) (k : Nat) : List Int := (List.range x.length).map fun j => if j < k then (((x.getD j 0).toNat ^^^ gmul f (top.getD j 0).toNat : Nat) : Int) else x.getD j 0
def xorR (f : Nat) (top x : List Int) : List Int := xorN f top x x.length
theorem xorN_length (f : Nat) (top x : List Int) (k : Nat) : (xorN f top x k).length = x.length := by simp [xorN]
theorem xorN_getD (f : Nat) (top x : List Int) (k j : Nat) (hj : j < x.length) : (xorN f top x k).getD j 0 = if j < k then (((x.getD j 0).toNat ^^^ gmul f (top.getD j 0).toNat : Nat) : Int) else x.getD j 0 := by
  unfold xorN; rw [range_getD, if_pos hj]
theorem xorN_zero (f : Nat) (top x : List Int) : xorN f top x 0 = x := by
  apply List.ext_getElem (by simp [xorN])
  intro i h1 h2
  simp [xorN, List.getD, h2]
theorem xorN_set (f : Nat) (top x : List Int) (k : Nat) (hk : k < x.length) : (xorN f top x k).set k (((x.getD k 0).toNat ^^^ gmul f (top.getD k 0).toNat : Nat) : Int) = xorN f top x (k + 1) := by
  apply List.ext_getElem (by simp [xorN])
  intro i h1 h2
  rw [List.getElem_set]
  by_cases e : k = i
  · subst e; simp [xorN]
  · rw [if_neg e]
    simp only [xorN, List.getElem_map, List.getElem_range]
    by_cases hik : i < k
    · rw [if_pos hik, if_pos (by omega)]
    · rw [if_neg hik, if_neg (by omega)]
theorem scaleN_el {c : Nat} {x : List Int} (h : El x) (k : Nat) : El (scaleN c x k) := by
  intro v hv
  simp only [scaleN, List.mem_map, List.mem_range] at hv
  obtain ⟨j, _, rfl⟩ := hv
  have := h.getD j
  split
  · have : gmul (x.getD j 0).toNat c < 256 := gmul_lt (by omega)
    omega
  · exact this
theorem xorN_el {f : Nat} {top x : List Int} (hf : f < 256) (h : El x) (ht : El top) (k : Nat) : El (xorN f top x k) := by
  intro v hv
  simp only [xorN, List.mem_map, List.mem_range] at hv
  obtain ⟨j, _, rfl⟩ := hv
  have := h.getD j
  split
  · have : (x.getD j 0).toNat ^^^ gmul f (top.getD j 0).toNat < 256 := xor_lt (by omega) (gmul_lt hf)
    omega
  · exact this
/-- One row behind the step. -/
def elimRow (M : List (List Int)) (rank c i : Nat) : List Int := if i = rank ∨ at_ M i c = 0 then M.getD i [] else xorR (at_ M i c) (M.getD rank []) (M.getD i [])
def elimN (M : List (List Int)) (rank c n : Nat) : List (List Int) := (List.range M.length).map fun i => if i < n then elimRow M rank c i else M.getD i []
theorem elimN_length (M : List (List Int)) (rank c n : Nat) : (elimN M rank c n).length = M.length := by simp [elimN]
theorem elimN_getD (M : List (List Int)) (rank c n i : Nat) (hi : i < M.length) : (elimN M rank c n).getD i [] = if i < n then elimRow M rank c i else M.getD i [] := by
  unfold elimN; rw [List.getD, List.getElem?_map, List.getElem?_range hi]; rfl
theorem elimN_zero (M : List (List Int)) (rank c : Nat) : elimN M rank c 0 = M := by
  apply List.ext_getElem (by simp [elimN])
  intro i h1 h2
  simp [elimN, List.getD, h2]
theorem elimN_set (M : List (List Int)) (rank c n : Nat) (hn : n < M.length) : (elimN M rank c n).set n (elimRow M rank c n) = elimN M rank c (n + 1) := by
  apply List.ext_getElem (by simp [elimN])
  intro i h1 h2
  rw [List.getElem_set]
  by_cases e : n = i
  · subst e; simp [elimN]
  · rw [if_neg e]
    simp only [elimN, List.getElem_map, List.getElem_range]
    by_cases hik : i < n
    · rw [if_pos hik, if_pos (by omega)]
    · rw [if_neg hik, if_neg (by omega)]
theorem elimRow_len {M : List (List Int)} {r C : Nat} (h : Rect M r C) (rank c i : Nat) (hi : i < r) : (elimRow M rank c i).length = C ∧ El (elimRow M rank c i) := by
  unfold elimRow
  split
  · exact h.get i hi
  · refine ⟨by unfold xorR; rw [xorN_length]; exact (h.get i hi).1, ?_⟩
    exact xorN_el (h.at_lt i c) (h.get i hi).2 (h.el rank) _
theorem elimN_rect {M : List (List Int)} {r C : Nat} (h : Rect M r C) (rank c n : Nat) : Rect (elimN M rank c n) r C := by
  refine ⟨by rw [elimN_length, h.1], fun x hx => ?_⟩
  simp only [elimN, List.mem_map, List.mem_range] at hx
  obtain ⟨i, hi, rfl⟩ := hx
  rw [h.1] at hi
  split
  · exact elimRow_len h rank c i hi
  · exact h.get i hi
def leader (M : List (List Int)) (rank c : Nat) : Option Nat := (M.drop rank).findIdx? fun x => decide (x.getD c 0 ≠ 0)
def scaled (M : List (List Int)) (rank c : Nat) : List (List Int) := M.set rank (scaleR (ginv (at_ M rank c)) (M.getD rank []))
def stepM (c : Nat) (x : List (List Int) × Nat) : List (List Int) × Nat :=
  match leader x.1 x.2 c with
  | none => x
  | some at_ =>
    let M2 := scaled (swapR x.1 x.2 (x.2 + at_)) x.2 c
    (elimN M2 x.2 c M2.length, x.2 + 1)
def redN (M : List (List Int)) : Nat → List (List Int) × Nat
  | 0 => (M, 0)
  | c + 1 => stepM c (redN M c)
theorem leader_none {M : List (List Int)} {r C : Nat} (h : Rect M r C) {rank c : Nat} (hl : leader M rank c = none) : ∀ i, rank ≤ i → i < r → at_ M i c = 0 := by
  intro i h1 h2
  unfold leader at hl
  rw [List.findIdx?_eq_none_iff] at hl
  have hi : i < M.length := by rw [h.1]; exact h2
  have hm : M.getD i [] ∈ M.drop rank := by
    rw [show M.getD i [] = M[i] by simp [List.getD, hi], List.mem_iff_getElem?]
    exact ⟨i - rank, by rw [List.getElem?_drop, show rank + (i - rank) = i by omega, List.getElem?_eq_getElem hi]⟩
  have := hl _ hm
  simp only [ne_eq, decide_eq_false_iff_not, Decidable.not_not] at this
  unfold at_; rw [this]; rfl
theorem leader_some {M : List (List Int)} {r C : Nat} (h : Rect M r C) {rank c a : Nat} (hl : leader M rank c = some a) : rank + a < r ∧ at_ M (rank + a) c ≠ 0 := by
  unfold leader at hl
  rw [List.findIdx?_eq_some_iff_getElem] at hl
  obtain ⟨h1, h2, _⟩ := hl
  rw [List.length_drop, h.1] at h1
  refine ⟨by omega, ?_⟩
  rw [List.getElem_drop] at h2
  have hi : rank + a < M.length := by rw [h.1]; omega
  have he := (h.el (rank + a)).getD c
  unfold at_
  rw [show M.getD (rank + a) [] = M[rank + a] by simp [List.getD, hi]] at he ⊢
  simp only [ne_eq, decide_not, Bool.not_eq_eq_eq_not, Bool.not_true, decide_eq_false_iff_not] at h2
  omega
theorem scaled_rect {M : List (List Int)} {r C : Nat} (h : Rect M r C) (rank c : Nat) (hr : rank < r) : Rect (scaled M rank c) r C :=
  h.set rank ⟨by unfold scaleR; rw [scaleN_length]; exact (h.get rank hr).1, scaleN_el (h.get rank hr).2 _⟩
theorem stepM_rect {c : Nat} {x : List (List Int) × Nat} {r C : Nat} (h : Rect x.1 r C) : Rect (stepM c x).1 r C := by
  unfold stepM
  cases hl : leader x.1 x.2 c with
  | none => exact h
  | some a =>
    have h1 := leader_some h hl
    exact elimN_rect (scaled_rect (swapR_rect h _ _ (by omega) h1.1) _ _ (by omega)) _ _ _
theorem redN_rect {M : List (List Int)} {r C : Nat} (h : Rect M r C) : ∀ c, Rect (redN M c).1 r C
  | 0 => h
  | c + 1 => stepM_rect (redN_rect h c)
/-- All rows have leaders: nothing more is done. -/
theorem stepM_end {c : Nat} {x : List (List Int) × Nat} {r C : Nat} (h : Rect x.1 r C) (hr : x.2 = r) : stepM c x = x := by
  unfold stepM
  cases hl : leader x.1 x.2 c with
  | none => rfl
  | some a => have := leader_some h hl; omega
theorem redN_end {M : List (List Int)} {r C : Nat} (h : Rect M r C) {c : Nat} (hr : (redN M c).2 = r) : ∀ m, redN M (c + m) = redN M c
  | 0 => rfl
  | m + 1 => by
    show stepM (c + m) (redN M (c + m)) = _
    rw [redN_end h hr m]
    exact stepM_end (redN_rect h c) hr
theorem red_echelon {M : List (List Int)} {r C : Nat} (h : Rect M r C) : ∀ n, n ≤ C → Lin.Echelon r n (redN M n).2 (fe (redN M n).1) ∧ ∃ L : Lin.M, Lin.Turned r (fe M) L ∧ ∀ i k, i < r → k < C → L i k = fe (redN M n).1 i k := by
  intro n
  induction n with
  | zero => intro _; exact ⟨Lin.Echelon.start r _, fe M, Lin.Turned.refl r _, fun _ _ _ _ => rfl⟩
  | succ n ih =>
    intro hn
    obtain ⟨hE, L, hT, hL⟩ := ih (by omega)
    have hR := redN_rect h n
    show Lin.Echelon r (n + 1) (stepM n (redN M n)).2 (fe (stepM n (redN M n)).1) ∧ ∃ L : Lin.M, Lin.Turned r (fe M) L ∧ ∀ i k, i < r → k < C → L i k = fe (stepM n (redN M n)).1 i k
    generalize redN M n = x at *
    obtain ⟨X, rank⟩ := x
    simp only at hE hL hR
    unfold stepM
    simp only
    cases hl : leader X rank n with
    | none =>
      refine ⟨hE.skip fun i h1 h2 => Subtype.ext ?_, L, hT, hL⟩
      rw [hR.fe]; exact leader_none hR hl i h1 h2
    | some a =>
      obtain ⟨ha, hne⟩ := leader_some hR hl
      have hrank : rank < r := by omega
      have hXl : X.length = r := hR.1
      have hS := swapR_rect hR rank (rank + a) hrank ha
      have hS2 := scaled_rect hS rank n hrank
      have hS3 := elimN_rect hS2 rank n r
      simp only
      rw [hS2.1]
      -- the three parts of the step, as functions
      have hs : ∀ i k, i < r → fe (swapR X rank (rank + a)) i k = fe X (if i = rank then rank + a else if i = rank + a then rank else i) k := fun i k hi => by
        apply Subtype.ext
        show at_ _ i k % 256 = at_ _ _ k % 256
        unfold at_
        rw [swapR_getD X rank (rank + a) i (by omega) (by omega)]
      have hc : ∀ i k, i < r → k < C → fe (scaled (swapR X rank (rank + a)) rank n) i k = if i = rank then Lin.mul (Lin.inv (fe (swapR X rank (rank + a)) rank n)) (fe (swapR X rank (rank + a)) i k) else fe (swapR X rank (rank + a)) i k := fun i k hi hk => by
        apply Subtype.ext
        rw [hS2.fe]
        by_cases e : i = rank
        · rw [if_pos e]
          show _ = gmul (ginv (fe _ rank n).1) (fe _ i k).1
          rw [hS.fe, hS.fe]
          subst e
          have hlen := (hS.get i hi).1
          unfold at_ scaled
          rw [getD_set_eq _ _ _ _ (by rw [hS.1]; exact hi), if_pos rfl]
          unfold scaleR
          rw [scaleN_getD _ _ _ _ (by rw [hlen]; exact hk), if_pos (by rw [hlen]; exact hk), Int.toNat_natCast]
          have b1 := hS.at_lt i k
          have b2 := hS.at_lt i n
          unfold at_ at b1 b2
          exact gmul_comm b1 (ginv_lt b2)
        · rw [if_neg e]
          show _ = (fe _ i k).1
          rw [hS.fe]
          unfold at_ scaled
          rw [getD_set_eq _ _ _ _ (by rw [hS.1]; omega), if_neg e]
      have hf : ∀ i k, i < r → k < C → fe (elimN (scaled (swapR X rank (rank + a)) rank n) rank n r) i k = Lin.add (fe (scaled (swapR X rank (rank + a)) rank n) i k) (Lin.mul (if i = rank then Lin.zero else fe (scaled (swapR X rank (rank + a)) rank n) i n) (fe (scaled (swapR X rank (rank + a)) rank n) rank k)) := fun i k hi hk => by
        generalize scaled (swapR X rank (rank + a)) rank n = Y at *
        apply Subtype.ext
        rw [hS3.fe]
        have hg : (elimN Y rank n r).getD i [] = elimRow Y rank n i := by rw [elimN_getD _ _ _ _ _ (by rw [hS2.1]; exact hi), if_pos hi]
        show at_ (elimN Y rank n r) i k = (fe Y i k).1 ^^^ gmul (if i = rank then Lin.zero else fe Y i n).1 (fe Y rank k).1
        rw [hS2.fe, hS2.fe]
        unfold at_
        rw [hg]
        unfold elimRow
        by_cases e : i = rank
        · rw [if_pos (.inl e), if_pos e]
          show _ = _ ^^^ gmul 0 _
          rw [gmul_zero_l, Nat.xor_zero]
        · rw [if_neg e, hS2.fe]
          by_cases e2 : at_ Y i n = 0
          · rw [if_pos (.inr e2), e2, gmul_zero_l, Nat.xor_zero]
          · rw [if_neg (fun h => h.elim e e2)]
            have hlen := (hS2.get i hi).1
            unfold xorR
            rw [xorN_getD _ _ _ _ _ (by rw [hlen]; exact hk), if_pos (by rw [hlen]; exact hk), Int.toNat_natCast]
      -- beyond C the lists say nothing: the functions go on there as they must
      let L1 : Lin.M := fun i k => L (if i = rank then rank + a else if i = rank + a then rank else i) k
      let L2 : Lin.M := fun i k => if i = rank then Lin.mul (Lin.inv (L1 rank n)) (L1 i k) else L1 i k
      let L3 : Lin.M := fun i k => Lin.add (L2 i k) (Lin.mul (if i = rank then Lin.zero else L2 i n) (L2 rank k))
      have hEL : Lin.Echelon r n rank L := by
        obtain ⟨q1, q2, ⟨p, q3, q4⟩, q5⟩ := hE
        exact ⟨q1, q2, ⟨p, fun j hj => ⟨(q3 j hj).1, fun i hi => by rw [hL i _ hi (by have := (q3 j hj).1; omega)]; exact (q3 j hj).2 i hi⟩, q4⟩, fun i k h1 h2 h3 => by rw [hL i k h2 (by omega)]; exact q5 i k h1 h2 h3⟩
      have hLne : L (rank + a) n ≠ Lin.zero := by
        rw [hL _ _ ha (by omega)]
        intro e
        have := congrArg Subtype.val e
        rw [hR.fe] at this
        exact hne this
      have hst := hEL.step (L1 := L1) (L2 := L2) (L3 := L3) (rank + a) (by omega) ha hLne (fun _ _ _ => rfl) (fun _ _ _ => rfl) (fun _ _ _ => rfl)
      have h1 : ∀ i k, i < r → k < C → L1 i k = fe (swapR X rank (rank + a)) i k := fun i k hi hk => by
        rw [hs i k hi]
        exact hL _ k (by split; · exact ha
                         · split <;> omega) hk
      have h2 : ∀ i k, i < r → k < C → L2 i k = fe (scaled (swapR X rank (rank + a)) rank n) i k := fun i k hi hk => by
        rw [hc i k hi hk]
        show (if i = rank then Lin.mul (Lin.inv (L1 rank n)) (L1 i k) else L1 i k) = _
        rw [h1 rank n hrank (by omega), h1 i k hi hk]
      have h3 : ∀ i k, i < r → k < C → L3 i k = fe (elimN (scaled (swapR X rank (rank + a)) rank n) rank n r) i k := fun i k hi hk => by
        rw [hf i k hi hk]
        show Lin.add (L2 i k) (Lin.mul (if i = rank then Lin.zero else L2 i n) (L2 rank k)) = _
        rw [h2 i k hi hk, h2 i n hi (by omega), h2 rank k hrank hk]
      refine ⟨?_, L3, hT.trans hst.2, h3⟩
      obtain ⟨q1, q2, ⟨p, q3, q4⟩, q5⟩ := hst.1
      exact ⟨q1, q2, ⟨p, fun j hj => ⟨(q3 j hj).1, fun i hi => by rw [← h3 i _ hi (by have := (q3 j hj).1; omega)]; exact (q3 j hj).2 i hi⟩, q4⟩, fun i k h1 h2 h3' => by rw [← h3 i k h2 (by omega)]; exact q5 i k h1 h2 h3'⟩
end Go.Proofs.Ytkjaddiagembaaa
