/- Matrices over the field: the plain laws. -/
import Derived.Test.YtkfjkdonbmjniaaMtA
namespace Go.Proofs.Ytkfjkdonbmjniaa
open Go.RowKit
set_option linter.unusedVariables false

/-- The sum, in the field, of f 0 .. f (n - 1). -/
def xs_ (f : Nat → Nat) : Nat → Nat
  | 0 => 0
  | n + 1 => xs_ f n ^^^ f n
theorem xs_lt {f : Nat → Nat} (h : ∀ i, f i < 256) : ∀ n, xs_ f n < 256
  | 0 => by unfold xs_; omega
  | n + 1 => by unfold xs_; exact xor_lt (xs_lt h n) (h n)
theorem xs_congr {f g : Nat → Nat} : ∀ n, (∀ i, i < n → f i = g i) → xs_ f n = xs_ g n
  | 0, _ => rfl
  | n + 1, h => by unfold xs_; rw [xs_congr n (fun i hi => h i (by omega)), h n (by omega)]
theorem xs_zero : ∀ n, xs_ (fun _ => 0) n = 0
  | 0 => rfl
  | n + 1 => by unfold xs_; rw [xs_zero n]; rfl
theorem xs_xor (f g : Nat → Nat) : ∀ n, xs_ (fun i => f i ^^^ g i) n = xs_ f n ^^^ xs_ g n
  | 0 => by unfold xs_; rfl
  | n + 1 => by unfold xs_; rw [xs_xor f g n, xor4]
theorem xs_swap (f : Nat → Nat → Nat) (m : Nat) : ∀ n, xs_ (fun i => xs_ (fun j => f i j) m) n = xs_ (fun j => xs_ (fun i => f i j) n) m
  | 0 => by
    show (0 : Nat) = xs_ (fun j => 0) m
    exact (xs_zero m).symm
  | n + 1 => by
    show xs_ (fun i => xs_ (fun j => f i j) m) n ^^^ xs_ (fun j => f n j) m = xs_ (fun j => xs_ (fun i => f i j) n ^^^ f n j) m
    rw [xs_swap f m n, xs_xor]
theorem xs_mul_l {a : Nat} {f : Nat → Nat} (ha : a < 256) (h : ∀ i, f i < 256) : ∀ n, gmul a (xs_ f n) = xs_ (fun i => gmul a (f i)) n
  | 0 => by unfold xs_; exact gmul_zero_r a
  | n + 1 => by
    show gmul a (xs_ f n ^^^ f n) = xs_ (fun i => gmul a (f i)) n ^^^ gmul a (f n)
    rw [gmul_xor_r ha (xs_lt h n) (h n), xs_mul_l ha h n]
theorem xs_mul_r (b : Nat) {f : Nat → Nat} (h : ∀ i, f i < 256) : ∀ n, gmul (xs_ f n) b = xs_ (fun i => gmul (f i) b) n
  | 0 => by unfold xs_; exact gmul_zero_l b
  | n + 1 => by
    show gmul (xs_ f n ^^^ f n) b = xs_ (fun i => gmul (f i) b) n ^^^ gmul (f n) b
    rw [gmul_xor_l b (xs_lt h n) (h n), xs_mul_r b h n]
/-- An element of a matrix. -/
def at_ (M : List (List Int)) (i k : Nat) : Nat := ((M.getD i []).getD k 0).toNat
theorem at_lt {M : List (List Int)} {r c : Nat} (h : Mat M r c) (i k : Nat) : at_ M i k < 256 := by
  have := (h.el i).getD k
  unfold at_; omega
def dotN (u v : Nat → Nat) (n : Nat) : Nat := xs_ (fun i => gmul (u i) (v i)) n
/-- The product. -/
def mulM (A B : List (List Int)) (r n c : Nat) : List (List Int) := (List.range r).map fun i => (List.range c).map fun k => ((dotN (fun t => at_ A i t) (fun t => at_ B t k) n : Nat) : Int)
def mulRow (A B : List (List Int)) (n i c : Nat) : List Int := (List.range c).map fun k => ((dotN (fun t => at_ A i t) (fun t => at_ B t k) n : Nat) : Int)
theorem mulRow_succ (A B : List (List Int)) (n i c : Nat) : mulRow A B n i (c + 1) = mulRow A B n i c ++ [((dotN (fun t => at_ A i t) (fun t => at_ B t c) n : Nat) : Int)] := by simp [mulRow, List.range_succ]
theorem mulM_succ (A B : List (List Int)) (r n c : Nat) : mulM A B (r + 1) n c = mulM A B r n c ++ [mulRow A B n r c] := by simp [mulM, mulRow, List.range_succ]
theorem dot_lt {A B : List (List Int)} {r n c : Nat} (hA : Mat A r n) (i k m : Nat) : dotN (fun t => at_ A i t) (fun t => at_ B t k) m < 256 := xs_lt (fun t => gmul_lt (at_lt hA i t)) m
theorem mulM_mat {A B : List (List Int)} {r n c : Nat} (hA : Mat A r n) (hB : Mat B n c) : Mat (mulM A B r n c) r c := by
  refine ⟨by simp [mulM], hA.2.1, hB.2.2.1, fun x hx => ?_⟩
  simp only [mulM, List.mem_map, List.mem_range] at hx
  obtain ⟨i, _, rfl⟩ := hx
  refine ⟨by simp, fun v hv => ?_⟩
  simp only [List.mem_map, List.mem_range] at hv
  obtain ⟨k, _, rfl⟩ := hv
  have := dot_lt (B := B) (c := c) hA i k n
  omega
theorem mulM_at (A B : List (List Int)) (r n c i k : Nat) (hi : i < r) (hk : k < c) : at_ (mulM A B r n c) i k = dotN (fun t => at_ A i t) (fun t => at_ B t k) n := by
  unfold at_
  have e : (mulM A B r n c).getD i [] = mulRow A B n i c := by simp [mulM, mulRow, List.getD, hi]
  rw [e]
  unfold mulRow
  rw [show ((List.range c).map fun k => ((dotN (fun t => at_ A i t) (fun t => at_ B t k) n : Nat) : Int)).getD k 0 = ((dotN (fun t => at_ A i t) (fun t => at_ B t k) n : Nat) : Int) from by
    rw [List.getD, List.getElem?_map, List.getElem?_range hk]; rfl]
  exact Int.toNat_natCast _
/-- Multiplication is associative. -/
theorem mulM_assoc {A B C : List (List Int)} {a b c d : Nat} (hA : Mat A a b) (hB : Mat B b c) (hC : Mat C c d) : mulM (mulM A B a b c) C a c d = mulM A (mulM B C b c d) a b d := by
  unfold mulM
  apply List.map_congr_left
  intro i hi
  apply List.map_congr_left
  intro k hk
  have hi := List.mem_range.1 hi
  have hk := List.mem_range.1 hk
  congr 1
  show dotN (fun t => at_ (mulM A B a b c) i t) (fun t => at_ C t k) c = dotN (fun t => at_ A i t) (fun t => at_ (mulM B C b c d) t k) b
  unfold dotN
  rw [xs_congr (g := fun t => xs_ (fun s => gmul (gmul (at_ A i s) (at_ B s t)) (at_ C t k)) b) c (fun t ht => by
    show gmul (at_ (mulM A B a b c) i t) _ = _
    rw [mulM_at A B a b c i t hi ht]; exact xs_mul_r _ (fun s => gmul_lt (at_lt hA i s)) b)]
  rw [xs_congr (f := fun t => gmul (at_ A i t) (at_ (mulM B C b c d) t k)) (g := fun s => xs_ (fun t => gmul (gmul (at_ A i s) (at_ B s t)) (at_ C t k)) c) b (fun s hs => by
    show gmul _ (at_ (mulM B C b c d) s k) = _
    rw [mulM_at B C b c d s k hs hk]
    unfold dotN
    rw [xs_mul_l (at_lt hA i s) (fun t => gmul_lt (at_lt hB s t)) c]
    exact xs_congr c (fun t _ => (gmul_assoc _ (at_lt hA i s) (at_lt hB s t)).symm))]
  exact xs_swap (fun t s => gmul (gmul (at_ A i s) (at_ B s t)) (at_ C t k)) b c
/-- A matrix applied to a list. -/
def appM (M : List (List Int)) (v : List Int) (r n : Nat) : List Int := (List.range r).map fun i => ((dotN (fun t => at_ M i t) (fun t => (v.getD t 0).toNat) n : Nat) : Int)
theorem appM_succ (M : List (List Int)) (v : List Int) (r n : Nat) : appM M v (r + 1) n = appM M v r n ++ [((dotN (fun t => at_ M r t) (fun t => (v.getD t 0).toNat) n : Nat) : Int)] := by simp [appM, List.range_succ]
theorem appM_length (M : List (List Int)) (v : List Int) (r n : Nat) : (appM M v r n).length = r := by simp [appM]
theorem appM_el {M : List (List Int)} {r n : Nat} (h : Mat M r n) (v : List Int) (m : Nat) : El (appM M v m n) := by
  intro x hx
  simp only [appM, List.mem_map, List.mem_range] at hx
  obtain ⟨i, _, rfl⟩ := hx
  have : dotN (fun t => at_ M i t) (fun t => (v.getD t 0).toNat) n < 256 := xs_lt (fun t => gmul_lt (at_lt h i t)) n
  omega
theorem appM_at (M : List (List Int)) (v : List Int) (r n i : Nat) (hi : i < r) : ((appM M v r n).getD i 0).toNat = dotN (fun t => at_ M i t) (fun t => (v.getD t 0).toNat) n := by
  unfold appM
  rw [show ((List.range r).map fun i => ((dotN (fun t => at_ M i t) (fun t => (v.getD t 0).toNat) n : Nat) : Int)).getD i 0 = ((dotN (fun t => at_ M i t) (fun t => (v.getD t 0).toNat) n : Nat) : Int) from by
    rw [List.getD, List.getElem?_map, List.getElem?_range hi]; rfl]
  exact Int.toNat_natCast _
theorem appM_assoc {A B : List (List Int)} {a b c : Nat} (hA : Mat A a b) (hB : Mat B b c) (v : List Int) : appM A (appM B v b c) a b = appM (mulM A B a b c) v a c := by
  unfold appM
  apply List.map_congr_left
  intro i hi
  have hi := List.mem_range.1 hi
  congr 1
  show dotN (fun t => at_ A i t) (fun t => ((appM B v b c).getD t 0).toNat) b = dotN (fun t => at_ (mulM A B a b c) i t) (fun t => (v.getD t 0).toNat) c
  unfold dotN
  rw [xs_congr (f := fun t => gmul (at_ (mulM A B a b c) i t) ((v.getD t 0).toNat)) (g := fun t => xs_ (fun s => gmul (gmul (at_ A i s) (at_ B s t)) ((v.getD t 0).toNat)) b) c (fun t ht => by
    show gmul (at_ (mulM A B a b c) i t) _ = _
    rw [mulM_at A B a b c i t hi ht]; exact xs_mul_r _ (fun s => gmul_lt (at_lt hA i s)) b)]
  rw [xs_congr (g := fun s => xs_ (fun t => gmul (gmul (at_ A i s) (at_ B s t)) ((v.getD t 0).toNat)) c) b (fun s hs => by
    show gmul _ (((appM B v b c).getD s 0).toNat) = _
    rw [appM_at B v b c s hs]
    unfold dotN
    rw [xs_mul_l (at_lt hA i s) (fun t => gmul_lt (at_lt hB s t)) c]
    exact xs_congr c (fun t _ => (gmul_assoc _ (at_lt hA i s) (at_lt hB s t)).symm))]
  exact (xs_swap (fun t s => gmul (gmul (at_ A i s) (at_ B s t)) ((v.getD t 0).toNat)) b c).symm
end Go.Proofs.Ytkfjkdonbmjniaa
