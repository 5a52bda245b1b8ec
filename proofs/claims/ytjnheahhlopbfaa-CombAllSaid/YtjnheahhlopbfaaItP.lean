/- All picks, in order: plain. -/
import Derived.Test.YtjnheahhlopbfaaCombP
namespace Go.Proofs.Ytjnheahhlopbfaa
set_option linter.unusedVariables false

/-- The picks of r more, from a number on, below n, behind those of p. -/
def ext (n : Nat) : Nat → Nat → List Nat → List (List Nat)
  | 0, _, p => [p]
  | r + 1, f, p => (List.range' f (n - r - f)).flatMap fun x => ext n r (x + 1) (p ++ [x])
theorem ext_pre (n : Nat) : ∀ (r f : Nat) (p q : List Nat), ext n r f (q ++ p) = (ext n r f p).map (q ++ ·)
  | 0, _, _, _ => rfl
  | r + 1, f, p, q => by
    simp only [ext, List.map_flatMap]
    congr 1
    funext x
    rw [List.append_assoc, ext_pre n r (x + 1) (p ++ [x]) q]
theorem ext_cons (n r f : Nat) (h : f < n - r) : ext n (r + 1) f [] = (ext n r (f + 1) []).map (f :: ·) ++ ext n (r + 1) (f + 1) [] := by
  have e : n - r - f = (n - r - (f + 1)) + 1 := by omega
  show (List.range' f (n - r - f)).flatMap _ = _
  rw [e, List.range'_succ, List.flatMap_cons]
  congr 1
  exact ext_pre n r (f + 1) [] [f]
theorem ext_none (n r f : Nat) (h : n - r ≤ f) : ext n (r + 1) f [] = [] := by
  show (List.range' f (n - r - f)).flatMap _ = _
  rw [show n - r - f = 0 by omega]
  rfl
theorem ext_length (n : Nat) (hn : n ≤ 12) : ∀ (r d f : Nat), r ≤ 13 → f + d = n → (ext n r f []).length = pas d r := by
  intro r
  induction r with
  | zero => intro d f _ _; rw [pas_zero]; rfl
  | succ r ih =>
    intro d
    induction d with
    | zero =>
      intro f hr hf
      rw [ext_none n r f (by omega)]
      exact (pas_out (by omega) hr (by omega)).symm
    | succ d ihd =>
      intro f hr hf
      by_cases h : f < n - r
      · rw [ext_cons n r f h, List.length_append, List.length_map, ih d (f + 1) (by omega) (by omega), ihd (f + 1) hr (by omega), pas_succ]
      · rw [ext_none n r f (by omega)]
        exact (pas_out (by omega) hr (by omega)).symm
theorem ext_at (n : Nat) (hn : n ≤ 12) : ∀ (r d f : Nat), r ≤ 13 → f + d = n → ∀ (j : Nat) (p : List Nat), (ext n r f [])[j]? = some p → Pick n f p ∧ p.length = r ∧ rk n d p = j := by
  intro r
  induction r with
  | zero =>
    intro d f _ hf j p hp
    cases j with
    | zero =>
      obtain rfl : [] = p := by simpa [ext] using hp
      exact ⟨by show f ≤ n; omega, rfl, by rw [rk_nil]⟩
    | succ j => simp [ext] at hp
  | succ r ih =>
    intro d
    induction d with
    | zero =>
      intro f hr hf j p hp
      rw [ext_none n r f (by omega)] at hp
      simp at hp
    | succ d ihd =>
      intro f hr hf j p hp
      by_cases h : f < n - r
      · rw [ext_cons n r f h] at hp
        have hl := ext_length n hn r d (f + 1) (by omega) (by omega)
        by_cases hj : j < pas d r
        · rw [List.getElem?_append_left (by rw [List.length_map, hl]; exact hj), List.getElem?_map] at hp
          obtain ⟨q, hq, rfl⟩ := Option.map_eq_some_iff.1 hp
          obtain ⟨h1, h2, h3⟩ := ih d (f + 1) (by omega) (by omega) j q hq
          refine ⟨⟨Nat.le_refl _, by omega, h1⟩, by rw [List.length_cons, h2], ?_⟩
          rw [rk, if_pos (by omega), h3]
        · rw [List.getElem?_append_right (by rw [List.length_map, hl]; omega), List.length_map, hl] at hp
          obtain ⟨h1, h2, h3⟩ := ihd (f + 1) hr (by omega) _ p hp
          cases p with
          | nil => simp at h2
          | cons z ps =>
            have h1' := h1
            obtain ⟨hz1, hz2, hz3⟩ := h1
            refine ⟨⟨by omega, hz2, hz3⟩, h2, ?_⟩
            rw [rk, if_neg (by omega), h3]
            have : ps.length = r := by simpa using h2
            rw [this, show d = n - (n - d) by omega] at *
            omega
      · rw [ext_none n r f (by omega)] at hp
        simp at hp
/-- The first of two picks comes ahead of the second one. -/
def lexLt (a b : List Nat) : Prop := ∃ i, i < a.length ∧ i < b.length ∧ (∀ j, j < i → a.getD j 0 = b.getD j 0) ∧ a.getD i 0 < b.getD i 0
theorem lexLt.cons {a b : List Nat} (x : Nat) (h : lexLt a b) : lexLt (x :: a) (x :: b) := by
  obtain ⟨i, h1, h2, h3, h4⟩ := h
  refine ⟨i + 1, by simpa using h1, by simpa using h2, fun j hj => ?_, by simpa using h4⟩
  cases j with
  | zero => rfl
  | succ j => simpa using h3 j (by omega)
theorem ext_sorted (n : Nat) (hn : n ≤ 12) : ∀ (r d f : Nat), r ≤ 13 → f + d = n → (ext n r f []).Pairwise lexLt := by
  intro r
  induction r with
  | zero => intro d f _ _; exact List.pairwise_singleton _ _
  | succ r ih =>
    intro d
    induction d with
    | zero => intro f hr hf; rw [ext_none n r f (by omega)]; exact List.Pairwise.nil
    | succ d ihd =>
      intro f hr hf
      by_cases h : f < n - r
      · rw [ext_cons n r f h, List.pairwise_append]
        refine ⟨List.pairwise_map.2 ((ih d (f + 1) (by omega) (by omega)).imp fun h => h.cons f), ihd (f + 1) hr (by omega), ?_⟩
        intro a ha b hb
        obtain ⟨q, hq, rfl⟩ := List.mem_map.1 ha
        obtain ⟨j, hj⟩ := List.getElem?_of_mem hb
        obtain ⟨h1, h2, h3⟩ := ext_at n hn (r + 1) d (f + 1) hr (by omega) j b hj
        cases b with
        | nil => simp at h2
        | cons z ps => exact ⟨0, by simp, by simp, fun j hj => by omega, by have := h1.1; simp; omega⟩
      · rw [ext_none n r f (by omega)]; exact List.Pairwise.nil
/-- All picks of k below n. -/
def picks (n k : Nat) : List (List Nat) := ext n k 0 []
theorem picks_length {n k : Nat} (hn : n ≤ 12) (hk : k ≤ 12) : (picks n k).length = pas n k := ext_length n hn k n 0 (by omega) (by omega)
theorem picks_at {n k : Nat} (hn : n ≤ 12) (hk : k ≤ 12) {j : Nat} {p : List Nat} (h : (picks n k)[j]? = some p) : Pick n 0 p ∧ p.length = k ∧ rk n n p = j := ext_at n hn k n 0 (by omega) (by omega) j p h
theorem picks_lt {n k : Nat} (hn : n ≤ 12) (hk : k ≤ 12) {j : Nat} {p q : List Nat} (h : (picks n k)[j]? = some p) (h2 : (picks n k)[j + 1]? = some q) : lexLt p q := by
  have hs := ext_sorted n hn k n 0 (by omega) (by omega)
  rw [List.pairwise_iff_getElem] at hs
  obtain ⟨h3, rfl⟩ := List.getElem?_eq_some_iff.1 h
  obtain ⟨h4, rfl⟩ := List.getElem?_eq_some_iff.1 h2
  exact hs j (j + 1) h3 h4 (by omega)
end Go.Proofs.Ytjnheahhlopbfaa
