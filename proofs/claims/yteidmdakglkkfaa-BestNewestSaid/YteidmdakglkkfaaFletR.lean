/- The plain laws on changed and swapped words. No program here. -/
import Derived.Test.YteidmdakglkkfaaFletQ
namespace Go.Proofs.Yteidmdakglkkfaa
open Go.RowKit
set_option linter.unusedVariables false

def Bytes (X : List Int) : Prop := ∀ x ∈ X, 0 ≤ x ∧ x ≤ 255
theorem Bytes.getD {X : List Int} (h : Bytes X) (i : Nat) : 0 ≤ X.getD i 0 ∧ X.getD i 0 ≤ 255 := by
  by_cases hi : i < X.length
  · have : X.getD i 0 = X[i] := by simp [List.getD, hi]
    rw [this]; exact h _ (List.getElem_mem hi)
  · have : X.getD i 0 = 0 := by simp [List.getD, List.getElem?_eq_none (by omega : X.length ≤ i)]
    rw [this]; omega
theorem split4 (X : List Int) (k : Nat) (h : 4 * k + 4 ≤ X.length) :
    X = X.take (4 * k) ++ ([X.getD (4 * k) 0, X.getD (4 * k + 1) 0, X.getD (4 * k + 2) 0, X.getD (4 * k + 3) 0] ++ X.drop (4 * k + 4)) := by
  have g : ∀ i (hi : i < X.length), X.getD i 0 = X[i] := fun i hi => by simp [List.getD, hi]
  rw [g _ (by omega), g _ (by omega), g _ (by omega), g _ (by omega)]
  have e : X.drop (4 * k) = [X[4 * k], X[4 * k + 1], X[4 * k + 2], X[4 * k + 3]] ++ X.drop (4 * k + 4) := by
    rw [List.drop_eq_getElem_cons (by omega), List.drop_eq_getElem_cons (by omega), List.drop_eq_getElem_cons (by omega), List.drop_eq_getElem_cons (by omega)]
    simp [Nat.add_assoc]
  rw [← e, List.take_append_drop]
theorem take_of_getD {X Y : List Int} (n : Nat) (hl : X.length = Y.length) (h : ∀ j, j < n → X.getD j 0 = Y.getD j 0) : X.take n = Y.take n := by
  apply List.ext_getElem (by simp [hl])
  intro i h1 h2
  rw [List.length_take] at h1 h2
  have := h i (by omega)
  rw [List.getElem_take, List.getElem_take]
  simpa [List.getD, show i < X.length by omega, show i < Y.length by omega] using this
theorem drop_of_getD {X Y : List Int} (n : Nat) (hl : X.length = Y.length) (h : ∀ j, n ≤ j → X.getD j 0 = Y.getD j 0) : X.drop n = Y.drop n := by
  apply List.ext_getElem (by simp [hl])
  intro i h1 h2
  simp at h1 h2
  have := h (n + i) (by omega)
  rw [List.getElem_drop, List.getElem_drop]
  simpa [List.getD, show n + i < X.length by omega, show n + i < Y.length by omega] using this
theorem word_inj {a b c d a' b' c' d' : Int} (ha : 0 ≤ a ∧ a ≤ 255) (hb : 0 ≤ b ∧ b ≤ 255) (hc : 0 ≤ c ∧ c ≤ 255) (hd : 0 ≤ d ∧ d ≤ 255) (ha' : 0 ≤ a' ∧ a' ≤ 255) (hb' : 0 ≤ b' ∧ b' ≤ 255) (hc' : 0 ≤ c' ∧ c' ≤ 255) (hd' : 0 ≤ d' ∧ d' ≤ 255)
    (h : wordOf a b c d = wordOf a' b' c' d') : a = a' ∧ b = b' ∧ c = c' ∧ d = d' := by unfold wordOf at h; omega
theorem word_bd {a b c d : Int} (ha : 0 ≤ a ∧ a ≤ 255) (hb : 0 ≤ b ∧ b ≤ 255) (hc : 0 ≤ c ∧ c ≤ 255) (hd : 0 ≤ d ∧ d ≤ 255) : 0 ≤ wordOf a b c d ∧ wordOf a b c d ≤ 4294967295 := by unfold wordOf; omega

theorem changed_a {X Y : List Int} (hl : X.length = Y.length) (h4 : X.length % 4 = 0) (hX : Bytes X) (hY : Bytes Y) (k : Nat) (hk : 4 * k + 4 ≤ X.length)
    (hlo : ∀ j, j < 4 * k → X.getD j 0 = Y.getD j 0) (hhi : ∀ j, 4 * k + 4 ≤ j → X.getD j 0 = Y.getD j 0) :
    (Four.zero.words (wordsOf X)).a = (Four.zero.words (wordsOf Y)).a → X = Y := by
  · intro h
    have eX := split4 X k hk
    have eY := split4 Y k (by omega)
    rw [← take_of_getD (4 * k) hl hlo, ← drop_of_getD (4 * k + 4) hl hhi] at eY
    rw [zero_words, zero_words] at h
    have ha : (Four.zero.wordsE (wordsOf X)).wrap.a = (Four.zero.wordsE (wordsOf Y)).wrap.a := h
    have wX : wordsOf X = wordsOf (X.take (4 * k)) ++ (wordOf (X.getD (4 * k) 0) (X.getD (4 * k + 1) 0) (X.getD (4 * k + 2) 0) (X.getD (4 * k + 3) 0) :: wordsOf (X.drop (4 * k + 4))) := by
      conv => lhs; rw [eX]
      rw [wordsOf_append _ _ (by rw [List.length_take]; omega)]; rfl
    have wY : wordsOf Y = wordsOf (X.take (4 * k)) ++ (wordOf (Y.getD (4 * k) 0) (Y.getD (4 * k + 1) 0) (Y.getD (4 * k + 2) 0) (Y.getD (4 * k + 3) 0) :: wordsOf (X.drop (4 * k + 4))) := by
      conv => lhs; rw [eY]
      rw [wordsOf_append _ _ (by rw [List.length_take]; omega)]; rfl
    have hu := word_bd (hX.getD (4 * k)) (hX.getD (4 * k + 1)) (hX.getD (4 * k + 2)) (hX.getD (4 * k + 3))
    have hv := word_bd (hY.getD (4 * k)) (hY.getD (4 * k + 1)) (hY.getD (4 * k + 2)) (hY.getD (4 * k + 3))
    have hw : wordOf (X.getD (4 * k) 0) (X.getD (4 * k + 1) 0) (X.getD (4 * k + 2) 0) (X.getD (4 * k + 3) 0) = wordOf (Y.getD (4 * k) 0) (Y.getD (4 * k + 1) 0) (Y.getD (4 * k + 2) 0) (Y.getD (4 * k + 3) 0) := by
      have e1 := wordsE_a Four.zero (wordsOf X)
      have e2 := wordsE_a Four.zero (wordsOf Y)
      rw [wX, List.sum_append, List.sum_cons] at e1
      rw [wY, List.sum_append, List.sum_cons] at e2
      rw [← wX] at e1
      rw [← wY] at e2
      have := wrap_eq ha (by omega) (by omega)
      omega
    obtain ⟨h0, h1, h2, h3⟩ := word_inj (hX.getD _) (hX.getD _) (hX.getD _) (hX.getD _) (hY.getD _) (hY.getD _) (hY.getD _) (hY.getD _) hw
    rw [eX, eY, h0, h1, h2, h3]
end Go.Proofs.Yteidmdakglkkfaa
