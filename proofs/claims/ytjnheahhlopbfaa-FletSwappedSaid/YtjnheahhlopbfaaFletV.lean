/- The plain law on two neighbouring words that changed places. No program here. -/
import Derived.Test.YtjnheahhlopbfaaFletR
namespace Go.Proofs.Ytjnheahhlopbfaa
open Go.RowKit
set_option linter.unusedVariables false

def swapped (X : List Int) (i : Nat) : List Int := X.take i ++ ((X.drop (i + 4)).take 4 ++ ((X.drop i).take 4 ++ X.drop (i + 8)))
theorem swapped_length (X : List Int) (i : Nat) (h : i + 8 ≤ X.length) : (swapped X i).length = X.length := by simp [swapped]; omega
theorem drop4 (X : List Int) (i : Nat) (h : i + 4 ≤ X.length) : (X.drop i).take 4 = [X.getD i 0, X.getD (i + 1) 0, X.getD (i + 2) 0, X.getD (i + 3) 0] := by
  have g : ∀ i (hi : i < X.length), X.getD i 0 = X[i] := fun i hi => by simp [List.getD, hi]
  rw [g _ (by omega), g _ (by omega), g _ (by omega), g _ (by omega)]
  rw [List.drop_eq_getElem_cons (by omega), List.drop_eq_getElem_cons (by omega), List.drop_eq_getElem_cons (by omega), List.drop_eq_getElem_cons (by omega)]
  rfl
theorem parts8 (X : List Int) (i : Nat) (h : i + 8 ≤ X.length) : X = X.take i ++ ((X.drop i).take 4 ++ ((X.drop (i + 4)).take 4 ++ X.drop (i + 8))) := by
  have e1 : X.drop (i + 4) = (X.drop i).drop 4 := by rw [List.drop_drop]
  have e2 : X.drop (i + 8) = (X.drop (i + 4)).drop 4 := by rw [List.drop_drop]
  rw [e2, List.take_append_drop, e1, List.take_append_drop, List.take_append_drop]
theorem four_word (a b c d : Int) (r : List Int) : wordsOf ([a, b, c, d] ++ r) = wordOf a b c d :: wordsOf r := rfl

theorem swapped_law {X : List Int} (hX : Bytes X) (k : Nat) (h : 4 * k + 8 ≤ X.length) :
    (Four.zero.words (wordsOf X)).a = (Four.zero.words (wordsOf (swapped X (4 * k)))).a ∧ ((Four.zero.words (wordsOf X)).b = (Four.zero.words (wordsOf (swapped X (4 * k)))).b → X = swapped X (4 * k)) := by
  have hl4 : (X.take (4 * k)).length % 4 = 0 := by rw [List.length_take]; omega
  have eX : wordsOf X = wordsOf (X.take (4 * k)) ++ (wordOf (X.getD (4 * k) 0) (X.getD (4 * k + 1) 0) (X.getD (4 * k + 2) 0) (X.getD (4 * k + 3) 0) ::
      wordOf (X.getD (4 * k + 4) 0) (X.getD (4 * k + 4 + 1) 0) (X.getD (4 * k + 4 + 2) 0) (X.getD (4 * k + 4 + 3) 0) :: wordsOf (X.drop (4 * k + 8))) := by
    conv => lhs; rw [parts8 X (4 * k) h]
    rw [wordsOf_append _ _ hl4, drop4 X _ (by omega), drop4 X _ (by omega), four_word, four_word]
  have eY : wordsOf (swapped X (4 * k)) = wordsOf (X.take (4 * k)) ++ (wordOf (X.getD (4 * k + 4) 0) (X.getD (4 * k + 4 + 1) 0) (X.getD (4 * k + 4 + 2) 0) (X.getD (4 * k + 4 + 3) 0) ::
      wordOf (X.getD (4 * k) 0) (X.getD (4 * k + 1) 0) (X.getD (4 * k + 2) 0) (X.getD (4 * k + 3) 0) :: wordsOf (X.drop (4 * k + 8))) := by
    unfold swapped
    rw [wordsOf_append _ _ hl4, drop4 X _ (by omega), drop4 X _ (by omega), four_word, four_word]
  have hu := word_bd (hX.getD (4 * k)) (hX.getD (4 * k + 1)) (hX.getD (4 * k + 2)) (hX.getD (4 * k + 3))
  have hv := word_bd (hX.getD (4 * k + 4)) (hX.getD (4 * k + 4 + 1)) (hX.getD (4 * k + 4 + 2)) (hX.getD (4 * k + 4 + 3))
  have hinj := fun h => word_inj (hX.getD (4 * k)) (hX.getD (4 * k + 1)) (hX.getD (4 * k + 2)) (hX.getD (4 * k + 3)) (hX.getD (4 * k + 4)) (hX.getD (4 * k + 4 + 1)) (hX.getD (4 * k + 4 + 2)) (hX.getD (4 * k + 4 + 3)) h
  rw [zero_words, zero_words, eX, eY, wordsE_append, wordsE_append]
  generalize hu' : wordOf (X.getD (4 * k) 0) (X.getD (4 * k + 1) 0) (X.getD (4 * k + 2) 0) (X.getD (4 * k + 3) 0) = u at *
  generalize hv' : wordOf (X.getD (4 * k + 4) 0) (X.getD (4 * k + 4 + 1) 0) (X.getD (4 * k + 4 + 2) 0) (X.getD (4 * k + 4 + 3) 0) = v at *
  generalize Four.zero.wordsE (wordsOf (X.take (4 * k))) = s
  generalize hr : wordsOf (X.drop (4 * k + 8)) = r
  have a1 : s.wordsE (u :: v :: r) = ((s.wordE u).wordE v).wordsE r := rfl
  have a2 : s.wordsE (v :: u :: r) = ((s.wordE v).wordE u).wordsE r := rfl
  rw [a1, a2]
  have ba : ((s.wordE u).wordE v).a = ((s.wordE v).wordE u).a := by simp [Four.wordE]; omega
  have b1 := wordsE_b ((s.wordE u).wordE v) r
  have b2 := wordsE_b ((s.wordE v).wordE u) r
  have c1 : ((s.wordE u).wordE v).b = s.b + 2 * s.a + 2 * u + v := by simp [Four.wordE]; omega
  have c2 : ((s.wordE v).wordE u).b = s.b + 2 * s.a + 2 * v + u := by simp [Four.wordE]; omega
  refine ⟨?_, fun hb => ?_⟩
  · show wrap64 (((s.wordE u).wordE v).wordsE r).a = wrap64 (((s.wordE v).wordE u).wordsE r).a
    rw [wordsE_a, wordsE_a, ba]
  · have hb' : wrap64 (((s.wordE u).wordE v).wordsE r).b = wrap64 (((s.wordE v).wordE u).wordsE r).b := hb
    rw [ba] at b1
    have := wrap_eq hb' (by omega) (by omega)
    have huv : u = v := by omega
    obtain ⟨e0, e1, e2, e3⟩ := hinj huv
    have hd : (X.drop (4 * k)).take 4 = (X.drop (4 * k + 4)).take 4 := by
      rw [drop4 X _ (by omega), drop4 X _ (by omega), e0, e1, e2, e3]
    conv => lhs; rw [parts8 X (4 * k) h]
    unfold swapped
    rw [hd]
end Go.Proofs.Ytjnheahhlopbfaa
