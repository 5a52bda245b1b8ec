/- Plain facts on the checksum: words, sums that wrap round, and what the exact sums say. No program here. -/
import Derived.Test.YteidmdakglkkfaaMem
import Derived.Test.YteidmdakglkkfaaBits
namespace Go.Proofs.Yteidmdakglkkfaa
open Go.RowKit
set_option linter.unusedVariables false

/-- the four sums -/
structure Four where
  a : Int
  b : Int
  c : Int
  d : Int
def Four.val (s : Four) : Value := .agg #[.int .i64 s.a, .int .i64 s.b, .int .i64 s.c, .int .i64 s.d]
/-- one word more, wrapping round -/
def Four.word (s : Four) (x : Int) : Four :=
  ⟨wrap64 (s.a + x), wrap64 (s.b + wrap64 (s.a + x)), wrap64 (s.c + wrap64 (s.b + wrap64 (s.a + x))), wrap64 (s.d + wrap64 (s.c + wrap64 (s.b + wrap64 (s.a + x))))⟩
def Four.zero : Four := ⟨0, 0, 0, 0⟩
def Four.words (s : Four) (l : List Int) : Four := l.foldl Four.word s
def wordOf (a b c d : Int) : Int := a + 256 * b + 65536 * c + 16777216 * d
def wordsOf : List Int → List Int
  | a :: b :: c :: d :: r => wordOf a b c d :: wordsOf r
  | _ => []

theorem wordsOf_append : ∀ (l m : List Int), l.length % 4 = 0 → wordsOf (l ++ m) = wordsOf l ++ wordsOf m
  | [], m, _ => rfl
  | [_], m, h => by simp at h
  | [_, _], m, h => by simp at h
  | [_, _, _], m, h => by simp at h
  | a :: b :: c :: d :: r, m, h => by
    have h' : r.length % 4 = 0 := by simp at h; omega
    show wordOf a b c d :: wordsOf (r ++ m) = _
    rw [wordsOf_append r m h']; rfl
theorem wordsOf_length : ∀ (l : List Int), (wordsOf l).length = l.length / 4
  | [] => rfl
  | [_] => by simp [wordsOf]
  | [_, _] => by simp [wordsOf]
  | [_, _, _] => by simp [wordsOf]
  | a :: b :: c :: d :: r => by
    show (wordsOf r).length + 1 = _
    rw [wordsOf_length r]; simp; omega
theorem words_append (s : Four) (l m : List Int) : s.words (l ++ m) = (s.words l).words m := by simp [Four.words]
theorem wordsOf_four (l : List Int) (k : Nat) (h : 4 * k + 4 ≤ l.length) :
    wordsOf (l.take (4 * (k + 1))) = wordsOf (l.take (4 * k)) ++ [wordOf (l.getD (4 * k + 0) 0) (l.getD (4 * k + 1) 0) (l.getD (4 * k + 2) 0) (l.getD (4 * k + 3) 0)] := by
  have e : l.take (4 * (k + 1)) = l.take (4 * k) ++ [l.getD (4 * k + 0) 0, l.getD (4 * k + 1) 0, l.getD (4 * k + 2) 0, l.getD (4 * k + 3) 0] := by
    rw [show 4 * (k + 1) = 4 * k + 1 + 1 + 1 + 1 by omega]
    rw [List.take_succ_eq_append_getElem (by omega), List.take_succ_eq_append_getElem (by omega), List.take_succ_eq_append_getElem (by omega), List.take_succ_eq_append_getElem (by omega)]
    have g : ∀ i (hi : i < l.length), l.getD i 0 = l[i] := fun i hi => by simp [List.getD, hi]
    rw [g _ (by omega), g _ (by omega), g _ (by omega), g _ (by omega)]
    simp only [List.append_assoc, List.cons_append, List.nil_append, Nat.add_zero]
  rw [e, wordsOf_append _ _ (by rw [List.length_take]; omega)]
  rfl
theorem words_nil (s : Four) : s.words [] = s := rfl
theorem words_cons (s : Four) (x : Int) (l : List Int) : s.words (x :: l) = (s.word x).words l := rfl
theorem words_snoc (s : Four) (x : Int) (l : List Int) : s.words (l ++ [x]) = (s.words l).word x := by simp [Four.words]
end Go.Proofs.Yteidmdakglkkfaa
