/- The exact sums (which never wrap), and how the wrapping ones follow from them. No program here. -/
import Derived.Test.YteidmdakglkkfaaFletP
namespace Go.Proofs.Yteidmdakglkkfaa
open Go.RowKit
set_option linter.unusedVariables false

theorem wrap_idem (x : Int) : wrap64 (wrap64 x) = wrap64 x := by unfold wrap64; omega
theorem wrap_add_l (x y : Int) : wrap64 (wrap64 x + y) = wrap64 (x + y) := by unfold wrap64; omega
theorem wrap_add_r (x y : Int) : wrap64 (x + wrap64 y) = wrap64 (x + y) := by unfold wrap64; omega
theorem wrap_mod (x m : Int) : wrap64 (x - 18446744073709551616 * m) = wrap64 x := by unfold wrap64; omega
theorem wrap_form (x : Int) : ∃ m, wrap64 x = x - 18446744073709551616 * m := ⟨(x + 9223372036854775808) / 18446744073709551616, by unfold wrap64; omega⟩
theorem wrap_mul_r (x y : Int) : wrap64 (x * wrap64 y) = wrap64 (x * y) := by
  obtain ⟨m, hm⟩ := wrap_form y
  rw [hm, Int.mul_sub, show x * (18446744073709551616 * m) = 18446744073709551616 * (x * m) from by rw [← Int.mul_assoc, Int.mul_comm x, Int.mul_assoc]]
  exact wrap_mod _ _
theorem wrap_eq {x y : Int} (h : wrap64 x = wrap64 y) (hb : -18446744073709551616 < x - y) (hb' : x - y < 18446744073709551616) : x = y := by
  unfold wrap64 at h; omega
theorem wrap_same {x : Int} (h : -9223372036854775808 ≤ x) (h' : x ≤ 9223372036854775807) : wrap64 x = x := by unfold wrap64; omega

def Four.wrap (s : Four) : Four := ⟨wrap64 s.a, wrap64 s.b, wrap64 s.c, wrap64 s.d⟩
/-- one word more, exactly -/
def Four.wordE (s : Four) (x : Int) : Four := ⟨s.a + x, s.b + (s.a + x), s.c + (s.b + (s.a + x)), s.d + (s.c + (s.b + (s.a + x)))⟩
def Four.wordsE (s : Four) (l : List Int) : Four := l.foldl Four.wordE s
theorem wrap_word (s : Four) (x : Int) : s.wrap.word x = (s.wordE x).wrap := by
  simp only [Four.wrap, Four.word, Four.wordE, wrap_add_l, wrap_add_r]
theorem wrap_words (s : Four) (l : List Int) : s.wrap.words l = (s.wordsE l).wrap := by
  induction l generalizing s with
  | nil => rfl
  | cons x l ih => show (s.wrap.word x).words l = _; rw [wrap_word, ih]; rfl
theorem zero_words (l : List Int) : Four.zero.words l = (Four.zero.wordsE l).wrap := by
  have h := wrap_words Four.zero l
  rwa [show Four.zero.wrap = Four.zero from by simp [Four.wrap, Four.zero, wrap64]] at h
theorem wordsE_append (s : Four) (l m : List Int) : s.wordsE (l ++ m) = (s.wordsE l).wordsE m := by simp [Four.wordsE]
theorem wordsE_snoc (s : Four) (l : List Int) (x : Int) : s.wordsE (l ++ [x]) = (s.wordsE l).wordE x := by simp [Four.wordsE]

/-- triangle numbers and their sums -/
def tri : Nat → Int
  | 0 => 0
  | n + 1 => tri n + (n + 1 : Nat)
def tet : Nat → Int
  | 0 => 0
  | n + 1 => tet n + tri (n + 1)
theorem tri_eq (n : Nat) : 2 * tri n = (n : Int) * (n + 1) := by
  induction n with
  | zero => rfl
  | succ n ih =>
    rw [tri, Int.mul_add, ih]
    push_cast
    have e : ((n : Int) + 1) * ((n : Int) + 1 + 1) = (n : Int) * (n + 1) + 2 * ((n : Int) + 1) := by
      rw [Int.mul_add ((n : Int) + 1) ((n : Int) + 1) 1, Int.add_mul]; omega
    rw [e]
theorem tet_eq (n : Nat) : 3 * tet n = tri n * (n + 2) := by
  induction n with
  | zero => rfl
  | succ n ih =>
    have h := tri_eq n
    rw [tet, Int.mul_add, ih, tri]
    push_cast
    have e1 : (tri n + ((n : Int) + 1)) * ((n : Int) + 1 + 2) = tri n * (n + 2) + tri n + ((n : Int) + 1) * ((n : Int) + 1 + 2) := by
      rw [Int.add_mul, show (n : Int) + 1 + 2 = (n + 2) + 1 by omega, Int.mul_add (tri n)]; omega
    rw [e1]
    have e2 : ((n : Int) + 1) * ((n : Int) + 1 + 2) = (n : Int) * (n + 1) + 3 * (n : Int) + 3 := by
      rw [Int.mul_comm, Int.mul_add, show (n : Int) + 1 + 2 = (n : Int) + 3 by omega, Int.add_mul, Int.mul_add]; omega
    rw [e2]; omega
theorem tri_div (n : Nat) : (n : Int) * (n + 1) / 2 = tri n := by have := tri_eq n; omega
theorem tet_div (n : Nat) : tri n * (n + 2) / 3 = tet n := by have := tet_eq n; omega

/-- the sums of one list behind those of another -/
def joinE (s t : Four) (n : Nat) : Four := ⟨t.a + s.a, t.b + (n * s.a + s.b), t.c + (tri n * s.a + (n * s.b + s.c)), t.d + (tet n * s.a + (tri n * s.b + (n * s.c + s.d)))⟩
theorem joinE_eq (s : Four) (l : List Int) : s.wordsE l = joinE s (Four.zero.wordsE l) l.length := by
  suffices h : ∀ m, ∀ l : List Int, l.length = m → s.wordsE l = joinE s (Four.zero.wordsE l) m from h _ l rfl
  intro m
  induction m with
  | zero =>
    intro l hl
    obtain rfl := List.eq_nil_of_length_eq_zero hl
    simp [Four.wordsE, joinE, Four.zero, tri, tet]
  | succ m ih =>
    intro l hl
    obtain ⟨l', x, rfl⟩ : ∃ l' x, l = l' ++ [x] := ⟨l.dropLast, l.getLast (by intro h; simp [h] at hl), (List.dropLast_concat_getLast _).symm⟩
    have hl' : l'.length = m := by simpa using hl
    rw [wordsE_snoc, wordsE_snoc, ih l' hl']
    generalize Four.zero.wordsE l' = t
    simp only [joinE, Four.wordE, tri, tet]
    have e : ((m + 1 : Nat) : Int) = (m : Int) + 1 := by omega
    rw [e]
    simp only [Int.add_mul, Int.one_mul, Four.mk.injEq]
    refine ⟨by omega, by omega, by omega, by omega⟩
theorem wordsE_zeros (n : Nat) : Four.zero.wordsE (List.replicate n 0) = Four.zero := by
  induction n with
  | zero => rfl
  | succ n ih => rw [List.replicate_succ]; exact ih
theorem wordsE_a (s : Four) (l : List Int) : (s.wordsE l).a = s.a + l.sum := by
  induction l generalizing s with
  | nil => simp [Four.wordsE]
  | cons x l ih => show ((s.wordE x).wordsE l).a = _; rw [ih]; simp [Four.wordE]; omega
/-- what a difference in the sums makes of the later ones -/
theorem wordsE_b (s : Four) (l : List Int) : (s.wordsE l).b = s.b + l.length * s.a + (Four.zero.wordsE l).b := by
  have := joinE_eq s l
  rw [this]; simp [joinE]; omega
end Go.Proofs.Yteidmdakglkkfaa
