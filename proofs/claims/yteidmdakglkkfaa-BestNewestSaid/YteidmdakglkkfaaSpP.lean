/- A space of units, plainly: what package space computes. No program here. -/
import Derived.Test.YteidmdakglkkfaaFacts
namespace Go.Proofs.Yteidmdakglkkfaa
open Go.RowKit
set_option linter.unusedVariables false

/-- units (0 free, 1 taken, 2 rests, 3 rested), how many are free, the log (freed?, from, to) -/
structure Sp where
  us : List Nat
  left : Int
  log : List (Bool × Nat × Nat)
structure Deed where
  kind : Int
  from_ : Int
  count : Int
structure Found where
  code : Nat
  from_ : Nat
  left : Int

/-- units f .. t-1 become v -/
def setR (us : List Nat) (f t v : Nat) : List Nat := us.take f ++ List.replicate (t - f) v ++ us.drop t
theorem setR_length (us : List Nat) (f t v : Nat) (h : f ≤ t) (ht : t ≤ us.length) : (setR us f t v).length = us.length := by simp [setR]; omega
theorem setR_nil (us : List Nat) (f v : Nat) : setR us f f v = us := by simp [setR]
theorem setR_getD (us : List Nat) (f t v : Nat) (h : f ≤ t) (ht : t ≤ us.length) (i : Nat) : (setR us f t v).getD i 0 = if f ≤ i ∧ i < t then v else us.getD i 0 := by
  have hl : (us.take f).length = f := by rw [List.length_take]; omega
  unfold setR
  by_cases h1 : i < f
  · rw [if_neg (by omega), List.append_assoc, List.getD_eq_getElem?_getD, List.getElem?_append_left (by omega), List.getElem?_take, if_pos h1, List.getD_eq_getElem?_getD]
  · by_cases h2 : i < t
    · rw [if_pos ⟨by omega, h2⟩, List.append_assoc, List.getD_eq_getElem?_getD, List.getElem?_append_right (by omega), hl, List.getElem?_append_left (by rw [List.length_replicate]; omega), List.getElem?_replicate, if_pos (by omega)]; rfl
    · rw [if_neg (by omega), List.append_assoc, List.getD_eq_getElem?_getD, List.getElem?_append_right (by omega), hl, List.getElem?_append_right (by rw [List.length_replicate]; omega), List.length_replicate, List.getElem?_drop, List.getD_eq_getElem?_getD]
      rw [show t + (i - f - (t - f)) = i by omega]
theorem list_ext {xs ys : List Nat} (hl : xs.length = ys.length) (h : ∀ i, i < xs.length → xs.getD i 0 = ys.getD i 0) : xs = ys := by
  apply List.ext_getElem hl
  intro i h1 h2
  have := h i h1
  simpa [List.getD, h1, h2] using this
theorem set_getD (us : List Nat) (i v j : Nat) : (us.set i v).getD j 0 = if j = i ∧ j < us.length then v else us.getD j 0 := by
  rw [List.getD_eq_getElem?_getD, List.getElem?_set, List.getD_eq_getElem?_getD]
  by_cases h : i = j
  · subst h
    by_cases h2 : i < us.length
    · simp [h2]
    · simp [h2]
  · rw [if_neg h, if_neg (by omega)]
theorem setR_step (us : List Nat) (f i v : Nat) (h : f ≤ i) (hi : i < us.length) : setR us f (i + 1) v = (setR us f i v).set i v := by
  apply list_ext (by rw [setR_length _ _ _ _ (by omega) (by omega), List.length_set, setR_length _ _ _ _ h (by omega)])
  intro j hj
  rw [setR_length _ _ _ _ (by omega) (by omega)] at hj
  rw [setR_getD _ _ _ _ (by omega) (by omega), set_getD, setR_getD _ _ _ _ h (by omega), setR_length _ _ _ _ h (by omega)]
  by_cases h1 : j = i
  · rw [if_pos (by omega), if_pos (by omega)]
  · by_cases h2 : f ≤ j ∧ j < i
    · rw [if_pos (by omega), if_neg (by omega), if_pos h2]
    · rw [if_neg (by omega), if_neg (by omega), if_neg h2]

/-- are units f .. t-1 all v? -/
def allR (us : List Nat) (f t v : Nat) : Bool := (List.range' f (t - f)).all fun i => us.getD i 0 == v

/-- the ranges of the units that are so: from unit number i on, in a range that began at f? -/
def runsGo (p : Nat → Bool) : Nat → Option Nat → List Nat → List (Nat × Nat)
  | _, none, [] => []
  | i, some f, [] => [(f, i)]
  | i, none, u :: us => if p u then runsGo p (i + 1) (some i) us else runsGo p (i + 1) none us
  | i, some f, u :: us => if p u then runsGo p (i + 1) (some f) us else (f, i) :: runsGo p (i + 1) none us
def runs (p : Nat → Bool) (us : List Nat) : List (Nat × Nat) := runsGo p 0 none us
/-- the first place with so many free in a row -/
def findRow (count : Nat) : Nat → Nat → List Nat → Option Nat
  | _, _, [] => none
  | i, row, u :: us => if (if u = 0 then row + 1 else 0) = count then some (i + 1 - count) else findRow count (i + 1) (if u = 0 then row + 1 else 0) us

def Sp.take (s : Sp) (count : Int) : Sp × Nat × Nat :=
  if count < 1 ∨ (s.us.length : Int) < count then (s, 2, 0)
  else match findRow count.toNat 0 0 s.us with
    | none => (s, 8, 0)
    | some f => ({ us := setR s.us f (f + count.toNat) 1, left := s.left - count, log := s.log ++ [(false, f, f + count.toNat)] }, 0, f)
def Sp.give (s : Sp) (from_ count : Int) : Sp × Nat :=
  if from_ < 0 ∨ count < 1 ∨ (s.us.length : Int) < count ∨ (s.us.length : Int) - count < from_ then (s, 2)
  else if allR s.us from_.toNat (from_ + count).toNat 1 then ({ s with us := setR s.us from_.toNat (from_ + count).toNat 2 }, 0) else (s, 6)
def freeRun (s : Sp) (r : Nat × Nat) : Sp := { us := setR s.us r.1 r.2 0, left := s.left + ((r.2 : Int) - r.1), log := s.log ++ [(true, r.1, r.2)] }
def Sp.freed (s : Sp) : Sp := (runs (· == 3) s.us).foldl freeRun s
def Sp.commit (s : Sp) : Sp := { s.freed with us := s.freed.us.map fun u => if u = 2 then 3 else u }
def Sp.do_ (s : Sp) (d : Deed) : Sp × Nat × Nat :=
  if d.kind = 1 then s.take d.count
  else if d.kind = 2 then ((s.give d.from_ d.count).1, (s.give d.from_ d.count).2, 0)
  else if d.kind = 3 then (s.commit, 0, 0)
  else (s, 3, 0)
def Sp.step (s : Sp) (d : Deed) : Sp × Found := ((s.do_ d).1, ⟨(s.do_ d).2.1, (s.do_ d).2.2, (s.do_ d).1.left⟩)
def Sp.play : Sp → List Deed → Sp × List Found
  | s, [] => (s, [])
  | s, d :: ds => (((s.step d).1.play ds).1, (s.step d).2 :: ((s.step d).1.play ds).2)
def Sp.new (n : Nat) : Sp := ⟨List.replicate n 0, n, []⟩
theorem play_append : ∀ (ds es : List Deed) (s : Sp), s.play (ds ++ es) = (((s.play ds).1.play es).1, (s.play ds).2 ++ ((s.play ds).1.play es).2)
  | [], es, s => rfl
  | d :: ds, es, s => by
    simp only [List.cons_append, Sp.play, play_append ds es]
theorem play_snoc (ds : List Deed) (d : Deed) (s : Sp) : s.play (ds ++ [d]) = (((s.play ds).1.step d).1, (s.play ds).2 ++ [((s.play ds).1.step d).2]) := by
  rw [play_append]; rfl
theorem play_length : ∀ (ds : List Deed) (s : Sp), (s.play ds).2.length = ds.length
  | [], s => rfl
  | d :: ds, s => by simp [Sp.play, play_length ds]
end Go.Proofs.Yteidmdakglkkfaa
