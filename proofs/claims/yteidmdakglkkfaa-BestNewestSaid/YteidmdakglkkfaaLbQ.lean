/- The sector of a label, and the label of a sector, plainly. No program here. -/
import Derived.Test.YteidmdakglkkfaaLbH
namespace Go.Proofs.Yteidmdakglkkfaa
open Go.RowKit
set_option linter.unusedVariables false
set_option maxRecDepth 100000

def fld (xs : List Int) (o s : Nat) : Int := wrap64 (bw ((xs.drop o).take s))
def labOf (xs : List Int) : Lab := ⟨fld xs 0 4, fld xs 4 4, fld xs 8 4, fld xs 12 4, fld xs 16 4, fld xs 20 4, fld xs 24 4, fld xs 28 4, fld xs 32 4, fld xs 36 8, fld xs 44 8, fld xs 52 8, fld xs 60 8⟩
def sealOf (xs : List Int) : Four := ⟨fld xs 96 8, fld xs 104 8, fld xs 112 8, fld xs 120 8⟩
def lab68 (x : Lab) : List Int := [] ++ leB 4 x.pool ++ leB 4 x.drive ++ leB 4 x.drives ++ leB 4 x.parity ++ leB 4 x.time ++ leB 4 x.addr ++ leB 4 x.count ++ leB 4 x.bytes ++ leB 4 x.birth ++ leB 8 x.a ++ leB 8 x.b ++ leB 8 x.c ++ leB 8 x.d
def lab96 (x : Lab) : List Int := lab68 x ++ List.replicate 28 0
def four32 (s : Four) : List Int := leB 8 s.a ++ leB 8 s.b ++ leB 8 s.c ++ leB 8 s.d
def sumOf (l : List Int) : Four := Four.zero.words (wordsOf l)
def encB (x : Lab) : List Int := lab96 x ++ four32 (sumOf (lab96 x))
def Lab.none : Lab := ⟨0, 0, 0, 0, 0, 0, 0, 0, 0, 0, 0, 0, 0⟩
open Classical in
noncomputable def dec (xs : List Int) : Lab × Int :=
  if xs.length ≠ 128 then (Lab.none, 1) else if sumOf (xs.take 96) ≠ sealOf xs then (Lab.none, 11) else if (labOf xs).may = true ∧ encB (labOf xs) = xs then (labOf xs, 0) else (Lab.none, 4)
def Lab.val (x : Lab) : Value := .agg #[.int .i64 x.pool, .int .i64 x.drive, .int .i64 x.drives, .int .i64 x.parity, .int .i64 x.time, .int .i64 x.addr, .int .i64 x.count, .int .i64 x.bytes, .int .i64 x.birth, .int .i64 x.a, .int .i64 x.b, .int .i64 x.c, .int .i64 x.d]
def Lab.ok (x : Lab) : Prop := ∀ v ∈ [x.pool, x.drive, x.drives, x.parity, x.time, x.addr, x.count, x.bytes, x.birth, x.a, x.b, x.c, x.d], -9223372036854775808 ≤ v ∧ v ≤ 9223372036854775807
theorem lab68_length (x : Lab) : (lab68 x).length = 68 := by simp [lab68, leB_length]
theorem lab96_length (x : Lab) : (lab96 x).length = 96 := by simp [lab96, lab68_length]
theorem four32_length (s : Four) : (four32 s).length = 32 := by simp [four32, leB_length]
theorem encB_length (x : Lab) : (encB x).length = 128 := by simp [encB, lab96_length, four32_length]
theorem lab68_bytes (x : Lab) : ∀ v ∈ lab68 x, 0 ≤ v ∧ v ≤ 255 := by
  intro v h
  simp only [lab68, List.mem_append, List.not_mem_nil, false_or] at h
  rcases h with ((((((((((((h | h) | h) | h) | h) | h) | h) | h) | h) | h) | h) | h) | h) <;> exact leB_bytes _ _ _ h
theorem lab96_bytes (x : Lab) : ∀ v ∈ lab96 x, 0 ≤ v ∧ v ≤ 255 := by
  intro v h
  rcases List.mem_append.1 h with h | h
  · exact lab68_bytes x v h
  · rw [List.eq_of_mem_replicate h]; omega
theorem four32_bytes (s : Four) : ∀ v ∈ four32 s, 0 ≤ v ∧ v ≤ 255 := by
  intro v h
  simp only [four32, List.mem_append] at h
  rcases h with ((h | h) | h) | h <;> exact leB_bytes _ _ _ h
theorem encB_bytes (x : Lab) : ∀ v ∈ encB x, 0 ≤ v ∧ v ≤ 255 := by
  intro v h
  rcases List.mem_append.1 h with h | h
  · exact lab96_bytes x v h
  · exact four32_bytes _ v h
theorem wrap64_ok (n : Int) : -9223372036854775808 ≤ wrap64 n ∧ wrap64 n ≤ 9223372036854775807 := by unfold wrap64; omega
theorem labOf_ok (xs : List Int) : (labOf xs).ok := by
  intro v hv
  simp only [labOf, List.mem_cons, List.not_mem_nil, or_false] at hv
  rcases hv with h | h | h | h | h | h | h | h | h | h | h | h | h <;> (rw [h]; exact wrap64_ok _)
end Go.Proofs.Yteidmdakglkkfaa
