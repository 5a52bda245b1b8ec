/- Numbers as bytes, plainly. No program here. -/
import Derived.Test.YteidmdakglkkfaaFletQ
namespace Go.Proofs.Yteidmdakglkkfaa
open Go.RowKit
set_option linter.unusedVariables false

/-- a number shifted by so many bytes -/
def sh : Nat → Int → Int
  | 0, n => n
  | i + 1, n => sh i n / 256
/-- the lowest bytes of a number, the lowest first -/
def leB (i : Nat) (n : Int) : List Int := (List.range i).map fun j => sh j n % 256
theorem leB_succ (i : Nat) (n : Int) : leB (i + 1) n = leB i n ++ [sh i n % 256] := by
  unfold leB; rw [List.range_succ, List.map_append]; rfl
theorem leB_length (i : Nat) (n : Int) : (leB i n).length = i := by simp [leB]
theorem sh_bound (i : Nat) (n : Int) (h : -9223372036854775808 ≤ n ∧ n ≤ 9223372036854775807) : -9223372036854775808 ≤ sh i n ∧ sh i n ≤ 9223372036854775807 := by
  induction i with
  | zero => exact h
  | succ i ih => show _ ≤ sh i n / 256 ∧ sh i n / 256 ≤ _; omega
theorem sh_shift (i : Nat) (n : Int) : sh i (n / 256) = sh (i + 1) n := by
  induction i with
  | zero => rfl
  | succ i ih => show sh i (n / 256) / 256 = sh (i + 1) n / 256; rw [ih]
theorem leB_cons (i : Nat) (n : Int) : leB (i + 1) n = n % 256 :: leB i (n / 256) := by
  unfold leB
  rw [List.range_succ_eq_map, List.map_cons, List.map_map]
  congr 1
  refine List.map_congr_left fun j _ => ?_
  show sh (j + 1) n % 256 = sh j (n / 256) % 256
  rw [sh_shift]
/-- the number of bytes, the lowest first -/
def bw : List Int → Int
  | [] => 0
  | b :: bs => b + 256 * bw bs
def p256 : Nat → Int
  | 0 => 1
  | i + 1 => 256 * p256 i
theorem p256_pos : ∀ i, 0 < p256 i
  | 0 => by show (0 : Int) < 1; omega
  | i + 1 => by have := p256_pos i; show 0 < 256 * p256 i; omega
theorem bw_leB : ∀ (i : Nat) (n : Int), bw (leB i n) = n % p256 i
  | 0, n => by show (0 : Int) = n % 1; omega
  | i + 1, n => by
    rw [leB_cons]
    show n % 256 + 256 * bw (leB i (n / 256)) = n % (256 * p256 i)
    rw [bw_leB i (n / 256), Int.emod_def n (256 * p256 i), Int.emod_def (n / 256) (p256 i), Int.emod_def n 256]
    have e : n / (256 * p256 i) = n / 256 / p256 i := by
      first
        | exact (Int.ediv_ediv_of_nonneg (by omega)).symm
        | exact (Int.ediv_ediv (by omega)).symm
        | exact (Int.ediv_ediv_eq_ediv_mul _ (by omega)).symm
    rw [e, Int.mul_assoc]
    generalize p256 i * (n / 256 / p256 i) = q
    omega
theorem bw_four (n : Int) (h : 0 ≤ n ∧ n ≤ 4294967295) : bw (leB 4 n) = n := by
  rw [bw_leB]
  show n % (256 * (256 * (256 * (256 * 1)))) = n
  omega
theorem bw_eight (n : Int) (h : -9223372036854775808 ≤ n ∧ n ≤ 9223372036854775807) : wrap64 (bw (leB 8 n)) = n := by
  rw [bw_leB]
  show wrap64 (n % (256 * (256 * (256 * (256 * (256 * (256 * (256 * (256 * 1)))))))) ) = n
  unfold wrap64
  omega
theorem leB_bytes (i : Nat) (n : Int) : ∀ x ∈ leB i n, 0 ≤ x ∧ x ≤ 255 := by
  intro x hx
  obtain ⟨j, _, rfl⟩ := List.mem_map.1 hx
  omega
end Go.Proofs.Yteidmdakglkkfaa
