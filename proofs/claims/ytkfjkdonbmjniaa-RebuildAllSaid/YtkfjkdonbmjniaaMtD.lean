/- The walk of mat: dot over the two closures. -/
import Derived.Test.YtkfjkdonbmjniaaMtL
import Derived.BigQuiet
namespace Go.Proofs.Ytkfjkdonbmjniaa
open Go.RowKit
set_option linter.unusedVariables false
set_option maxRecDepth 100000

set_option maxHeartbeats 1000000 in
theorem mul1 (i : Nat) (gr gb gk : Nat) (b1 o1 n1 c1 b2 o2 n2 c2 b3 o3 n3 c3 k : Nat) (x y : Int) (w : World)
    (h1 : w.cell? ⟨gr, 0, none⟩ = some (.slice (some ⟨b1, o1, none⟩) n1 c1)) (h2 : w.cell? ⟨gb, 0, none⟩ = some (.slice (some ⟨b2, o2, none⟩) n2 c2)) (h3 : w.cell? ⟨gk, 0, none⟩ = some (.int .i64 k))
    (h4 : w.cell? ⟨b1, o1 + i, none⟩ = some (.int .i64 x)) (h5 : w.cell? ⟨b2, o2 + i, none⟩ = some (.slice (some ⟨b3, o3, none⟩) n3 c3)) (h6 : w.cell? ⟨b3, o3 + k, none⟩ = some (.int .i64 y))
    (hi1 : i < n1) (hi2 : i < n2) (hk : k < n3) :
    Calls Try.prog 45 #[.int .i64 i, .pointer (some ⟨gr, 0, none⟩), .pointer (some ⟨gb, 0, none⟩), .pointer (some ⟨gk, 0, none⟩)] w fun e w' => e = .returned (.tuple #[.int .i64 x, .int .i64 y]) ∧ ∃ q, w' = w.drewN q := by
  have i1 : (i : Int) < (n1 : Int) := by omega
  have i2 : (i : Int) < (n2 : Int) := by omega
  have i3 : (k : Int) < (n3 : Int) := by omega
  go_enter Try.func45, Try.ntmps45
  go_wp2
  go_quiet (fail)
  go_wp2
  go_ret2
  exact ⟨rfl, _, rfl⟩
set_option maxHeartbeats 1000000 in
theorem app1 (i : Nat) (gr gv : Nat) (b1 o1 n1 c1 b2 o2 n2 c2 : Nat) (x y : Int) (w : World)
    (h1 : w.cell? ⟨gr, 0, none⟩ = some (.slice (some ⟨b1, o1, none⟩) n1 c1)) (h2 : w.cell? ⟨gv, 0, none⟩ = some (.slice (some ⟨b2, o2, none⟩) n2 c2))
    (h4 : w.cell? ⟨b1, o1 + i, none⟩ = some (.int .i64 x)) (h5 : w.cell? ⟨b2, o2 + i, none⟩ = some (.int .i64 y))
    (hi1 : i < n1) (hi2 : i < n2) :
    Calls Try.prog 47 #[.int .i64 i, .pointer (some ⟨gr, 0, none⟩), .pointer (some ⟨gv, 0, none⟩)] w fun e w' => e = .returned (.tuple #[.int .i64 x, .int .i64 y]) ∧ ∃ q, w' = w.drewN q := by
  have i1 : (i : Int) < (n1 : Int) := by omega
  have i2 : (i : Int) < (n2 : Int) := by omega
  go_enter Try.func47, Try.ntmps47
  go_wp2
  go_quiet (fail)
  go_wp2
  go_ret2
  exact ⟨rfl, _, rfl⟩
def Num (n : Nat) (w : World) (e : Ending) (w' : World) : Prop := e = .returned (.int .i64 (n : Int)) ∧ Below w.heap.size w w'
set_option maxHeartbeats 1000000 in
theorem dotMul (n : Nat) (p1 p2 p3 : Value) (u v : Nat → Nat) (w : World) (hn : n ≤ 8) (hu : ∀ i, u i < 256) (hv : ∀ i, v i < 256)
    (hf : ∀ w', Below w.heap.size w w' → ∀ i, i < n → Calls Try.prog 45 #[.int .i64 i, p1, p2, p3] w' fun e w'' => e = .returned (.tuple #[.int .i64 (u i : Nat), .int .i64 (v i : Nat)]) ∧ ∃ q, w'' = w'.drewN q) :
    Calls Try.prog 44 #[.int .i64 n, .func (.func 45) #[] #[p1, p2, p3]] w (Num (dotN u v n) w) := by
  have HF : Hid (∀ w', Below w.heap.size w w' → ∀ i, i < n → Calls Try.prog 45 #[.int .i64 i, p1, p2, p3] w' fun e w'' => e = .returned (.tuple #[.int .i64 (u i : Nat), .int .i64 (v i : Nat)]) ∧ ∃ q, w'' = w'.drewN q) := hf
  have HU : Hid (∀ i, u i < 256) := hu
  have HV : Hid (∀ i, v i < 256) := hv
  clear hf hu hv
  go_enter Try.func44, Try.ntmps44
  go_wp2_with fail
  go_loopw [5, 8] (fun ov iv wr => ∃ m : Nat, m ≤ n ∧ iv = .int .i64 m ∧ ov = .int .i64 ((dotN u v m : Nat) : Int) ∧ Hid (Below w.heap.size w wr)) (fun _ iv _ => n - (intOf iv).toNat)
  case atStart => exact ⟨0, by omega, rfl, rfl, Below.refl _ _⟩
  case round =>
    obtain ⟨m, hm, rfl, rfl, hL⟩ := hrel
    by_cases hlt : m < n
    · obtain ⟨s, hs⟩ : ∃ s, Hid (dotN u v m = s) := ⟨_, rfl⟩
      rw [hs.out]
      have hs2 : s < 256 := by rw [← hs.out]; exact xs_lt (fun i => gmul_lt (HU.out i)) m
      have hsz := hL.out.size
      go_wp2_with fail
      refine (HF.out wr hL.out m hlt).mono ?_
      rintro e w2 ⟨rfl, q, rfl⟩
      have h1 := HU.out m
      have h2 := HV.out m
      go_wp2_with fail
      refine (timesM _ _ (wr.drewN q) (by omega) (by omega)).mono ?_
      rintro e w3 ⟨z, hz, hz0, hz1, rfl, hle⟩
      have L3 : Hid (Below w.heap.size w w3) := (below_drewN hL.out q).trans (hle.mono hsz)
      have hz2 : z = ((gmul (u m) (v m) : Nat) : Int) := by rw [hz.out]; simp
      clear hz hle
      subst hz2
      have hx : bits .xor .i64 (s : Int) ((gmul (u m) (v m) : Nat) : Int) = ((s ^^^ gmul (u m) (v m) : Nat) : Int) := xor_out _ _ (by omega) (by omega)
      have hd : dotN u v (m + 1) = s ^^^ gmul (u m) (v m) := by rw [← hs.out]; rfl
      go_wp2_with fail
      go_roundw
      case rel => exact ⟨m + 1, by omega, by go_num, by rw [hd] <;> rfl, L3⟩
      case measure => simp [intOf]; omega
    · obtain rfl : m = n := by omega
      go_wp2_with fail
      go_ret
      exact ⟨rfl, hL.out⟩
set_option maxHeartbeats 1000000 in
theorem dotApp (n : Nat) (p1 p2 : Value) (u v : Nat → Nat) (w : World) (hn : n ≤ 8) (hu : ∀ i, u i < 256) (hv : ∀ i, v i < 256)
    (hf : ∀ w', Below w.heap.size w w' → ∀ i, i < n → Calls Try.prog 47 #[.int .i64 i, p1, p2] w' fun e w'' => e = .returned (.tuple #[.int .i64 (u i : Nat), .int .i64 (v i : Nat)]) ∧ ∃ q, w'' = w'.drewN q) :
    Calls Try.prog 44 #[.int .i64 n, .func (.func 47) #[] #[p1, p2]] w (Num (dotN u v n) w) := by
  have HF : Hid (∀ w', Below w.heap.size w w' → ∀ i, i < n → Calls Try.prog 47 #[.int .i64 i, p1, p2] w' fun e w'' => e = .returned (.tuple #[.int .i64 (u i : Nat), .int .i64 (v i : Nat)]) ∧ ∃ q, w'' = w'.drewN q) := hf
  have HU : Hid (∀ i, u i < 256) := hu
  have HV : Hid (∀ i, v i < 256) := hv
  clear hf hu hv
  go_enter Try.func44, Try.ntmps44
  go_wp2_with fail
  go_loopw [5, 8] (fun ov iv wr => ∃ m : Nat, m ≤ n ∧ iv = .int .i64 m ∧ ov = .int .i64 ((dotN u v m : Nat) : Int) ∧ Hid (Below w.heap.size w wr)) (fun _ iv _ => n - (intOf iv).toNat)
  case atStart => exact ⟨0, by omega, rfl, rfl, Below.refl _ _⟩
  case round =>
    obtain ⟨m, hm, rfl, rfl, hL⟩ := hrel
    by_cases hlt : m < n
    · obtain ⟨s, hs⟩ : ∃ s, Hid (dotN u v m = s) := ⟨_, rfl⟩
      rw [hs.out]
      have hs2 : s < 256 := by rw [← hs.out]; exact xs_lt (fun i => gmul_lt (HU.out i)) m
      have hsz := hL.out.size
      go_wp2_with fail
      refine (HF.out wr hL.out m hlt).mono ?_
      rintro e w2 ⟨rfl, q, rfl⟩
      have h1 := HU.out m
      have h2 := HV.out m
      go_wp2_with fail
      refine (timesM _ _ (wr.drewN q) (by omega) (by omega)).mono ?_
      rintro e w3 ⟨z, hz, hz0, hz1, rfl, hle⟩
      have L3 : Hid (Below w.heap.size w w3) := (below_drewN hL.out q).trans (hle.mono hsz)
      have hz2 : z = ((gmul (u m) (v m) : Nat) : Int) := by rw [hz.out]; simp
      clear hz hle
      subst hz2
      have hx : bits .xor .i64 (s : Int) ((gmul (u m) (v m) : Nat) : Int) = ((s ^^^ gmul (u m) (v m) : Nat) : Int) := xor_out _ _ (by omega) (by omega)
      have hd : dotN u v (m + 1) = s ^^^ gmul (u m) (v m) := by rw [← hs.out]; rfl
      go_wp2_with fail
      go_roundw
      case rel => exact ⟨m + 1, by omega, by go_num, by rw [hd] <;> rfl, L3⟩
      case measure => simp [intOf]; omega
    · obtain rfl : m = n := by omega
      go_wp2_with fail
      go_ret
      exact ⟨rfl, hL.out⟩
end Go.Proofs.Ytkfjkdonbmjniaa
