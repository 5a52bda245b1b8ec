/- The plain laws of the parity columns. -/
import Derived.Test.YtkfjkdonbmjniaaPrC
namespace Go.Proofs.Ytkfjkdonbmjniaa
open Go.RowKit
set_option linter.unusedVariables false

/-- One byte of a parity column. -/
def encE (D : List (List Int)) (j m : Nat) : Nat → Nat
  | 0 => 0
  | n + 1 => encE D j m n ^^^ gmul (twos (n * j)) ((D.getD n []).getD m 0).toNat
theorem encE_lt (D : List (List Int)) (j m : Nat) : ∀ n, encE D j m n < 256
  | 0 => by unfold encE; omega
  | n + 1 => by unfold encE; exact xor_lt (encE_lt D j m n) (gmul_lt (twos_lt _))
theorem encN_E (D : List (List Int)) (size j m : Nat) (hm : m < size) : ∀ n, (encN D size j n).getD m 0 = (encE D j m n : Int)
  | 0 => by simp [encN, encE, List.getD, hm]
  | n + 1 => by
    have hl := encN_length D size j n
    have ih := encN_E D size j m hm n
    have hb := (encN_byt D size j n).getD m
    show (mixN (twos (n * j)) (encN D size j n) (D.getD n []) size).getD m 0 = _
    rw [mixN_getD _ _ _ m (by omega), if_pos hm, mixI_eq (twos_lt _) hb, ih]
    rfl
theorem encAll_get (D : List (List Int)) (size p j : Nat) (h : j < p) : (encAll D size p).getD j [] = encN D size j D.length := by
  simp [encAll, List.getD, h]
/-- Two lists of columns, added place by place. -/
def addCol (x y : List Int) (n : Nat) : List Int := (List.range n).map fun k => bits .xor .u8 (x.getD k 0) (y.getD k 0)
theorem addCol_succ (x y : List Int) (n : Nat) : addCol x y (n + 1) = addCol x y n ++ [bits .xor .u8 (x.getD n 0) (y.getD n 0)] := by simp [addCol, List.range_succ]
theorem addCol_length (x y : List Int) (n : Nat) : (addCol x y n).length = n := by simp [addCol]
theorem xor8 {a b : Int} (ha : 0 ≤ a ∧ a ≤ 255) (hb : 0 ≤ b ∧ b ≤ 255) : bits .xor .u8 a b = ((a.toNat ^^^ b.toNat : Nat) : Int) := u8_xor a b ha.1 (by omega) hb.1 (by omega)
theorem xor8_bd {a b : Int} (ha : 0 ≤ a ∧ a ≤ 255) (hb : 0 ≤ b ∧ b ≤ 255) : 0 ≤ bits .xor .u8 a b ∧ bits .xor .u8 a b ≤ 255 := by
  rw [xor8 ha hb]
  have : a.toNat ^^^ b.toNat < 256 := xor_lt (by omega) (by omega)
  omega
theorem addCol_get (x y : List Int) (n k : Nat) (h : k < n) : (addCol x y n).getD k 0 = bits .xor .u8 (x.getD k 0) (y.getD k 0) := by simp [addCol, List.getD, h]
theorem addCol_byt {x y : List Int} (hx : Byt x) (hy : Byt y) (n : Nat) : Byt (addCol x y n) := by
  intro v hv
  simp only [addCol, List.mem_map, List.mem_range] at hv
  obtain ⟨k, _, rfl⟩ := hv
  exact xor8_bd (hx.getD k) (hy.getD k)
def addCols (X Y : List (List Int)) (size n : Nat) : List (List Int) := (List.range n).map fun i => addCol (X.getD i []) (Y.getD i []) size
theorem addCols_succ (X Y : List (List Int)) (size n : Nat) : addCols X Y size (n + 1) = addCols X Y size n ++ [addCol (X.getD n []) (Y.getD n []) size] := by simp [addCols, List.range_succ]
theorem addCols_length (X Y : List (List Int)) (size n : Nat) : (addCols X Y size n).length = n := by simp [addCols]
theorem addCols_get (X Y : List (List Int)) (size n i : Nat) (h : i < n) : (addCols X Y size n).getD i [] = addCol (X.getD i []) (Y.getD i []) size := by simp [addCols, List.getD, h]
theorem addCols_cols (X Y : List (List Int)) (size n : Nat) (h1 : 1 ≤ n) (h2 : n ≤ 12) (hs : size ≤ 4096) : Cols (addCols X Y size n) size := by
  refine ⟨by rw [addCols_length]; exact h1, by rw [addCols_length]; exact h2, hs, ?_⟩
  intro c hc
  simp only [addCols, List.mem_map, List.mem_range] at hc
  obtain ⟨i, _, rfl⟩ := hc
  exact addCol_length _ _ _
def Byts (D : List (List Int)) : Prop := ∀ c ∈ D, Byt c
theorem Byts.get {D : List (List Int)} (h : Byts D) (i : Nat) : Byt (D.getD i []) := by
  by_cases hi : i < D.length
  · rw [show D.getD i [] = D[i] by simp [List.getD, hi]]; exact h _ (List.getElem_mem hi)
  · rw [show D.getD i [] = [] by simp [List.getD, hi]]; intro v hv; cases hv
theorem colsN_byts {xs : List Int} (h : Byt xs) (size n : Nat) : Byts (colsN xs size n) := by
  intro c hc
  simp only [colsN, List.mem_map, List.mem_range] at hc
  obtain ⟨i, _, rfl⟩ := hc
  exact fun v hv => h v (List.mem_of_mem_drop (List.mem_of_mem_take hv))
/-- Encoding is linear. -/
theorem encE_add (X Y : List (List Int)) (size N j m : Nat) (hX : Byts X) (hY : Byts Y) (hm : m < size) : ∀ n, n ≤ N → encE (addCols X Y size N) j m n = encE X j m n ^^^ encE Y j m n
  | 0, _ => by unfold encE; rfl
  | n + 1, hn => by
    have ih := encE_add X Y size N j m hX hY hm n (by omega)
    have hx := (hX.get n).getD m
    have hy := (hY.get n).getD m
    unfold encE
    rw [ih, addCols_get X Y size N n (by omega), addCol_get _ _ _ _ hm, xor8 hx hy, Int.toNat_natCast, gmul_xor_r (twos_lt _) (by omega) (by omega), xor4]
theorem enc_sum (X Y : List (List Int)) (size N j m : Nat) (hX : Byts X) (hY : Byts Y) (hm : m < size) :
    bits .xor .u8 ((encN X size j N).getD m 0) ((encN Y size j N).getD m 0) = (encN (addCols X Y size N) size j N).getD m 0 := by
  rw [encN_E _ _ _ _ hm, encN_E _ _ _ _ hm, encN_E _ _ _ _ hm, encE_add X Y size N j m hX hY hm N (Nat.le_refl _)]
  have h1 := encE_lt X j m N
  have h2 := encE_lt Y j m N
  rw [xor8 (by omega) (by omega)]; rfl
/-- One byte of one column changed. -/
theorem encE_touch (D : List (List Int)) (hD : Byts D) (i k : Nat) (b : Int) (hb : 0 ≤ b ∧ b ≤ 255) (hi : i < D.length) (hk : k < (D.getD i []).length) (j m : Nat) :
    ∀ n, encE (D.set i ((D.getD i []).set k (bits .xor .u8 ((D.getD i []).getD k 0) b))) j m n = if i < n ∧ m = k then encE D j m n ^^^ gmul (twos (i * j)) b.toNat else encE D j m n
  | 0 => by unfold encE; simp
  | n + 1 => by
    have ih := encE_touch D hD i k b hb hi hk j m n
    unfold encE
    rw [ih]
    by_cases e : n = i
    · subst e
      rw [if_neg (by omega)]
      have hg : (D.set n ((D.getD n []).set k (bits .xor .u8 ((D.getD n []).getD k 0) b))).getD n [] = (D.getD n []).set k (bits .xor .u8 ((D.getD n []).getD k 0) b) := by simp [List.getD, hi]
      rw [hg]
      by_cases hm : m = k
      · subst hm
        rw [if_pos ⟨by omega, rfl⟩]
        have hv := (hD.get n).getD m
        have e1 : ((D.getD n []).set m (bits .xor .u8 ((D.getD n []).getD m 0) b)).getD m 0 = bits .xor .u8 ((D.getD n []).getD m 0) b := by
          generalize (D.getD n []) = c at hk ⊢
          simp [List.getD, hk]
        rw [e1, xor8 hv hb, Int.toNat_natCast, gmul_xor_r (twos_lt _) (by omega) (by omega), Nat.xor_assoc]
      · rw [if_neg (fun h => hm h.2)]
        have e1 : ∀ z, ((D.getD n []).set k z).getD m 0 = (D.getD n []).getD m 0 := by intro z; simp [List.getD, List.getElem?_set_ne (show k ≠ m from fun h => hm h.symm)]
        rw [e1]
    · have hg : ∀ z, (D.set i z).getD n [] = D.getD n [] := by intro z; simp [List.getD, List.getElem?_set_ne (show i ≠ n from fun h => e h.symm)]
      rw [hg]
      by_cases h : i < n ∧ m = k
      · rw [if_pos h, if_pos ⟨by omega, h.2⟩, Nat.xor_assoc, Nat.xor_assoc, Nat.xor_comm (gmul (twos (i * j)) b.toNat)]
      · rw [if_neg h, if_neg (fun h2 => h ⟨by omega, h2.2⟩)]
theorem enc_touch (D : List (List Int)) (hD : Byts D) (size i k : Nat) (b : Int) (hb : 0 ≤ b ∧ b ≤ 255) (hi : i < D.length) (hk : k < (D.getD i []).length) (j m : Nat) (hm : m < size) :
    ((encN D size j D.length).getD m 0 ≠ (encN (D.set i ((D.getD i []).set k (bits .xor .u8 ((D.getD i []).getD k 0) b))) size j D.length).getD m 0) ↔ (m = k ∧ b ≠ 0) := by
  rw [encN_E _ _ _ _ hm, encN_E _ _ _ _ hm, encE_touch D hD i k b hb hi hk j m]
  have h1 := encE_lt D j m D.length
  have hz : gmul (twos (i * j)) b.toNat = 0 ↔ b = 0 := by
    rw [mul_eq_zero (twos_lt _) (by omega)]
    constructor
    · rintro (h | h)
      · exact absurd h (twos_ne_zero _)
      · omega
    · intro h; right; omega
  by_cases hmk : m = k
  · rw [if_pos ⟨hi, hmk⟩]
    constructor
    · intro h
      refine ⟨hmk, fun hb0 => h ?_⟩
      rw [hz.2 hb0, Nat.xor_zero]
    · rintro ⟨_, hb0⟩ h
      have h3 : encE D j m D.length ^^^ (encE D j m D.length ^^^ gmul (twos (i * j)) b.toNat) = encE D j m D.length ^^^ encE D j m D.length := by rw [← Int.natCast_inj.1 h]
      rw [← Nat.xor_assoc, Nat.xor_self, Nat.zero_xor] at h3
      exact hb0 (hz.1 h3)
  · rw [if_neg (fun h => hmk h.2)]
    constructor
    · intro h; exact absurd rfl h
    · rintro ⟨h, _⟩; exact absurd h hmk
end Go.Proofs.Ytkfjkdonbmjniaa
