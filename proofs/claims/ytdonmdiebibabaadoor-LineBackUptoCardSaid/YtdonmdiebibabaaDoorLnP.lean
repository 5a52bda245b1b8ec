/- Lines, plain: cutting and joining at blanks, numerals, digits in pairs, answers. No program here. -/
import Derived.Lib.Split
import Derived.Lib.Join
import Derived.Lib.AtoiAll
import Derived.Lib.ItoaNum
import Derived.Lib.Bytealg
import Derived.Test.YtdonmdiebibabaaDoorLnN
namespace Go.Proofs.YtdonmdiebibabaaDoor
open Go.Lib
set_option linter.unusedVariables false

def cutP : List UInt8 → List Nm
  | [] => [[]]
  | c :: r => if c = 32 then [] :: cutP r else match cutP r with
    | [] => [[c]]
    | x :: xs => (c :: x) :: xs
theorem cutP_ne : ∀ s, cutP s ≠ []
  | [] => by simp [cutP]
  | c :: r => by
    unfold cutP
    split
    · simp
    · split <;> simp
theorem cutP_none : ∀ s : List UInt8, (∀ c ∈ s, c ≠ 32) → cutP s = [s]
  | [], _ => rfl
  | c :: r, h => by
    unfold cutP
    rw [if_neg (h c (List.mem_cons_self ..)), cutP_none r (fun x hx => h x (List.mem_cons_of_mem _ hx))]
theorem cutP_hit : ∀ (a b : List UInt8), (∀ c ∈ a, c ≠ 32) → cutP (a ++ 32 :: b) = a :: cutP b
  | [], b, _ => by
    show cutP (32 :: b) = _
    rw [cutP, if_pos rfl]
  | c :: a, b, h => by
    show cutP (c :: (a ++ 32 :: b)) = _
    rw [cutP, if_neg (h c (List.mem_cons_self ..)), cutP_hit a b (fun x hx => h x (List.mem_cons_of_mem _ hx))]
theorem part32 : ∀ s : List UInt8, (∀ c ∈ s, c ≠ 32) ∨ ∃ a b, s = a ++ 32 :: b ∧ ∀ c ∈ a, c ≠ 32
  | [] => .inl (fun c hc => by cases hc)
  | c :: r => by
    by_cases h : c = 32
    · subst h; exact .inr ⟨[], r, rfl, fun c hc => by cases hc⟩
    · rcases part32 r with h1 | ⟨a, b, e, h1⟩
      · left; intro x hx
        rcases List.mem_cons.1 hx with rfl | hx
        · exact h
        · exact h1 x hx
      · right
        refine ⟨c :: a, b, by rw [e]; rfl, fun x hx => ?_⟩
        rcases List.mem_cons.1 hx with rfl | hx
        · exact h
        · exact h1 x hx
theorem index_no : ∀ s : List UInt8, (∀ c ∈ s, c ≠ 32) → index s [32] = -1
  | [], _ => rfl
  | c :: r, h => by
    have hc : ([32] : List UInt8).isPrefixOf (c :: r) = false := by
      have := h c (List.mem_cons_self ..)
      simp [List.isPrefixOf]; exact fun e => this e.symm
    unfold index
    rw [hc, index_no r (fun x hx => h x (List.mem_cons_of_mem _ hx))]; rfl
theorem index_at : ∀ (a b : List UInt8), (∀ c ∈ a, c ≠ 32) → index (a ++ 32 :: b) [32] = (a.length : Nat)
  | [], b, _ => by
    show index (32 :: b) [32] = _
    unfold index
    simp [List.isPrefixOf]
  | c :: a, b, h => by
    have hc : ([32] : List UInt8).isPrefixOf (c :: (a ++ 32 :: b)) = false := by
      have := h c (List.mem_cons_self ..)
      simp [List.isPrefixOf]; exact fun e => this e.symm
    show index (c :: (a ++ 32 :: b)) [32] = _
    unfold index
    rw [hc, index_at a b (fun x hx => h x (List.mem_cons_of_mem _ hx))]
    have : ¬ ((a.length : Int) == -1) = true := by simp
    simp only [Bool.false_eq_true, if_false, this, List.length_cons]
    push_cast; rfl
theorem split_cut : ∀ (n : Nat) (s : List UInt8), s.length ≤ n → splitK [32] 0 (count s [32]) s = cutP s ∧ count s [32] + 1 = (cutP s).length := by
  intro n
  induction n with
  | zero =>
    intro s hs
    have : s = [] := List.eq_nil_of_length_eq_zero (by omega)
    subst this
    exact ⟨rfl, rfl⟩
  | succ n ih =>
    intro s hs
    rcases part32 s with h | ⟨a, b, rfl, h⟩
    · rw [count_miss (index_no s h), cutP_none s h]; exact ⟨rfl, rfl⟩
    · have hi := index_at a b h
      have hd : (a ++ 32 :: b).drop (a.length + 1) = b := by
        rw [← List.drop_drop, List.drop_left]; rfl
      have hc : count (a ++ 32 :: b) [32] = count b [32] + 1 := by
        rw [count_hit (by simp) hi]
        show 1 + count ((a ++ 32 :: b).drop (a.length + 1)) [32] = _
        rw [hd, Nat.add_comm]
      have hb := ih b (by simp at hs; omega)
      rw [hc, cutP_hit a b h, splitK, if_neg (by rw [hi]; simp), hi]
      refine ⟨?_, by rw [hb.2]; rfl⟩
      show (a ++ 32 :: b).take (a.length + 0) :: splitK [32] 0 (count b [32]) ((a ++ 32 :: b).drop (a.length + 1)) = _
      rw [hd, hb.1, Nat.add_zero, List.take_left]
def joinP (xs : List Nm) : Nm := join xs [32]
theorem joinP_cons (x y : Nm) (r : List Nm) : joinP (x :: y :: r) = x ++ 32 :: joinP (y :: r) := by
  unfold joinP
  rw [join_cons, join_cons]
  simp [joinTail]
theorem joinP_one (x : Nm) : joinP [x] = x := join_one x [32]
theorem cut_join : ∀ xs : List Nm, xs ≠ [] → (∀ x ∈ xs, ∀ c ∈ x, c ≠ 32) → cutP (joinP xs) = xs
  | [], h, _ => absurd rfl h
  | [x], _, h => by rw [joinP_one]; exact cutP_none x (h x (List.mem_cons_self ..))
  | x :: y :: r, _, h => by
    rw [joinP_cons, cutP_hit x _ (h x (List.mem_cons_self ..)), cut_join (y :: r) (by simp) (fun z hz => h z (List.mem_cons_of_mem _ hz))]
theorem join_cutN : ∀ (n : Nat) (s : List UInt8), s.length ≤ n → joinP (cutP s) = s := by
  intro n
  induction n with
  | zero =>
    intro s hs
    have : s = [] := List.eq_nil_of_length_eq_zero (by omega)
    subst this; rfl
  | succ n ih =>
    intro s hs
    rcases part32 s with h | ⟨a, b, rfl, h⟩
    · rw [cutP_none s h, joinP_one]
    · rw [cutP_hit a b h]
      have hb := ih b (by simp at hs; omega)
      cases hc : cutP b with
      | nil => exact absurd hc (cutP_ne b)
      | cons y r => rw [joinP_cons, ← hc, hb]
theorem join_cut (s : List UInt8) : joinP (cutP s) = s := join_cutN _ s (Nat.le_refl _)
theorem cutP_free : ∀ (s : List UInt8), ∀ x ∈ cutP s, ∀ c ∈ x, c ≠ 32 := by
  suffices h : ∀ (n : Nat) (s : List UInt8), s.length ≤ n → ∀ x ∈ cutP s, ∀ c ∈ x, c ≠ 32 from fun s => h _ s (Nat.le_refl _)
  intro n
  induction n with
  | zero =>
    intro s hs x hx
    have : s = [] := List.eq_nil_of_length_eq_zero (by omega)
    subst this
    obtain rfl := List.mem_singleton.1 hx
    intro c hc; cases hc
  | succ n ih =>
    intro s hs
    rcases part32 s with h | ⟨a, b, rfl, h⟩
    · rw [cutP_none s h]
      intro x hx
      obtain rfl := List.mem_singleton.1 hx
      exact h
    · rw [cutP_hit a b h]
      intro x hx
      rcases List.mem_cons.1 hx with rfl | hx
      · exact h
      · exact ih b (by simp at hs; omega) x hx

/-! numerals -/
theorem parse_append (l r : List UInt8) : ∀ acc, parseUint10 acc (l ++ r) = match parseUint10 acc l with | .ok v => parseUint10 v r | x => x := by
  induction l with
  | nil => intro acc; rfl
  | cons c l ih =>
    intro acc
    show parseUint10 acc (c :: (l ++ r)) = _
    simp only [parseUint10]
    split
    · split
      · rfl
      · split
        · rfl
        · exact ih _
    · rfl
theorem ofNat_digit (d : Nat) (h : d < 10) : (UInt8.ofNat (48 + d)).toNat = 48 + d := by
  rw [UInt8.toNat_ofNat']; omega
theorem parse_digits : ∀ u : Nat, u < 18446744073709551616 → parseUint10 0 (decDigits u) = .ok u := by
  intro u
  induction u using Nat.strongRecOn with
  | _ u ih =>
    intro hu
    by_cases h : u < 10
    · rw [decDigits_one h]
      simp only [parseUint10, ofNat_digit u h]
      rw [if_pos (by omega), if_neg (by omega), if_neg (by omega)]
      congr 1; omega
    · rw [decDigits, dif_neg h, parse_append, ih (u / 10) (by omega) (by omega)]
      simp only [parseUint10, ofNat_digit (u % 10) (by omega)]
      rw [if_pos (by omega), if_neg (by omega), if_neg (by omega)]
      congr 1; omega
theorem digits_range : ∀ u : Nat, decDigits u ≠ [] ∧ ∀ c ∈ decDigits u, 48 ≤ c.toNat ∧ c.toNat ≤ 57 := by
  intro u
  induction u using Nat.strongRecOn with
  | _ u ih =>
    by_cases h : u < 10
    · rw [decDigits_one h]
      refine ⟨by simp, fun c hc => ?_⟩
      obtain rfl := List.mem_singleton.1 hc
      rw [ofNat_digit u h]; omega
    · rw [decDigits, dif_neg h]
      refine ⟨by simp, fun c hc => ?_⟩
      rcases List.mem_append.1 hc with hc | hc
      · exact (ih (u / 10) (by omega)).2 c hc
      · obtain rfl := List.mem_singleton.1 hc
        rw [ofNat_digit (u % 10) (by omega)]; omega
theorem atoi_itoa (n : Int) (h0 : -9223372036854775808 ≤ n) (h1 : n ≤ 9223372036854775807) : atoiAll (itoa n) = .ok n := by
  unfold itoa
  split
  · rename_i h
    have hd := digits_range n.natAbs
    have hp : parseMag (decDigits n.natAbs) = .ok n.natAbs := by
      unfold parseMag; rw [if_neg hd.1]; exact parse_digits _ (by omega)
    simp only [atoiAll]
    rw [if_pos (Or.inr (by decide)), hp]
    simp only
    rw [if_neg (by simp), if_neg (by intro h; omega), if_pos (by decide)]
    congr 1; omega
  · rename_i h
    have hd := digits_range n.toNat
    have hp : parseMag (decDigits n.toNat) = .ok n.toNat := by
      unfold parseMag; rw [if_neg hd.1]; exact parse_digits _ (by omega)
    cases hl : decDigits n.toNat with
    | nil => exact absurd hl hd.1
    | cons c r =>
      have hc := hd.2 c (by rw [hl]; exact List.mem_cons_self ..)
      simp only [atoiAll]
      rw [if_neg (by omega), ← hl, hp]
      simp only
      rw [if_neg (by omega), if_neg (by omega), if_neg (by omega)]
      congr 1; omega
theorem itoa_free (n : Int) : ∀ c ∈ itoa n, c ≠ 32 := by
  intro c hc e
  subst e
  unfold itoa at hc
  split at hc
  · rcases List.mem_cons.1 hc with h | h
    · exact absurd h (by decide)
    · have := (digits_range _).2 _ h; revert this; decide
  · have := (digits_range _).2 _ hc; revert this; decide
theorem itoa_ne (n : Int) : itoa n ≠ [] := by
  unfold itoa
  split
  · simp
  · exact (digits_range _).1
theorem nDigits_le : ∀ u : Nat, u < 10 ^ 20 → nDigits u ≤ 20 := by
  suffices h : ∀ (k u : Nat), u < 10 ^ (k + 1) → nDigits u ≤ k + 1 from fun u hu => h 19 u hu
  intro k
  induction k with
  | zero => intro u hu; rw [nDigits_small (by simpa using hu)]; exact Nat.le_refl _
  | succ k ih =>
    intro u hu
    by_cases h : u < 10
    · rw [nDigits_small h]; omega
    · rw [nDigits_big h]
      have := ih (u / 10) (by rw [Nat.pow_succ] at hu; omega)
      omega
theorem itoa_len (n : Int) (h0 : -9223372036854775808 ≤ n) (h1 : n ≤ 9223372036854775807) : (itoa n).length ≤ 21 := by
  unfold itoa
  split
  · rw [List.length_cons, decDigits_length]; have := nDigits_le n.natAbs (by omega); omega
  · rw [decDigits_length]; have := nDigits_le n.toNat (by omega); omega
/-- What number hands back. -/
def numP (s : Nm) : Int × Bool := match atoiAll s with
  | .ok v => (v, itoa v == s)
  | .range => (atoiSat s, false)
  | _ => (0, false)
theorem numP_itoa (n : Int) (h0 : -9223372036854775808 ≤ n) (h1 : n ≤ 9223372036854775807) : numP (itoa n) = (n, true) := by
  unfold numP; rw [atoi_itoa n h0 h1]; simp

/-! digits in pairs -/
def digsP : List UInt8 := [48, 49, 50, 51, 52, 53, 54, 55, 56, 57, 97, 98, 99, 100, 101, 102]
def digP (x : Int) : UInt8 := digsP.getD x.toNat 0
def pairsP (b : List Int) : Nm := b.flatMap fun x => [digP (x / 16), digP (x % 16)]
def hexP (b : List Int) : Nm := if b = [] then [45] else pairsP b
def unpairs : List UInt8 → Option (List Int)
  | [] => some []
  | [_] => none
  | a :: b :: r => if indexByte digsP a < 0 ∨ indexByte digsP b < 0 then none else (unpairs r).map fun l => (indexByte digsP a * 16 + indexByte digsP b) :: l
def unhexP (s : Nm) : Option (List Int) := if s = [45] then some [] else if s = [] ∨ s.length % 2 ≠ 0 then none else unpairs s
theorem dig_index (i : Fin 16) : indexByte digsP (digP (i.val : Int)) = i.val := by revert i; decide
theorem dig_free (i : Fin 16) : digP (i.val : Int) ≠ 32 := by revert i; decide
theorem dig_at (x : Int) (h0 : 0 ≤ x) (h1 : x < 16) : indexByte digsP (digP x) = x ∧ digP x ≠ 32 := by
  obtain ⟨n, rfl⟩ := Int.eq_ofNat_of_zero_le h0
  have hn : n < 16 := by omega
  exact ⟨dig_index ⟨n, hn⟩, dig_free ⟨n, hn⟩⟩
theorem unpairs_pairs : ∀ b : List Int, (∀ x ∈ b, 0 ≤ x ∧ x < 256) → unpairs (pairsP b) = some b
  | [], _ => rfl
  | x :: b, h => by
    have hx := h x (List.mem_cons_self ..)
    have h1 := dig_at (x / 16) (by omega) (by omega)
    have h2 := dig_at (x % 16) (by omega) (by omega)
    show unpairs (digP (x / 16) :: digP (x % 16) :: pairsP b) = _
    rw [unpairs, h1.1, h2.1, if_neg (by omega), unpairs_pairs b (fun y hy => h y (List.mem_cons_of_mem _ hy))]
    show some (_ :: b) = _
    congr 2; omega
theorem pairs_length (b : List Int) : (pairsP b).length = 2 * b.length := by
  induction b with
  | nil => rfl
  | cons x b ih => show (digP (x / 16) :: digP (x % 16) :: pairsP b).length = _; simp [ih]; omega
theorem unhex_hex (b : List Int) (h : ∀ x ∈ b, 0 ≤ x ∧ x < 256) : unhexP (hexP b) = some b := by
  unfold hexP unhexP
  by_cases hb : b = []
  · rw [if_pos hb, if_pos rfl, hb]
  · rw [if_neg hb]
    have hl := pairs_length b
    have : 0 < b.length := List.length_pos_iff.2 hb
    rw [if_neg (fun e => by rw [e] at hl; simp at hl; omega), if_neg (by
      rintro (e | e)
      · rw [e] at hl; simp at hl; omega
      · rw [hl] at e; omega), unpairs_pairs b h]
theorem hex_free (b : List Int) (h : ∀ x ∈ b, 0 ≤ x ∧ x < 256) : ∀ c ∈ hexP b, c ≠ 32 := by
  unfold hexP
  split
  · intro c hc; obtain rfl := List.mem_singleton.1 hc; decide
  · intro c hc
    obtain ⟨x, hx, hc⟩ := List.mem_flatMap.1 hc
    have h0 := h x hx
    simp only [List.mem_cons, List.mem_nil_iff, or_false] at hc
    rcases hc with rfl | rfl
    · exact (dig_at _ (by omega) (by omega)).2
    · exact (dig_at _ (by omega) (by omega)).2
end Go.Proofs.YtdonmdiebibabaaDoor
