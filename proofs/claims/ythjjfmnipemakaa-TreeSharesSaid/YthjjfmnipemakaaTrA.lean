/- Package tree as plain data: nodes of a level, what a write, a cut, a rise make of them, and which bytes they hold. -/
import Derived.Test.YthjjfmnipemakaaBase
namespace Go.Proofs.Ythjjfmnipemakaa
set_option linter.unusedVariables false

structure Lf where
  id : Nat
  birth : Nat
  data : List Int
structure In (α : Type) where
  id : Nat
  birth : Nat
  kids : List (Option α)
/-- Nodes of a level. -/
def T : Nat → Type
  | 0 => Lf
  | n + 1 => In (T n)
def room (n : Nat) : Nat := 64 * 4 ^ n
theorem room_zero : room 0 = 64 := rfl
theorem room_succ (n : Nat) : room (n + 1) = 4 * room n := by unfold room; rw [Nat.pow_succ]; omega
theorem room_pos (n : Nat) : 0 < room n := by unfold room; exact Nat.mul_pos (by decide) (Nat.pow_pos (by decide))
def T.idOf : {n : Nat} → T n → Nat
  | 0, t => Lf.id t
  | _ + 1, t => In.id t
def T.birthOf : {n : Nat} → T n → Nat
  | 0, t => Lf.birth t
  | _ + 1, t => In.birth t
/-- The byte at a place below a node that may be none. -/
def T.get : (n : Nat) → Option (T n) → Nat → Int
  | _, none, _ => 0
  | 0, some t, p => (Lf.data t).getD p 0
  | n + 1, some t, p => T.get n ((In.kids t).getD (p / room n) none) (p % room n)
/-- What a node of its level looks like. -/
def T.Ok : (n : Nat) → Option (T n) → Prop
  | _, none => True
  | 0, some t => (Lf.data t).length = 64
  | n + 1, some t => (In.kids t).length = 4 ∧ ∀ k ∈ In.kids t, T.Ok n k
/-- A new node, like another one. -/
def T.fresh : (n : Nat) → (cur made : Nat) → Option (T n) → T n
  | 0, cur, made, none => (⟨made + 1, cur, List.replicate 64 0⟩ : Lf)
  | 0, cur, made, some t => (⟨made + 1, cur, Lf.data t⟩ : Lf)
  | n + 1, cur, made, none => (⟨made + 1, cur, [none, none, none, none]⟩ : In (T n))
  | n + 1, cur, made, some t => (⟨made + 1, cur, In.kids t⟩ : In (T n))
/-- Kids, one by one; how many nodes were made goes along. -/
def mapA {α : Type} (f : Nat → Option α → Nat → Option α × Nat) : Nat → List (Option α) → Nat → List (Option α) × Nat
  | _, [], made => ([], made)
  | i, k :: ks, made => ((f i k made).1 :: (mapA f (i + 1) ks (f i k made).2).1, (mapA f (i + 1) ks (f i k made).2).2)
/-- Bytes of a leaf that begins at base, once data are laid from off on. -/
def laidL (base off : Nat) (data l : List Int) : List Int := (List.range l.length).map fun i => if off ≤ base + i ∧ base + i < off + data.length then data.getD (base + i - off) 0 else l.getD i 0
def T.write (cur off : Nat) (data : List Int) : (n : Nat) → Nat → Option (T n) → Nat → Option (T n) × Nat
  | 0, base, t, made =>
    if off ≥ base + room 0 ∨ off + data.length ≤ base then (t, made)
    else if t.all (fun t => decide (T.birthOf t < cur)) then (some (⟨made + 1, cur, laidL base off data (Lf.data (T.fresh 0 cur made t))⟩ : Lf), made + 1)
    else match t with
      | none => (none, made)
      | some t => (some (⟨Lf.id t, Lf.birth t, laidL base off data (Lf.data t)⟩ : Lf), made)
  | n + 1, base, t, made =>
    if off ≥ base + room (n + 1) ∨ off + data.length ≤ base then (t, made)
    else if t.all (fun t => decide (T.birthOf t < cur)) then
      let r := mapA (fun i k m => T.write cur off data n (base + i * room n) k m) 0 (In.kids (T.fresh (n + 1) cur made t)) (made + 1)
      (some (⟨made + 1, cur, r.1⟩ : In (T n)), r.2)
    else match t with
      | none => (none, made)
      | some t =>
        let r := mapA (fun i k m => T.write cur off data n (base + i * room n) k m) 0 (In.kids t) made
        (some (⟨In.id t, In.birth t, r.1⟩ : In (T n)), r.2)
/-- Leaves lose what stands from a place on. -/
def cutL (k : Nat) (l : List Int) : List Int := l.take k ++ List.replicate (l.length - k) 0
def T.cut (cur e : Nat) : (n : Nat) → Nat → Option (T n) → Nat → Option (T n) × Nat
  | _, _, none, made => (none, made)
  | 0, base, some t, made =>
    if e ≤ base then (none, made) else if base + room 0 ≤ e then (some t, made)
    else (some (⟨made + 1, cur, cutL (e - base) (Lf.data t)⟩ : Lf), made + 1)
  | n + 1, base, some t, made =>
    if e ≤ base then (none, made) else if base + room (n + 1) ≤ e then (some t, made)
    else
      let r := mapA (fun i k m => T.cut cur e n (base + i * room n) k m) 0 (In.kids t) (made + 1)
      (some (⟨made + 1, cur, r.1⟩ : In (T n)), r.2)

theorem mapA_length {α : Type} (f : Nat → Option α → Nat → Option α × Nat) : ∀ (ks : List (Option α)) (i made : Nat), (mapA f i ks made).1.length = ks.length
  | [], _, _ => rfl
  | k :: ks, i, made => by show (mapA f (i + 1) ks _).1.length + 1 = ks.length + 1; rw [mapA_length f ks]
theorem mapA_get {α : Type} (f : Nat → Option α → Nat → Option α × Nat) : ∀ (ks : List (Option α)) (i made j : Nat), j < ks.length → ∃ m, (mapA f i ks made).1.getD j none = (f (i + j) (ks.getD j none) m).1
  | [], _, _, _, h => absurd h (by simp)
  | k :: ks, i, made, 0, _ => ⟨made, rfl⟩
  | k :: ks, i, made, j + 1, h => by
    obtain ⟨m, hm⟩ := mapA_get f ks (i + 1) (f i k made).2 j (by simpa using h)
    exact ⟨m, by rw [show i + (j + 1) = i + 1 + j by omega]; exact hm⟩
theorem T.get_none (n p : Nat) : T.get n none p = 0 := by cases n <;> rfl
theorem fresh_get (n cur made : Nat) (t : Option (T n)) (p : Nat) (hp : p < room n) : T.get n (some (T.fresh n cur made t)) p = T.get n t p := by
  cases n with
  | zero =>
    cases t with
    | none =>
      show (List.replicate 64 (0 : Int)).getD p 0 = 0
      rw [List.getD_eq_getElem?_getD, List.getElem?_replicate]; split <;> rfl
    | some t => rfl
  | succ n =>
    cases t with
    | none =>
      show T.get n (([none, none, none, none] : List (Option (T n))).getD (p / room n) none) (p % room n) = 0
      have : ([none, none, none, none] : List (Option (T n))).getD (p / room n) none = none := by
        match p / room n with
        | 0 => rfl
        | 1 => rfl
        | 2 => rfl
        | 3 => rfl
        | k + 4 => rfl
      rw [this, T.get_none]
    | some t => rfl
theorem fresh_ok (n cur made : Nat) (t : Option (T n)) (h : T.Ok n t) : T.Ok n (some (T.fresh n cur made t)) := by
  cases n with
  | zero =>
    cases t with
    | none => show (List.replicate 64 (0 : Int)).length = 64; simp
    | some t => exact h
  | succ n =>
    cases t with
    | none =>
      refine ⟨rfl, fun k hk => ?_⟩
      have : k = none := by
        have hk' : k ∈ ([none, none, none, none] : List (Option (T n))) := hk
        simpa using hk'
      subst this
      cases n <;> trivial
    | some t => exact h
theorem laidL_get (base off : Nat) (data l : List Int) (p : Nat) (hp : p < l.length) : (laidL base off data l).getD p 0 = if off ≤ base + p ∧ base + p < off + data.length then data.getD (base + p - off) 0 else l.getD p 0 := by
  unfold laidL
  rw [List.getD_eq_getElem?_getD, List.getElem?_map, List.getElem?_range hp]
  rfl
theorem laidL_length (base off : Nat) (data l : List Int) : (laidL base off data l).length = l.length := by unfold laidL; simp
/-- What a write changes. -/
theorem write_get (cur off : Nat) (data : List Int) : ∀ (n base : Nat) (t : Option (T n)) (made : Nat), T.Ok n t → ∀ p, p < room n →
    T.get n (T.write cur off data n base t made).1 p = if off ≤ base + p ∧ base + p < off + data.length then data.getD (base + p - off) 0 else T.get n t p
  | 0, base, t, made, hok, p, hp => by
    unfold T.write
    by_cases h1 : off ≥ base + room 0 ∨ off + data.length ≤ base
    · rw [if_pos h1, if_neg (by omega)]
    · rw [if_neg h1]
      by_cases h2 : t.all (fun t => decide (T.birthOf t < cur)) = true
      · rw [if_pos h2]
        have hf := fresh_ok 0 cur made t hok
        have hl : (Lf.data (T.fresh 0 cur made t)).length = 64 := hf
        show (laidL _ _ _ _).getD p 0 = _
        rw [laidL_get _ _ _ _ p (by rw [hl]; exact hp)]
        have := fresh_get 0 cur made t p hp
        rw [show (Lf.data (T.fresh 0 cur made t)).getD p 0 = T.get 0 (some (T.fresh 0 cur made t)) p from rfl, this]
      · rw [if_neg h2]
        cases t with
        | none => exact absurd rfl h2
        | some t =>
          have hl : (Lf.data t).length = 64 := hok
          show (laidL _ _ _ _).getD p 0 = _
          rw [laidL_get _ _ _ _ p (by rw [hl]; exact hp)]; rfl
  | n + 1, base, t, made, hok, p, hp => by
    have hr := room_pos n
    have hrs := room_succ n
    have hq : p / room n < 4 := Nat.div_lt_of_lt_mul (by rw [Nat.mul_comm]; omega)
    have hm : p % room n < room n := Nat.mod_lt _ hr
    have hdm : room n * (p / room n) + p % room n = p := Nat.div_add_mod p (room n)
    have key : ∀ (ks : List (Option (T n))) (m0 : Nat), ks.length = 4 → (∀ k ∈ ks, T.Ok n k) →
        T.get n ((mapA (fun i k m => T.write cur off data n (base + i * room n) k m) 0 ks m0).1.getD (p / room n) none) (p % room n) =
        if off ≤ base + p ∧ base + p < off + data.length then data.getD (base + p - off) 0 else T.get n (ks.getD (p / room n) none) (p % room n) := by
      intro ks m0 hl hk
      obtain ⟨m, hmm⟩ := mapA_get (fun i k m => T.write cur off data n (base + i * room n) k m) ks 0 m0 (p / room n) (by omega)
      rw [hmm, Nat.zero_add]
      have hk' : T.Ok n (ks.getD (p / room n) none) := by
        rw [List.getD_eq_getElem?_getD, List.getElem?_eq_getElem (by omega)]
        exact hk _ (List.getElem_mem _)
      rw [write_get cur off data n (base + p / room n * room n) _ m hk' (p % room n) hm]
      have e : base + p / room n * room n + p % room n = base + p := by rw [Nat.mul_comm (p / room n)]; omega
      rw [e]
    unfold T.write
    by_cases h1 : off ≥ base + room (n + 1) ∨ off + data.length ≤ base
    · rw [if_pos h1, if_neg (by omega)]
    · rw [if_neg h1]
      by_cases h2 : t.all (fun t => decide (T.birthOf t < cur)) = true
      · rw [if_pos h2]
        have hf := fresh_ok (n + 1) cur made t hok
        have := key (In.kids (T.fresh (n + 1) cur made t)) (made + 1) hf.1 hf.2
        rw [show T.get n ((In.kids (T.fresh (n + 1) cur made t)).getD (p / room n) none) (p % room n) = T.get (n + 1) (some (T.fresh (n + 1) cur made t)) p from rfl, fresh_get (n + 1) cur made t p hp] at this
        exact this
      · rw [if_neg h2]
        cases t with
        | none => exact absurd rfl h2
        | some t => exact key (In.kids t) made hok.1 hok.2
theorem write_ok (cur off : Nat) (data : List Int) : ∀ (n base : Nat) (t : Option (T n)) (made : Nat), T.Ok n t → T.Ok n (T.write cur off data n base t made).1
  | 0, base, t, made, hok => by
    unfold T.write
    split
    · exact hok
    · split
      · show (laidL _ _ _ _).length = 64
        rw [laidL_length]; exact fresh_ok 0 cur made t hok
      · cases t with
        | none => trivial
        | some t => show (laidL _ _ _ _).length = 64; rw [laidL_length]; exact hok
  | n + 1, base, t, made, hok => by
    have key : ∀ (ks : List (Option (T n))) (m0 : Nat), ks.length = 4 → (∀ k ∈ ks, T.Ok n k) → (mapA (fun i k m => T.write cur off data n (base + i * room n) k m) 0 ks m0).1.length = 4 ∧ ∀ k ∈ (mapA (fun i k m => T.write cur off data n (base + i * room n) k m) 0 ks m0).1, T.Ok n k := by
      intro ks m0 hl hk
      refine ⟨by rw [mapA_length]; exact hl, fun k hkm => ?_⟩
      obtain ⟨j, hj, rfl⟩ := List.mem_iff_getElem.1 hkm
      have hj' : j < ks.length := by rw [mapA_length] at hj; exact hj
      obtain ⟨m, hmm⟩ := mapA_get (fun i k m => T.write cur off data n (base + i * room n) k m) ks 0 m0 j hj'
      rw [List.getD_eq_getElem?_getD, List.getElem?_eq_getElem hj] at hmm
      have hmm' : (mapA (fun i k m => T.write cur off data n (base + i * room n) k m) 0 ks m0).1[j] = (T.write cur off data n (base + (0 + j) * room n) (ks.getD j none) m).1 := hmm
      rw [hmm']
      refine write_ok cur off data n _ _ m ?_
      rw [List.getD_eq_getElem?_getD, List.getElem?_eq_getElem hj']
      exact hk _ (List.getElem_mem _)
    unfold T.write
    split
    · exact hok
    · split
      · have hf := fresh_ok (n + 1) cur made t hok
        exact key _ (made + 1) hf.1 hf.2
      · cases t with
        | none => trivial
        | some t => exact key _ made hok.1 hok.2
end Go.Proofs.Ythjjfmnipemakaa
