/- Package tree as plain data: versions, what a step makes of them. -/
import Derived.Test.YthjjfmnipemakaaTrA
namespace Go.Proofs.Ythjjfmnipemakaa
set_option linter.unusedVariables false

theorem cutL_length (k : Nat) (l : List Int) : (cutL k l).length = l.length := by unfold cutL; simp; omega
theorem cutL_get (k : Nat) (l : List Int) (p : Nat) (hp : p < l.length) : (cutL k l).getD p 0 = if p < k then l.getD p 0 else 0 := by
  unfold cutL
  rw [List.getD_eq_getElem?_getD]
  by_cases h : p < k
  · rw [if_pos h, List.getElem?_append_left (by rw [List.length_take]; omega), List.getElem?_take, if_pos h, ← List.getD_eq_getElem?_getD]
  · rw [if_neg h, List.getElem?_append_right (by rw [List.length_take]; omega), List.getElem?_replicate]; split <;> rfl
theorem cut_get (cur e : Nat) : ∀ (n base : Nat) (t : Option (T n)) (made : Nat), T.Ok n t → ∀ p, p < room n → T.get n (T.cut cur e n base t made).1 p = if base + p < e then T.get n t p else 0
  | n, base, none, made, hok, p, hp => by
    have : (T.cut cur e n base none made).1 = none := by cases n <;> rfl
    rw [this, T.get_none]; split <;> rfl
  | 0, base, some t, made, hok, p, hp => by
    unfold T.cut
    have hl : (Lf.data t).length = 64 := hok
    have h64 : room 0 = 64 := rfl
    by_cases h1 : e ≤ base
    · rw [if_pos h1, if_neg (by omega), T.get_none]
    · rw [if_neg h1]
      by_cases h2 : base + room 0 ≤ e
      · rw [if_pos h2, if_pos (by omega)]
      · rw [if_neg h2]
        show (cutL _ _).getD p 0 = _
        rw [cutL_get _ _ p (by omega)]
        by_cases h3 : p < e - base
        · rw [if_pos h3, if_pos (by omega)]; rfl
        · rw [if_neg h3, if_neg (by omega)]
  | n + 1, base, some t, made, hok, p, hp => by
    have hr := room_pos n
    have hrs := room_succ n
    have hq : p / room n < 4 := Nat.div_lt_of_lt_mul (by rw [Nat.mul_comm]; omega)
    have hm : p % room n < room n := Nat.mod_lt _ hr
    have hdm : room n * (p / room n) + p % room n = p := Nat.div_add_mod p (room n)
    unfold T.cut
    by_cases h1 : e ≤ base
    · rw [if_pos h1, if_neg (by omega), T.get_none]
    · rw [if_neg h1]
      by_cases h2 : base + room (n + 1) ≤ e
      · rw [if_pos h2, if_pos (by omega)]
      · rw [if_neg h2]
        have hl : (In.kids t).length = 4 := hok.1
        show T.get n ((mapA (fun i k m => T.cut cur e n (base + i * room n) k m) 0 (In.kids t) (made + 1)).1.getD (p / room n) none) (p % room n) = _
        obtain ⟨m, hmm⟩ := mapA_get (fun i k m => T.cut cur e n (base + i * room n) k m) (In.kids t) 0 (made + 1) (p / room n) (by omega)
        rw [hmm, Nat.zero_add]
        have hk' : T.Ok n ((In.kids t).getD (p / room n) none) := by
          rw [List.getD_eq_getElem?_getD, List.getElem?_eq_getElem (by omega)]
          exact hok.2 _ (List.getElem_mem _)
        rw [cut_get cur e n (base + p / room n * room n) _ m hk' (p % room n) hm]
        have e1 : base + p / room n * room n + p % room n = base + p := by rw [Nat.mul_comm (p / room n)]; omega
        rw [e1]; rfl
theorem cut_ok (cur e : Nat) : ∀ (n base : Nat) (t : Option (T n)) (made : Nat), T.Ok n t → T.Ok n (T.cut cur e n base t made).1
  | n, base, none, made, hok => by
    have : (T.cut cur e n base none made).1 = none := by cases n <;> rfl
    rw [this]; exact hok
  | 0, base, some t, made, hok => by
    unfold T.cut
    split
    · trivial
    · split
      · exact hok
      · show (cutL _ _).length = 64; rw [cutL_length]; exact hok
  | n + 1, base, some t, made, hok => by
    unfold T.cut
    split
    · trivial
    · split
      · exact hok
      · refine ⟨by show (mapA _ _ _ _).1.length = 4; rw [mapA_length]; exact hok.1, fun k hkm => ?_⟩
        have hkm' : k ∈ (mapA (fun i k m => T.cut cur e n (base + i * room n) k m) 0 (In.kids t) (made + 1)).1 := hkm
        obtain ⟨j, hj, rfl⟩ := List.mem_iff_getElem.1 hkm'
        have hj' : j < (In.kids t).length := by rw [mapA_length] at hj; exact hj
        obtain ⟨m, hmm⟩ := mapA_get (fun i k m => T.cut cur e n (base + i * room n) k m) (In.kids t) 0 (made + 1) j hj'
        rw [List.getD_eq_getElem?_getD, List.getElem?_eq_getElem hj] at hmm
        have hmm' : (mapA (fun i k m => T.cut cur e n (base + i * room n) k m) 0 (In.kids t) (made + 1)).1[j] = (T.cut cur e n (base + (0 + j) * room n) ((In.kids t).getD j none) m).1 := hmm
        rw [hmm']
        refine cut_ok cur e n _ _ m ?_
        rw [List.getD_eq_getElem?_getD, List.getElem?_eq_getElem hj']
        exact hok.2 _ (List.getElem_mem _)

/-! Roots. -/
abbrev Rt := (n : Nat) × T n
def Rt.get (r : Option Rt) (p : Nat) : Int := match r with
  | none => 0
  | some ⟨n, t⟩ => if p < room n then T.get n (some t) p else 0
def Rt.Ok (r : Option Rt) : Prop := match r with
  | none => True
  | some ⟨n, t⟩ => T.Ok n (some t)
def upOf (cur made : Nat) (r : Rt) : Rt := ⟨r.1 + 1, (⟨made + 1, cur, [some r.2, none, none, none]⟩ : In (T r.1))⟩
def raise (cur : Nat) : Nat → Rt → Nat → Rt × Nat
  | 0, r, made => (r, made)
  | k + 1, r, made => raise cur k (upOf cur made r) (made + 1)
theorem upOf_get (cur made : Nat) (r : Rt) (p : Nat) : Rt.get (some (upOf cur made r)) p = Rt.get (some r) p := by
  obtain ⟨n, t⟩ := r
  have hr := room_pos n
  have hrs := room_succ n
  show (if p < room (n + 1) then T.get n (([some t, none, none, none] : List (Option (T n))).getD (p / room n) none) (p % room n) else 0) = if p < room n then T.get n (some t) p else 0
  by_cases h : p < room n
  · rw [if_pos h, if_pos (by omega), Nat.div_eq_of_lt h, Nat.mod_eq_of_lt h]; rfl
  · rw [if_neg h]
    split
    · have h1 : 1 ≤ p / room n := (Nat.le_div_iff_mul_le hr).2 (by omega)
      have : ([some t, none, none, none] : List (Option (T n))).getD (p / room n) none = none := by
        match p / room n, h1 with
        | 1, _ => rfl
        | 2, _ => rfl
        | 3, _ => rfl
        | k + 4, _ => rfl
      rw [this, T.get_none]
    · rfl
theorem raise_get (cur : Nat) : ∀ (k : Nat) (r : Rt) (made p : Nat), Rt.get (some (raise cur k r made).1) p = Rt.get (some r) p
  | 0, _, _, _ => rfl
  | k + 1, r, made, p => by rw [raise, raise_get cur k, upOf_get]
theorem upOf_ok (cur made : Nat) (r : Rt) (h : Rt.Ok (some r)) : Rt.Ok (some (upOf cur made r)) := by
  obtain ⟨n, t⟩ := r
  refine ⟨rfl, fun k hk => ?_⟩
  have hk' : k ∈ ([some t, none, none, none] : List (Option (T n))) := hk
  have : k = some t ∨ k = none := by simpa using hk'
  rcases this with rfl | rfl
  · exact h
  · cases n <;> trivial
theorem raise_ok (cur : Nat) : ∀ (k : Nat) (r : Rt) (made : Nat), Rt.Ok (some r) → Rt.Ok (some (raise cur k r made).1)
  | 0, _, _, h => h
  | k + 1, r, made, h => by rw [raise]; exact raise_ok cur k _ _ (upOf_ok cur made r h)
theorem raise_level (cur : Nat) : ∀ (k : Nat) (r : Rt) (made : Nat), (raise cur k r made).1.1 = r.1 + k
  | 0, _, _ => rfl
  | k + 1, r, made => by rw [raise, raise_level cur k]; show r.1 + 1 + k = _; omega
def lower (level : Nat) : (n : Nat) → T n → Option Rt
  | 0, t => some ⟨0, t⟩
  | n + 1, t => if n + 1 ≤ level then some ⟨n + 1, t⟩ else match (In.kids t).getD 0 none with
    | none => none
    | some k => lower level n k
theorem room_mono {a b : Nat} (h : a ≤ b) : room a ≤ room b := by unfold room; exact Nat.mul_le_mul_left _ (Nat.pow_le_pow_right (by decide) h)
theorem lower_get (level : Nat) : ∀ (n : Nat) (t : T n) (p : Nat), p < room level → T.Ok n (some t) → Rt.get (lower level n t) p = Rt.get (some ⟨n, t⟩) p ∧ Rt.Ok (lower level n t) ∧ ∀ r, lower level n t = some r → r.1 ≤ level ∨ r.1 = 0
  | 0, t, p, hp, hok => ⟨rfl, hok, fun r hr => by obtain rfl := Option.some.inj hr; exact .inr rfl⟩
  | n + 1, t, p, hp, hok => by
    unfold lower
    by_cases h : n + 1 ≤ level
    · rw [if_pos h]; exact ⟨rfl, hok, fun r hr => by obtain rfl := Option.some.inj hr; exact .inl h⟩
    · rw [if_neg h]
      have hpn : p < room n := Nat.lt_of_lt_of_le hp (room_mono (by omega))
      have hg : Rt.get (some ⟨n + 1, t⟩) p = T.get n ((In.kids t).getD 0 none) p := by
        show (if p < room (n + 1) then T.get n ((In.kids t).getD (p / room n) none) (p % room n) else 0) = _
        rw [if_pos (by have := room_succ n; omega), Nat.div_eq_of_lt hpn, Nat.mod_eq_of_lt hpn]
      rw [hg]
      cases hk : (In.kids t).getD 0 none with
      | none => exact ⟨by rw [T.get_none]; rfl, trivial, fun r hr => by cases hr⟩
      | some k =>
        have hok' : T.Ok n (some k) := by
          have hl : (In.kids t).length = 4 := hok.1
          have hm : (In.kids t).getD 0 none ∈ In.kids t := by
            rw [List.getD_eq_getElem?_getD, List.getElem?_eq_getElem (by omega)]
            exact List.getElem_mem _
          rw [hk] at hm
          exact hok.2 _ hm
        have ih := lower_get level n k p hp hok'
        refine ⟨?_, ih.2⟩
        show Rt.get (lower level n k) p = _
        rw [ih.1]
        show (if p < room n then T.get n (some k) p else 0) = _
        rw [if_pos hpn]
end Go.Proofs.Ythjjfmnipemakaa
