/- The numbers of the nodes of a tree: each but the first is the kid of one. -/
import Derived.Test.YthjjfmnipemakaaTuA
namespace Go.Proofs.Ythjjfmnipemakaa
set_option linter.unusedVariables false

/-- The number of the first kid of the node at a. -/
def first (R : List Rt) (a : Nat) : Nat := 1 + (flatK kidsT (R.take a)).length
theorem first_succ (R : List Rt) (a : Nat) (r : Rt) (h : R[a]? = some r) : first R (a + 1) = first R a + ((kidsT r).filterMap id).length := by
  have h' := List.getElem?_eq_some_iff.1 h
  unfold first
  rw [List.take_succ_eq_append_getElem h'.1, h'.2, flatK_append, List.length_append]
  have : flatK kidsT [r] = (kidsT r).filterMap id := by unfold flatK; simp
  rw [this]; omega
theorem first_mono (R : List Rt) {a b : Nat} (h : a ≤ b) : first R a ≤ first R b := by
  unfold first
  have : R.take b = R.take a ++ (R.take b).drop a := by
    conv => lhs; rw [← List.take_append_drop a (R.take b)]
    rw [List.take_take, Nat.min_eq_left h]
  rw [this, flatK_append, List.length_append]; omega
/-- All nodes of the tree below r. -/
structure Tree (R : List Rt) (r : Rt) : Prop where
  eq : R = lev kidsT r.1 [r]
theorem Tree.fix {R : List Rt} {r : Rt} (h : Tree R r) : R = [r] ++ flatK kidsT R := by
  rw [h.eq]; exact lev_fix lv_T r.1 [r] (fun x hx => by rw [List.mem_singleton.1 hx]; rfl)
theorem Tree.root {R : List Rt} {r : Rt} (h : Tree R r) : R[0]? = some r := by rw [h.fix]; rfl
theorem Tree.pos {R : List Rt} {r : Rt} (h : Tree R r) : 0 < R.length := (List.getElem?_eq_some_iff.1 h.root).1
theorem Tree.total {R : List Rt} {r : Rt} (h : Tree R r) : first R R.length = R.length := by
  have := congrArg List.length h.fix
  rw [List.length_append] at this
  unfold first
  rw [List.take_length]
  simp at this ⊢
  omega
theorem Tree.ahead {R : List Rt} {r : Rt} (h : Tree R r) : ∀ a, a < R.length → a < first R a
  | 0, _ => by unfold first; omega
  | a + 1, ha => by
    have h1 := h.ahead a (by omega)
    have h2 := first_mono R (Nat.le_succ a)
    rcases Nat.lt_or_ge (a + 1) (first R (a + 1)) with h3 | h3
    · exact h3
    · exfalso
      have e : first R (a + 1) = a + 1 := by have h4 : first R a ≤ first R (a + 1) := h2; omega
      have := lev_done lv_T r.1 r rfl (a + 1) (by rw [← h.eq]; omega) (by
        rw [← h.eq, List.length_append]
        unfold first at e
        simpa using e)
      rw [← h.eq] at this
      omega
/-- The node at a has the node at k as a kid. -/
def IsKid (R : List Rt) (a k : Nat) : Prop := a < R.length ∧ first R a ≤ k ∧ k < first R (a + 1)
theorem IsKid.one {R : List Rt} {a b k : Nat} (h : IsKid R a k) (h' : IsKid R b k) : a = b := by
  rcases Nat.lt_trichotomy a b with hab | hab | hab
  · have := first_mono R (show a + 1 ≤ b from hab)
    have := h.2.2
    have := h'.2.1
    omega
  · exact hab
  · have := first_mono R (show b + 1 ≤ a from hab)
    have := h'.2.2
    have := h.2.1
    omega
theorem IsKid.lt {R : List Rt} {r : Rt} (t : Tree R r) {a k : Nat} (h : IsKid R a k) : a < k ∧ k < R.length := by
  have h1 := t.ahead a h.1
  have h2 := first_mono R (show a + 1 ≤ R.length from h.1)
  have h3 := t.total
  have := h.2.1
  have := h.2.2
  omega
theorem Tree.parent {R : List Rt} {r : Rt} (h : Tree R r) (k : Nat) (h0 : 0 < k) (hk : k < R.length) : ∃ a, IsKid R a k := by
  have key : ∀ b, b ≤ R.length → k < first R b → ∃ a, IsKid R a k := by
    intro b
    induction b with
    | zero => intro _ hb; unfold first at hb; simp [flatK] at hb; omega
    | succ b ih =>
      intro hb hlt
      rcases Nat.lt_or_ge k (first R b) with h1 | h1
      · exact ih (by omega) h1
      · exact ⟨b, by omega, h1, hlt⟩
  exact key R.length (Nat.le_refl _) (by rw [h.total]; exact hk)
/-- From a node down to another one. -/
inductive Up (R : List Rt) (a : Nat) : Nat → Prop
  | refl : Up R a a
  | kid {b k : Nat} : Up R a b → IsKid R b k → Up R a k
theorem Up.le {R : List Rt} {r : Rt} (t : Tree R r) {a k : Nat} (h : Up R a k) : a ≤ k := by
  induction h with
  | refl => exact Nat.le_refl _
  | kid _ hk ih => have := (hk.lt t).1; omega
theorem Up.chain {R : List Rt} {a b k : Nat} (h : Up R a k) : Up R b k → Up R a b ∨ Up R b a := by
  induction h with
  | refl => exact fun h' => .inr h'
  | kid ha hk ih =>
    intro h'
    cases h' with
    | refl => exact .inl (.kid ha hk)
    | kid hb hk' =>
      obtain rfl := hk.one hk'
      exact ih hb
/-- Below two kids of one node there is nothing alike. -/
theorem kids_apart {R : List Rt} {r : Rt} (t : Tree R r) {a j j' k : Nat} (hj : IsKid R a j) (hj' : IsKid R a j') (hne : j ≠ j') (h : Up R j k) (h' : Up R j' k) : False := by
  have key : ∀ {x y : Nat}, IsKid R a x → IsKid R a y → x ≠ y → Up R x y → False := by
    intro x y hx hy hxy hu
    cases hu with
    | refl => exact hxy rfl
    | kid hb hk =>
      obtain rfl := hk.one hy
      have := hb.le t
      have := (hx.lt t).1
      omega
  rcases h.chain h' with h1 | h1
  · exact key hj hj' hne h1
  · exact key hj' hj (fun e => hne e.symm) h1
theorem Up.split {R : List Rt} {a k : Nat} (h : Up R a k) : k = a ∨ ∃ j, IsKid R a j ∧ Up R j k := by
  induction h with
  | refl => exact .inl rfl
  | kid hb hk ih =>
    rcases ih with rfl | ⟨j, hj, hu⟩
    · exact .inr ⟨_, hk, .refl⟩
    · exact .inr ⟨j, hj, .kid hu hk⟩
theorem Up.cons {R : List Rt} {a j k : Nat} (hj : IsKid R a j) (h : Up R j k) : Up R a k := by
  induction h with
  | refl => exact .kid .refl hj
  | kid _ hk ih => exact .kid ih hk
theorem Tree.all {R : List Rt} {r : Rt} (h : Tree R r) : ∀ (n k : Nat), k ≤ n → k < R.length → Up R 0 k
  | 0, k, hn, hk => by obtain rfl : k = 0 := by omega
                       exact .refl
  | n + 1, k, hn, hk => by
    by_cases h0 : k = 0
    · subst h0; exact .refl
    · obtain ⟨a, ha⟩ := h.parent k (by omega) hk
      have := (ha.lt h).1
      exact .kid (h.all n a (by omega) ha.1) ha
/-- The i-th kid of a node: its number, and that it stands there. -/
theorem kidsIdx_get {α : Type} : ∀ (ks : List (Option α)) (s i : Nat) (q : Option α), ks[i]? = some q → (kidsIdx s ks)[i]? = some (if q.isSome then ((s + ((ks.take i).filterMap id).length : Nat) : Int) else -1)
  | [], s, i, q, h => by simp at h
  | none :: ks, s, 0, q, h => by obtain rfl := Option.some.inj h; rfl
  | some x :: ks, s, 0, q, h => by obtain rfl := Option.some.inj h; rfl
  | none :: ks, s, i + 1, q, h => by
    have := kidsIdx_get ks s i q (by simpa using h)
    exact this
  | some x :: ks, s, i + 1, q, h => by
    have := kidsIdx_get ks (s + 1) i q (by simpa using h)
    show (kidsIdx (s + 1) ks)[i]? = _
    rw [this]
    show some (if q.isSome = true then ((s + 1 + ((ks.take i).filterMap id).length : Nat) : Int) else -1) = some (if q.isSome = true then ((s + (((ks.take i).filterMap id).length + 1) : Nat) : Int) else -1)
    rw [show s + (((ks.take i).filterMap id).length + 1) = s + 1 + ((ks.take i).filterMap id).length by omega]
theorem filterMap_at {α : Type} : ∀ (ks : List (Option α)) (i : Nat) (x : α), ks[i]? = some (some x) → (ks.filterMap id)[((ks.take i).filterMap id).length]? = some x
  | [], i, x, h => by simp at h
  | none :: ks, 0, x, h => by simp at h
  | some y :: ks, 0, x, h => by obtain rfl : y = x := by simpa using h
                                rfl
  | none :: ks, i + 1, x, h => filterMap_at ks i x (by simpa using h)
  | some y :: ks, i + 1, x, h => by
    have := filterMap_at ks i x (by simpa using h)
    show (y :: ks.filterMap id)[((ks.take i).filterMap id).length + 1]? = _
    rw [List.getElem?_cons_succ]; exact this
theorem Tree.kid {R : List Rt} {r : Rt} (t : Tree R r) (a : Nat) (x : Rt) (ha : R[a]? = some x) (i : Nat) (y : Rt) (hy : (kidsT x)[i]? = some (some y)) :
    IsKid R a (first R a + (((kidsT x).take i).filterMap id).length) ∧ R[first R a + (((kidsT x).take i).filterMap id).length]? = some y := by
  have hf := filterMap_at (kidsT x) i y hy
  have hlt := (List.getElem?_eq_some_iff.1 hf).1
  have ha' := List.getElem?_eq_some_iff.1 ha
  refine ⟨⟨ha'.1, by omega, by rw [first_succ R a x ha]; omega⟩, ?_⟩
  have e : R = ([r] ++ flatK kidsT (R.take a)) ++ ((kidsT x).filterMap id ++ flatK kidsT (R.drop (a + 1))) := by
    have h1 : R = R.take a ++ ([x] ++ R.drop (a + 1)) := by
      conv => lhs; rw [← List.take_append_drop a R, List.drop_eq_getElem_cons ha'.1, ha'.2]
      rfl
    have h2 : flatK kidsT R = flatK kidsT (R.take a) ++ ((kidsT x).filterMap id ++ flatK kidsT (R.drop (a + 1))) := by
      conv => lhs; rw [h1]
      rw [flatK_append, flatK_append]
      have : flatK kidsT [x] = (kidsT x).filterMap id := by unfold flatK; simp
      rw [this]
    have h3 := t.fix
    rw [h2, ← List.append_assoc] at h3
    exact h3
  have hl : ([r] ++ flatK kidsT (R.take a)).length = first R a := by unfold first; simp; omega
  rw [e, List.getElem?_append_right (by rw [hl]; rw [← e]; omega), hl, ← e]
  rw [show first R a + (((kidsT x).take i).filterMap id).length - first R a = (((kidsT x).take i).filterMap id).length by omega]
  rw [List.getElem?_append_left hlt]
  exact hf
theorem Tree.kids_differ {R : List Rt} {a : Nat} {x : Rt} {i i' : Nat} {y y' : Rt} (hy : (kidsT x)[i]? = some (some y)) (hy' : (kidsT x)[i']? = some (some y')) (hne : i < i') :
    first R a + (((kidsT x).take i).filterMap id).length ≠ first R a + (((kidsT x).take i').filterMap id).length := by
  have h1 : ((kidsT x).take (i + 1)).filterMap id = ((kidsT x).take i).filterMap id ++ [y] := by
    have h' := List.getElem?_eq_some_iff.1 hy
    rw [List.take_succ_eq_append_getElem h'.1, h'.2, List.filterMap_append]; rfl
  have h2 : (((kidsT x).take (i + 1)).filterMap id).length ≤ (((kidsT x).take i').filterMap id).length := by
    have : (kidsT x).take i' = (kidsT x).take (i + 1) ++ ((kidsT x).take i').drop (i + 1) := by
      conv => lhs; rw [← List.take_append_drop (i + 1) ((kidsT x).take i')]
      rw [List.take_take, Nat.min_eq_left (by omega)]
    rw [this, List.filterMap_append, List.length_append]; omega
  rw [h1, List.length_append] at h2
  simp at h2
  omega
end Go.Proofs.Ythjjfmnipemakaa
