/- The nodes of a tree, level by level, as plain data. -/
import Derived.Test.YthjjfmnipemakaaTrB
namespace Go.Proofs.Ythjjfmnipemakaa
set_option linter.unusedVariables false

section
variable {α : Type} (ks : α → List (Option α))
/-- The kids of all of them, one behind the other. -/
def flatK (l : List α) : List α := l.flatMap fun r => (ks r).filterMap id
def lev : Nat → List α → List α
  | 0, l => l
  | k + 1, l => l ++ lev k (flatK ks l)
variable {ks}
theorem flatK_append (l m : List α) : flatK ks (l ++ m) = flatK ks l ++ flatK ks m := by unfold flatK; rw [List.flatMap_append]
theorem mem_flatK {x : α} {l : List α} : x ∈ flatK ks l ↔ ∃ y ∈ l, some x ∈ ks y := by
  unfold flatK
  rw [List.mem_flatMap]
  constructor
  · rintro ⟨y, hy, hx⟩
    obtain ⟨z, hz, hzx⟩ := List.mem_filterMap.1 hx
    exact ⟨y, hy, by have : z = some x := hzx; rw [← this]; exact hz⟩
  · rintro ⟨y, hy, hx⟩
    exact ⟨y, hy, List.mem_filterMap.2 ⟨some x, hx, rfl⟩⟩
/-- Levels: kids are one lower, and those of level 0 have none. -/
structure Lv (ks : α → List (Option α)) (lv : α → Nat) : Prop where
  kid : ∀ x y, some x ∈ ks y → lv y = lv x + 1
theorem Lv.flat {lv : α → Nat} (h : Lv ks lv) {k : Nat} {l : List α} (hl : ∀ x ∈ l, lv x = k + 1) : ∀ x ∈ flatK ks l, lv x = k := by
  intro x hx
  obtain ⟨y, hy, hxy⟩ := mem_flatK.1 hx
  have := h.kid x y hxy
  have := hl y hy
  omega
theorem lev_fix {lv : α → Nat} (h : Lv ks lv) : ∀ (k : Nat) (l : List α), (∀ x ∈ l, lv x = k) → lev ks k l = l ++ flatK ks (lev ks k l)
  | 0, l, hl => by
    have : flatK ks l = [] := by
      apply List.eq_nil_iff_forall_not_mem.2
      intro x hx
      obtain ⟨y, hy, hxy⟩ := mem_flatK.1 hx
      have := h.kid x y hxy
      have := hl y hy
      omega
    show l = l ++ flatK ks l
    rw [this, List.append_nil]
  | k + 1, l, hl => by
    have ih := lev_fix h k (flatK ks l) (h.flat hl)
    show l ++ lev ks k (flatK ks l) = l ++ flatK ks (l ++ lev ks k (flatK ks l))
    rw [flatK_append, ← ih]
theorem lev_le {lv : α → Nat} (h : Lv ks lv) : ∀ (k : Nat) (l : List α), (∀ x ∈ l, lv x = k) → ∀ x ∈ lev ks k l, lv x ≤ k
  | 0, l, hl => fun x hx => by rw [hl x hx]; exact Nat.le_refl _
  | k + 1, l, hl => fun x hx => by
    rcases List.mem_append.1 (show x ∈ l ++ lev ks k (flatK ks l) from hx) with hx | hx
    · rw [hl x hx]; exact Nat.le_refl _
    · exact Nat.le_succ_of_le (lev_le h k _ (h.flat hl) x hx)
theorem lev_length (P : α → Prop) (hP : ∀ x, P x → (ks x).length ≤ 4 ∧ ∀ y, some y ∈ ks x → P y) (c : Nat → Nat) (c0 : 1 ≤ c 0) (c1 : ∀ k, c (k + 1) = 1 + 4 * c k) : ∀ (k : Nat) (l : List α), (∀ x ∈ l, P x) → (lev ks k l).length ≤ l.length * c k
  | 0, l, _ => by
    show l.length ≤ l.length * c 0
    exact Nat.le_mul_of_pos_right _ c0
  | k + 1, l, hl => by
    have hf : ∀ m : List α, (∀ x ∈ m, P x) → (flatK ks m).length ≤ 4 * m.length := by
      intro m
      induction m with
      | nil => intro _; exact Nat.le_refl _
      | cons x m ih =>
        intro hm
        have e : flatK ks (x :: m) = (ks x).filterMap id ++ flatK ks m := rfl
        rw [e, List.length_append, List.length_cons]
        have h1 := List.length_filterMap_le id (ks x)
        have h2 := (hP x (hm x (List.mem_cons_self ..))).1
        have h3 := ih (fun y hy => hm y (List.mem_cons_of_mem _ hy))
        omega
    have hf := hf l hl
    have ih := lev_length P hP c c0 c1 k (flatK ks l) (fun x hx => by
      obtain ⟨y, hy, hxy⟩ := mem_flatK.1 hx
      exact (hP y (hl y hy)).2 x hxy)
    show (l ++ lev ks k (flatK ks l)).length ≤ _
    rw [List.length_append, c1]
    have : (flatK ks l).length * c k ≤ 4 * l.length * c k := Nat.mul_le_mul_right _ hf
    have e : l.length * (1 + 4 * c k) = l.length + 4 * l.length * c k := by rw [Nat.mul_add, Nat.mul_one, ← Nat.mul_assoc, Nat.mul_comm l.length 4]
    rw [e]; omega
/-- When the nodes that are told of are as many as were found, all are told. -/
theorem lev_done {lv : α → Nat} (h : Lv ks lv) (k : Nat) (r : α) (hr : lv r = k) (i : Nat) (hi : i ≤ (lev ks k [r]).length) (hl : ([r] ++ flatK ks ((lev ks k [r]).take i)).length = i) : i = (lev ks k [r]).length := by
  have hone : ∀ x ∈ [r], lv x = k := fun x hx => by rw [List.mem_singleton.1 hx]; exact hr
  have hfix := lev_fix h k [r] hone
  obtain ⟨R, hR⟩ : ∃ R, lev ks k [r] = R := ⟨_, rfl⟩
  have hle := lev_le h k [r] hone
  rw [hR] at hfix hi hl hle ⊢
  have e1 : R.take i ++ R.drop i = ([r] ++ flatK ks (R.take i)) ++ flatK ks (R.drop i) := by
    rw [List.append_assoc, ← flatK_append, List.take_append_drop]; exact hfix
  have e2 := (List.append_inj e1 (by rw [hl, List.length_take]; omega)).2
  have e3 : R.drop i = [] := by
    apply List.eq_nil_iff_forall_not_mem.2
    intro x hx
    have up : ∀ j : Nat, ∃ y ∈ R.drop i, lv y = lv x + j := by
      intro j
      induction j with
      | zero => exact ⟨x, hx, rfl⟩
      | succ j ih =>
        obtain ⟨y, hy, hyl⟩ := ih
        rw [e2] at hy
        obtain ⟨z, hz, hzy⟩ := mem_flatK.1 hy
        exact ⟨z, hz, by have := h.kid y z hzy; omega⟩
    obtain ⟨y, hy, hyl⟩ := up (k + 1)
    have := hle y (List.mem_of_mem_drop hy)
    omega
  have := congrArg List.length e3
  rw [List.length_drop] at this
  simp at this
  omega
theorem lev_prefix {lv : α → Nat} (h : Lv ks lv) (k : Nat) (r : α) (hr : lv r = k) (i : Nat) : ∃ m, [r] ++ flatK ks ((lev ks k [r]).take i) ++ m = lev ks k [r] := by
  have hone : ∀ x ∈ [r], lv x = k := fun x hx => by rw [List.mem_singleton.1 hx]; exact hr
  have hfix := lev_fix h k [r] hone
  refine ⟨flatK ks ((lev ks k [r]).drop i), ?_⟩
  rw [List.append_assoc, ← flatK_append, List.take_append_drop]; exact hfix.symm
end
/-- Where kids come to stand, holes aside. -/
def kidsIdx {α : Type} : Nat → List (Option α) → List Int
  | _, [] => []
  | s, none :: ks => -1 :: kidsIdx s ks
  | s, some _ :: ks => (s : Int) :: kidsIdx (s + 1) ks
theorem kidsIdx_append {α : Type} : ∀ (xs ys : List (Option α)) (s : Nat), kidsIdx s (xs ++ ys) = kidsIdx s xs ++ kidsIdx (s + (xs.filterMap id).length) ys
  | [], ys, s => rfl
  | none :: xs, ys, s => by show -1 :: kidsIdx s (xs ++ ys) = _; rw [kidsIdx_append xs ys s]; rfl
  | some x :: xs, ys, s => by
    show (s : Int) :: kidsIdx (s + 1) (xs ++ ys) = _
    rw [kidsIdx_append xs ys (s + 1)]
    show _ = (s : Int) :: kidsIdx (s + 1) xs ++ kidsIdx (s + ((xs.filterMap id).length + 1)) ys
    rw [show s + ((xs.filterMap id).length + 1) = s + 1 + (xs.filterMap id).length by omega]; rfl
theorem kidsIdx_map {α β : Type} (f : α → β) : ∀ (xs : List (Option α)) (s : Nat), kidsIdx s (xs.map (Option.map f)) = kidsIdx s xs
  | [], s => rfl
  | none :: xs, s => by show -1 :: kidsIdx s (xs.map _) = _; rw [kidsIdx_map f xs s]; rfl
  | some x :: xs, s => by show (s : Int) :: kidsIdx (s + 1) (xs.map _) = _; rw [kidsIdx_map f xs (s + 1)]; rfl
theorem kidsIdx_length {α : Type} : ∀ (xs : List (Option α)) (s : Nat), (kidsIdx s xs).length = xs.length
  | [], s => rfl
  | none :: xs, s => by show (kidsIdx s xs).length + 1 = _; rw [kidsIdx_length xs s]; rfl
  | some x :: xs, s => by show (kidsIdx (s + 1) xs).length + 1 = _; rw [kidsIdx_length xs (s + 1)]; rfl
/-! Of trees. -/
def kidsT (r : Rt) : List (Option Rt) := match r with
  | ⟨0, _⟩ => []
  | ⟨n + 1, t⟩ => (In.kids t).map (Option.map fun k => (⟨n, k⟩ : Rt))
def lvT (r : Rt) : Nat := r.1
theorem lv_T : Lv kidsT lvT := ⟨fun x y h => by
  obtain ⟨n, t⟩ := y
  cases n with
  | zero => cases h
  | succ n =>
    obtain ⟨k, hk, he⟩ := List.mem_map.1 (show some x ∈ (In.kids t).map (Option.map fun k => (⟨n, k⟩ : Rt)) from h)
    cases k with
    | none => cases he
    | some k => obtain rfl := Option.some.inj he; rfl⟩
structure Nd where
  id : Nat
  birth : Nat
  level : Nat
  kids : List Int
  data : List Int
def ndT (s : Nat) (r : Rt) : Nd := match r with
  | ⟨0, t⟩ => ⟨Lf.id t, Lf.birth t, 0, [], Lf.data t⟩
  | ⟨n + 1, t⟩ => ⟨In.id t, In.birth t, n + 1, kidsIdx s (In.kids t), []⟩
def allT (root : Option Rt) : List Rt := match root with
  | none => []
  | some r => lev kidsT r.1 [r]
/-- The i-th node, as it is told. -/
def ndAt (R : List Rt) (i : Nat) (r : Rt) : Nd := ndT (1 + (flatK kidsT (R.take i)).length) r
def nodesUpTo (R : List Rt) : Nat → List Nd
  | 0 => []
  | i + 1 => nodesUpTo R i ++ (match R[i]? with
    | some r => [ndAt R i r]
    | none => [])
def nodesP (root : Option Rt) : List Nd := nodesUpTo (allT root) (allT root).length
theorem nodesUpTo_length (R : List Rt) : ∀ i, i ≤ R.length → (nodesUpTo R i).length = i
  | 0, _ => rfl
  | i + 1, h => by
    show (nodesUpTo R i ++ _).length = _
    rw [List.length_append, nodesUpTo_length R i (by omega), List.getElem?_eq_getElem (by omega)]; rfl
theorem nodesUpTo_get (R : List Rt) : ∀ (n i : Nat) (r : Rt), i < n → n ≤ R.length → R[i]? = some r → (nodesUpTo R n)[i]? = some (ndAt R i r)
  | 0, i, r, h, _, _ => absurd h (by omega)
  | n + 1, i, r, h, hn, hr => by
    show (nodesUpTo R n ++ _)[i]? = _
    have hl := nodesUpTo_length R n (by omega)
    by_cases hi : i < n
    · rw [List.getElem?_append_left (by omega)]; exact nodesUpTo_get R n i r hi (by omega) hr
    · obtain rfl : i = n := by omega
      rw [List.getElem?_append_right (by omega), hl, Nat.sub_self, hr]; rfl
def costT : Nat → Nat
  | 0 => 1
  | k + 1 => 1 + 4 * costT k
theorem allT_length (root : Option Rt) (h : Rt.Ok root) (hl : ∀ r, root = some r → r.1 ≤ 3) : (allT root).length ≤ 85 := by
  cases root with
  | none => exact Nat.zero_le _
  | some r =>
    have := lev_length (ks := kidsT) (fun x => Rt.Ok (some x)) (fun x hx => by
      obtain ⟨n, t⟩ := x
      cases n with
      | zero => exact ⟨Nat.zero_le _, fun y hy => by cases hy⟩
      | succ n =>
        have hx' : T.Ok (n + 1) (some t) := hx
        refine ⟨by show ((In.kids t).map _).length ≤ 4; rw [List.length_map]; exact Nat.le_of_eq hx'.1, fun y hy => ?_⟩
        obtain ⟨k, hk, hke⟩ := List.mem_map.1 (show some y ∈ (In.kids t).map (Option.map fun k => (⟨n, k⟩ : Rt)) from hy)
        cases k with
        | none => cases hke
        | some k => obtain rfl := Option.some.inj hke; exact hx'.2 _ hk) costT (Nat.le_refl _) (fun k => rfl) r.1 [r] (fun x hx => by rw [List.mem_singleton.1 hx]; exact h)
    have h3 := hl r rfl
    have hc : costT r.1 ≤ 85 := by
      have : r.1 = 0 ∨ r.1 = 1 ∨ r.1 = 2 ∨ r.1 = 3 := by omega
      rcases this with e | e | e | e <;> rw [e] <;> decide
    show (lev kidsT r.1 [r]).length ≤ 85
    simp only [List.length_singleton, Nat.one_mul] at this
    omega
end Go.Proofs.Ythjjfmnipemakaa
