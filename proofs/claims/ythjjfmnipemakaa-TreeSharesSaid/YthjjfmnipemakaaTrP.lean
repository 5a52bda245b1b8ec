/- How many nodes a write and a cut make; an inner node and its kids as a list of things. -/
import Derived.Test.YthjjfmnipemakaaTrW
namespace Go.Proofs.Ythjjfmnipemakaa
open Go.RowKit
set_option linter.unusedVariables false
set_option maxRecDepth 100000

def cost : Nat → Nat
  | 0 => 1
  | n + 1 => 1 + 4 * cost n
theorem mapA_cost {α : Type} (f : Nat → Option α → Nat → Option α × Nat) (c : Nat) (hf : ∀ i k m, m ≤ (f i k m).2 ∧ (f i k m).2 ≤ m + c) : ∀ (ks : List (Option α)) (i m : Nat), m ≤ (mapA f i ks m).2 ∧ (mapA f i ks m).2 ≤ m + ks.length * c
  | [], i, m => by simp [mapA]
  | k :: ks, i, m => by
    have h1 := hf i k m
    have h2 := mapA_cost f c hf ks (i + 1) (f i k m).2
    have e : (k :: ks).length * c = ks.length * c + c := by rw [List.length_cons, Nat.add_mul, Nat.one_mul]
    rw [e]
    show m ≤ (mapA f (i + 1) ks (f i k m).2).2 ∧ (mapA f (i + 1) ks (f i k m).2).2 ≤ _
    omega
/-- Kids that are four, or none at all, on every level. -/
def Four : (n : Nat) → Option (T n) → Prop
  | _, none => True
  | 0, some t => True
  | n + 1, some t => (In.kids t).length = 4 ∧ ∀ k ∈ In.kids t, Four n k
theorem write_ge (cur off : Nat) (data : List Int) : ∀ (n base : Nat) (t : Option (T n)) (m : Nat), m ≤ (T.write cur off data n base t m).2
  | 0, base, t, m => by
    unfold T.write
    split
    · exact Nat.le_refl _
    · split
      · exact Nat.le_succ _
      · cases t <;> exact Nat.le_refl _
  | n + 1, base, t, m => by
    have ge : ∀ (ks : List (Option (T n))) (i m : Nat), m ≤ (mapA (fun i k m => T.write cur off data n (base + i * room n) k m) i ks m).2 := by
      intro ks
      induction ks with
      | nil => intro i m; exact Nat.le_refl _
      | cons k ks ih => intro i m; exact Nat.le_trans (write_ge cur off data n _ k m) (ih (i + 1) _)
    unfold T.write
    split
    · exact Nat.le_refl _
    · split
      · exact Nat.le_trans (Nat.le_succ _) (ge _ 0 _)
      · cases t with
        | none => exact Nat.le_refl _
        | some t => exact ge _ 0 _
theorem write_cost (cur off : Nat) (data : List Int) : ∀ (n base : Nat) (t : Option (T n)) (m : Nat), Four n t → (T.write cur off data n base t m).2 ≤ m + cost n
  | 0, base, t, m, _ => by
    unfold T.write
    split
    · exact Nat.le_add_right _ _
    · split
      · exact Nat.le_refl _
      · cases t <;> exact Nat.le_add_right _ _
  | n + 1, base, t, m, h4 => by
    have le : ∀ (ks : List (Option (T n))), (∀ k ∈ ks, Four n k) → ∀ (i m : Nat), (mapA (fun i k m => T.write cur off data n (base + i * room n) k m) i ks m).2 ≤ m + ks.length * cost n := by
      intro ks
      induction ks with
      | nil => intro _ i m; simp [mapA]
      | cons k ks ih =>
        intro h i m
        have h1 := write_cost cur off data n (base + i * room n) k m (h k (List.mem_cons_self ..))
        have h2 := ih (fun q hq => h q (List.mem_cons_of_mem _ hq)) (i + 1) (T.write cur off data n (base + i * room n) k m).2
        have e : (k :: ks).length * cost n = ks.length * cost n + cost n := by rw [List.length_cons, Nat.add_mul, Nat.one_mul]
        rw [e]
        show (mapA _ (i + 1) ks (T.write cur off data n (base + i * room n) k m).2).2 ≤ _
        omega
    have hf : (In.kids (T.fresh (n + 1) cur m t)).length = 4 ∧ ∀ k ∈ In.kids (T.fresh (n + 1) cur m t), Four n k := by
      cases t with
      | none =>
        refine ⟨rfl, fun k hk => ?_⟩
        have : k = none := by simpa [T.fresh] using hk
        subst this; cases n <;> trivial
      | some t => exact h4
    show _ ≤ m + (1 + 4 * cost n)
    unfold T.write
    split
    · exact Nat.le_add_right _ _
    · split
      · have := le _ hf.2 0 (m + 1)
        rw [hf.1] at this
        show (mapA _ 0 _ (m + 1)).2 ≤ _
        omega
      · cases t with
        | none => exact Nat.le_add_right _ _
        | some t =>
          have := le _ h4.2 0 m
          rw [h4.1] at this
          show (mapA _ 0 _ m).2 ≤ _
          omega
theorem cost_le (n : Nat) (h : n ≤ 4) : cost n ≤ 341 := by
  have : n = 0 ∨ n = 1 ∨ n = 2 ∨ n = 3 ∨ n = 4 := by omega
  rcases this with rfl | rfl | rfl | rfl | rfl <;> decide

theorem take_set_next {α : Type} (l : List α) (i : Nat) (x : α) (h : i < l.length) : (l.set i x).take (i + 1) = l.take i ++ [x] := by
  rw [List.take_add_one, List.take_set_of_le (Nat.le_refl i), List.getElem?_set, if_pos rfl, if_pos h]; rfl
theorem drop_set_next {α : Type} (l : List α) (i : Nat) (x : α) : (l.set i x).drop (i + 1) = l.drop (i + 1) := List.drop_set_of_lt (by omega)
theorem Along.next {n : Nat} {f : Nat → Option (T n) → Nat → Option (T n) × Nat} {K : List (Option (T n))} {made md i : Nat} {l : List (Option (PT n))} {q : Option (T n)} (h : Along f K made (l.take i) md) (hi : i < l.length) (hq : K[i]? = some q) (t' : Option (PT n))
    (ht : t'.map (PT.er n) = (f i q md).1) : Along f K made ((l.set i t').take (i + 1)) (f i q md).2 := by
  have hl : (l.take i).length = i := by rw [List.length_take]; omega
  have hK := (List.getElem?_eq_some_iff.1 hq).1
  have e : K.getD i none = q := by simp [List.getD, hq]
  have := h.step (by rw [hl]; exact hK) t' (by rw [hl, e]; exact ht)
  rw [hl, e] at this
  rw [take_set_next l i t' hi]
  exact this
/-! An inner node that is being made, beside the forest and S. -/
theorem nodeV_setKid (id birth level : Nat) (ps : List Value) (ds : List Int) (j : Nat) (hj : j < ps.length) (v : Value) : (nodeV id birth level ps ds).setIfInBounds (3 + j) v = nodeV id birth level (ps.set j v) ds := by
  unfold nodeV
  rw [List.setIfInBounds_toArray, List.append_assoc, List.append_assoc, List.set_append, if_neg (by simp), List.set_append, if_pos (by simpa using hj)]
  congr 3
  simp
theorem nodeV_kid (id birth level : Nat) (ps : List Value) (ds : List Int) (j : Nat) (hj : j < ps.length) : (nodeV id birth level ps ds)[3 + j]? = ps[j]? := by
  unfold nodeV
  rw [List.getElem?_toArray, List.append_assoc, List.getElem?_append_right (by simp), List.getElem?_append_left (by simpa using hj)]
  congr 1
  simp
theorem kid_cell {w : World} {n g id birth level : Nat} {ks : List (Option (PT n))} {ds : List Int} {ty : TypeId} {j : Nat} {q : Option (PT n)} (h : Box w g (nodeV id birth level (ks.map ptr) ds) ty) (hq : ks[j]? = some q) : w.cell? ⟨g, 3 + j, none⟩ = some (ptr q) := by
  have hj := (List.getElem?_eq_some_iff.1 hq).1
  rw [h.cell (3 + j), nodeV_kid _ _ _ _ _ _ (by simpa using hj), List.getElem?_map, hq]; rfl
def inSt (W : World) (G : Nat → Prop) (S : Thing) (k : Nat) (av : Option Addr) (cv cur n g id : Nat) (ks : List (Option (PT n))) (md : Nat) : List Thing :=
  thBox k (forV av cur cv md) 74 :: S :: thBox g (nodeV id cur (n + 1) (ks.map ptr) zeros) 82 :: thKids W G cur n ks
theorem inSt_set (W : World) (G : Nat → Prop) (S : Thing) (k : Nat) (av : Option Addr) (cv cur n g id : Nat) (ks : List (Option (PT n))) (md md' i : Nat) (t : Option (PT n)) :
    ((((inSt W G S k av cv cur n g id ks md).set 0 (thBox k (forV av cur cv md') 74)).set 1 S).set (3 + i) (thT W G cur n t)).set 2 (thBox g (nodeV id cur (n + 1) ((ks.map ptr).set i (ptr t)) zeros) 82) = inSt W G S k av cv cur n g id (ks.set i t) md' := by
  rw [Nat.add_comm 3 i]
  simp [inSt, thKids, List.map_set]
theorem inSt_round {W : World} {G : Nat → Prop} {S : Thing} {k : Nat} {av : Option Addr} {cv cur n g id : Nat} {ks : List (Option (PT n))} {md md' i : Nat} {q t : Option (PT n)} {w1 w2 : World}
    (h : Apt (inSt W G S k av cv cur n g id ks md) w1) (hi : ks[i]? = some q)
    (ht : Turns (thAll [thBox k (forV av cur cv md) 74, S, thT W G cur n q]) (thAll [thBox k (forV av cur cv md') 74, S, thT W G cur n t]) w1 w2) :
    Turns (thAll (inSt W G S k av cv cur n g id ks md)) (thAll (inSt W G S k av cv cur n g id (ks.set i t) md')) w1 (w2.setCell ⟨g, 3 + i, none⟩ (ptr t)) ∧ Box w2 g (nodeV id cur (n + 1) (ks.map ptr) zeros) 82 := by
  have hil := (List.getElem?_eq_some_iff.1 hi).1
  have T1 := Turns.focus h (i := 0) (j := 1) (k := 3 + i) rfl rfl (by show (inSt W G S k av cv cur n g id ks md)[3 + i]? = some (thT W G cur n q); rw [Nat.add_comm 3 i]; simp [inSt, thKids, List.getElem?_map, hi]) (by decide) (by omega) (by omega) ht
  have hb : ((((inSt W G S k av cv cur n g id ks md).set 0 (thBox k (forV av cur cv md') 74)).set 1 S).set (3 + i) (thT W G cur n t))[2]? = some (thBox g (nodeV id cur (n + 1) (ks.map ptr) zeros) 82) := by
    rw [Nat.add_comm 3 i]; simp [inSt]
  have hB : Box w2 g (nodeV id cur (n + 1) (ks.map ptr) zeros) 82 := Apt.all T1.now 2 _ hb
  have T2 := T1.trans (Turns.inside (i := 2) T1.now hb (Turns.cell hB (3 + i) (ptr t)))
  rw [nodeV_setKid _ _ _ _ _ _ (by simpa using hil), inSt_set] at T2
  exact ⟨T2, hB⟩
theorem inSt_pick {W : World} {G : Nat → Prop} {S : Thing} {k : Nat} {av : Option Addr} {cv cur n g id : Nat} {ks : List (Option (PT n))} {md i : Nat} {q : Option (PT n)} {w : World}
    (h : Apt (inSt W G S k av cv cur n g id ks md) w) (hi : ks[i]? = some q) : Apt [thBox k (forV av cur cv md) 74, S, thT W G cur n q] w := by
  refine h.by (fun j => if j = 2 then 3 + i else j) (fun a b e ha hb => ?_) (fun j t ht => ?_)
  · simp only [List.length_cons, List.length_nil] at ha hb
    split at e <;> split at e <;> omega
  · match j, ht with
    | 0, ht => exact ht
    | 1, ht => exact ht
    | 2, ht =>
      obtain rfl : thT W G cur n q = t := by simpa using ht
      show (inSt W G S k av cv cur n g id ks md)[3 + i]? = _
      rw [Nat.add_comm 3 i]; simp [inSt, thKids, List.getElem?_map, hi]
    | j + 3, ht => simp at ht
theorem inSt_start {W : World} {G : Nat → Prop} {S : Thing} {k : Nat} {av : Option Addr} {cv cur n g id : Nat} {ks : List (Option (PT n))} {md : Nat} {w : World}
    (h : Apt [thBox k (forV av cur cv md) 74, S, thAll (thBox g (nodeV id cur (n + 1) (ks.map ptr) zeros) 82 :: thKids W G cur n ks)] w) :
    Turns (thAll [thBox k (forV av cur cv md) 74, S, thAll (thBox g (nodeV id cur (n + 1) (ks.map ptr) zeros) 82 :: thKids W G cur n ks)]) (thAll (inSt W G S k av cv cur n g id ks md)) w w := Turns.ungroup2 h
theorem inSt_end {W : World} {G : Nat → Prop} {S : Thing} {k : Nat} {av : Option Addr} {cv cur n g id : Nat} {ks : List (Option (PT n))} {md : Nat} {w : World} (hk : ks.length = 4)
    (h : Apt (inSt W G S k av cv cur n g id ks md) w) :
    Turns (thAll (inSt W G S k av cv cur n g id ks md)) (thAll [thBox k (forV av cur cv md) 74, S, thT W G cur (n + 1) (some (⟨g, id, cur, ks⟩ : InP (PT n)))]) w w := by
  have T1 := Turns.group2 h
  exact T1.trans (Turns.inside (i := 2) T1.now rfl (innerThing W G cur n g id ks hk (Apt.all T1.now 2 _ rfl)))
theorem thT_four {W w : World} {G : Nat → Prop} {cur : Nat} : ∀ (n : Nat) (t : Option (PT n)), (thT W G cur n t).holds w → Four n (t.map (PT.er n))
  | n, none, _ => by cases n <;> trivial
  | 0, some t, _ => trivial
  | n + 1, some t, h => by
    have old : ∀ (n : Nat) (k : Option (PT n)), OldT W G cur n k → Four n (k.map (PT.er n)) := by
      intro n
      induction n with
      | zero => intro k _; cases k <;> trivial
      | succ n ih =>
        intro k hk
        cases k with
        | none => trivial
        | some k =>
          have hf : (InP.kids k).length = 4 := hk.2.2.1
          refine ⟨by show ((InP.kids k).map (Option.map (PT.er n))).length = 4; rw [List.length_map]; exact hf, fun q hq => ?_⟩
          have hq' : q ∈ (InP.kids k).map (Option.map (PT.er n)) := hq
          obtain ⟨r, hr, rfl⟩ := List.mem_map.1 hq'
          exact ih r (hk.2.2.2.2 r hr)
    unfold thT at h
    by_cases hb : PT.birthOf t < cur
    · rw [if_pos hb] at h; exact old (n + 1) (some t) h
    · rw [if_neg hb] at h
      have h1 : PT.birthOf t = cur ∧ PT.Fine t := Apt.all h 0 _ rfl
      have hf : (InP.kids t).length = 4 := h1.2
      refine ⟨by show ((InP.kids t).map (Option.map (PT.er n))).length = 4; rw [List.length_map]; exact hf, fun q hq => ?_⟩
      have hq' : q ∈ (InP.kids t).map (Option.map (PT.er n)) := hq
      obtain ⟨r, hr, rfl⟩ := List.mem_map.1 hq'
      obtain ⟨j, hj⟩ := List.getElem?_of_mem hr
      exact thT_four n r (Apt.all h (j + 2) _ (by
        show ((InP.kids t).map fun k => thT W G cur n k)[j]? = _
        rw [List.getElem?_map, hj]; rfl))
end Go.Proofs.Ythjjfmnipemakaa
