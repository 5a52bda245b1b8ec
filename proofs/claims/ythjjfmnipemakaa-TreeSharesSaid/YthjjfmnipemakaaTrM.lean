/- Package tree in memory: nodes, old trees, the tree that is being made. -/
import Derived.Test.YthjjfmnipemakaaTrC
import Derived.Test.YthjjfmnipemakaaThA
import Derived.Test.YthjjfmnipemakaaBoxOps
namespace Go.Proofs.Ythjjfmnipemakaa
open Go.RowKit
set_option linter.unusedVariables false
set_option maxRecDepth 100000

/-- Three things of a list turn together. -/
theorem Apt.focus {l : List Thing} {w w' : World} {i j k : Nat} {a b c a' b' c' : Thing} (h : Apt l w) (hi : l[i]? = some a) (hj : l[j]? = some b) (hk : l[k]? = some c) (hij : i ≠ j) (hik : i ≠ k) (hjk : j ≠ k)
    (ht : Turns (thAll [a, b, c]) (thAll [a', b', c']) w w') : Apt (((l.set i a').set j b').set k c') w' := by
  have gi := (List.getElem?_eq_some_iff.1 hi).1
  have gj := (List.getElem?_eq_some_iff.1 hj).1
  have gk := (List.getElem?_eq_some_iff.1 hk).1
  have hn : Apt [a', b', c'] w' := ht.now
  have get : ∀ (q : Nat) (t : Thing), (((l.set i a').set j b').set k c')[q]? = some t → (q = i ∧ t = a') ∨ (q = j ∧ t = b') ∨ (q = k ∧ t = c') ∨ (q ≠ i ∧ q ≠ j ∧ q ≠ k ∧ l[q]? = some t) := by
    intro q t hq
    rw [List.getElem?_set] at hq
    split at hq
    · rename_i e
      simp only [List.length_set] at hq
      rw [if_pos gk] at hq
      exact .inr (.inr (.inl ⟨e.symm, by injection hq with hq; exact hq.symm⟩))
    · rename_i e1
      rw [List.getElem?_set] at hq
      split at hq
      · rename_i e
        simp only [List.length_set] at hq
        rw [if_pos gj] at hq
        exact .inr (.inl ⟨e.symm, by injection hq with hq; exact hq.symm⟩)
      · rename_i e2
        rw [List.getElem?_set] at hq
        split at hq
        · rename_i e
          exact .inl ⟨e.symm, by injection hq with hq; exact hq.symm⟩
        · rename_i e3
          exact .inr (.inr (.inr ⟨fun e => e3 e.symm, fun e => e2 e.symm, fun e => e1 e.symm, hq⟩))
  -- a thing of the rest is apart from the three, as they were and as they are
  have rest : ∀ (q : Nat) (t : Thing), q ≠ i → q ≠ j → q ≠ k → l[q]? = some t → ∀ x, t.foot x → ¬ (thAll [a, b, c]).foot x := by
    intro q t q1 q2 q3 hq x hx ⟨s, hs, hsx⟩
    rcases List.mem_cons.1 hs with rfl | hs
    · exact h.apart q i t _ hq hi q1 x hx hsx
    · rcases List.mem_cons.1 hs with rfl | hs
      · exact h.apart q j t _ hq hj q2 x hx hsx
      · obtain rfl := List.mem_singleton.1 hs
        exact h.apart q k t _ hq hk q3 x hx hsx
  have rest' : ∀ (q : Nat) (t : Thing), q ≠ i → q ≠ j → q ≠ k → l[q]? = some t → ∀ x, t.foot x → ¬ (thAll [a', b', c']).foot x := by
    intro q t q1 q2 q3 hq x hx hf
    rcases ht.own x hf with h1 | h1
    · exact rest q t q1 q2 q3 hq x hx h1
    · have := t.lt (h.all q t hq) x hx; omega
  have ma : ∀ x, a'.foot x → (thAll [a', b', c']).foot x := fun x hx => ⟨a', by simp, hx⟩
  have mb : ∀ x, b'.foot x → (thAll [a', b', c']).foot x := fun x hx => ⟨b', by simp, hx⟩
  have mc : ∀ x, c'.foot x → (thAll [a', b', c']).foot x := fun x hx => ⟨c', by simp, hx⟩
  refine ⟨fun q t hq => ?_, fun q r s t hq hr hne x hx hx2 => ?_⟩
  · rcases get q t hq with ⟨_, rfl⟩ | ⟨_, rfl⟩ | ⟨_, rfl⟩ | ⟨q1, q2, q3, hq'⟩
    · exact hn.all 0 _ rfl
    · exact hn.all 1 _ rfl
    · exact hn.all 2 _ rfl
    · exact t.keep (h.all q t hq') ht.mv (rest q t q1 q2 q3 hq')
  · rcases get q s hq with ⟨e1, rfl⟩ | ⟨e1, rfl⟩ | ⟨e1, rfl⟩ | ⟨q1, q2, q3, hq'⟩
    · rcases get r t hr with ⟨e2, rfl⟩ | ⟨e2, rfl⟩ | ⟨e2, rfl⟩ | ⟨r1, r2, r3, hr'⟩
      · exact hne (by rw [e1, e2])
      · exact hn.apart 0 1 _ _ rfl rfl (by decide) x hx hx2
      · exact hn.apart 0 2 _ _ rfl rfl (by decide) x hx hx2
      · exact rest' r t r1 r2 r3 hr' x hx2 (ma x hx)
    · rcases get r t hr with ⟨e2, rfl⟩ | ⟨e2, rfl⟩ | ⟨e2, rfl⟩ | ⟨r1, r2, r3, hr'⟩
      · exact hn.apart 1 0 _ _ rfl rfl (by decide) x hx hx2
      · exact hne (by rw [e1, e2])
      · exact hn.apart 1 2 _ _ rfl rfl (by decide) x hx hx2
      · exact rest' r t r1 r2 r3 hr' x hx2 (mb x hx)
    · rcases get r t hr with ⟨e2, rfl⟩ | ⟨e2, rfl⟩ | ⟨e2, rfl⟩ | ⟨r1, r2, r3, hr'⟩
      · exact hn.apart 2 0 _ _ rfl rfl (by decide) x hx hx2
      · exact hn.apart 2 1 _ _ rfl rfl (by decide) x hx hx2
      · exact hne (by rw [e1, e2])
      · exact rest' r t r1 r2 r3 hr' x hx2 (mc x hx)
    · rcases get r t hr with ⟨e2, rfl⟩ | ⟨e2, rfl⟩ | ⟨e2, rfl⟩ | ⟨r1, r2, r3, hr'⟩
      · exact rest' q s q1 q2 q3 hq' x hx (ma x hx2)
      · exact rest' q s q1 q2 q3 hq' x hx (mb x hx2)
      · exact rest' q s q1 q2 q3 hq' x hx (mc x hx2)
      · exact h.apart q r s t hq' hr' hne x hx hx2
theorem Turns.focus {l : List Thing} {w w' : World} {i j k : Nat} {a b c a' b' c' : Thing} (h : Apt l w) (hi : l[i]? = some a) (hj : l[j]? = some b) (hk : l[k]? = some c) (hij : i ≠ j) (hik : i ≠ k) (hjk : j ≠ k)
    (ht : Turns (thAll [a, b, c]) (thAll [a', b', c']) w w') : Turns (thAll l) (thAll (((l.set i a').set j b').set k c')) w w' := by
  refine ⟨Apt.focus h hi hj hk hij hik hjk ht, ht.mv.mono (fun x ⟨s, hs, hx⟩ => ?_), fun x ⟨s, hs, hx⟩ => ?_⟩
  · rcases List.mem_cons.1 hs with rfl | hs
    · exact ⟨s, List.mem_of_getElem? hi, hx⟩
    · rcases List.mem_cons.1 hs with rfl | hs
      · exact ⟨s, List.mem_of_getElem? hj, hx⟩
      · obtain rfl := List.mem_singleton.1 hs
        exact ⟨s, List.mem_of_getElem? hk, hx⟩
  · have old : ∀ t, t = a' ∨ t = b' ∨ t = c' → t.foot x → (thAll l).foot x ∨ w.heap.size ≤ x := by
      intro t ht' htx
      have hf : (thAll [a', b', c']).foot x := ⟨t, by rcases ht' with rfl | rfl | rfl <;> simp, htx⟩
      rcases ht.own x hf with ⟨u, hu, hux⟩ | h1
      · left
        rcases List.mem_cons.1 hu with rfl | hu
        · exact ⟨u, List.mem_of_getElem? hi, hux⟩
        · rcases List.mem_cons.1 hu with rfl | hu
          · exact ⟨u, List.mem_of_getElem? hj, hux⟩
          · obtain rfl := List.mem_singleton.1 hu
            exact ⟨u, List.mem_of_getElem? hk, hux⟩
      · exact .inr h1
    rcases List.mem_or_eq_of_mem_set hs with h1 | rfl
    · rcases List.mem_or_eq_of_mem_set h1 with h2 | rfl
      · rcases List.mem_or_eq_of_mem_set h2 with h3 | rfl
        · exact .inl ⟨s, h3, hx⟩
        · exact old _ (.inl rfl) hx
      · exact old _ (.inr (.inl rfl)) hx
    · exact old _ (.inr (.inr rfl)) hx

/-! Nodes, with their places. -/
structure LfP where
  g : Nat
  lf : Lf
structure InP (α : Type) where
  g : Nat
  id : Nat
  birth : Nat
  kids : List (Option α)
def PT : Nat → Type
  | 0 => LfP
  | n + 1 => InP (PT n)
def PT.gOf : {n : Nat} → PT n → Nat
  | 0, t => LfP.g t
  | _ + 1, t => InP.g t
def PT.birthOf : {n : Nat} → PT n → Nat
  | 0, t => Lf.birth (LfP.lf t)
  | _ + 1, t => InP.birth t
/-- The same without the places. -/
def PT.er : (n : Nat) → PT n → T n
  | 0, t => LfP.lf t
  | n + 1, t => (⟨InP.id t, InP.birth t, (InP.kids t).map (Option.map (PT.er n))⟩ : In (T n))
def ptr {n : Nat} (t : Option (PT n)) : Value := .pointer (t.map fun t => (⟨PT.gOf t, 0, none⟩ : Addr))
/-- The cells of a node. -/
def nodeV (id birth level : Nat) (ps : List Value) (ds : List Int) : Array Value := ([Value.int .i64 (id : Int), Value.int .i64 (birth : Int), Value.int .i64 (level : Int)] ++ ps ++ ds.map (Value.int .u8)).toArray
def PT.cells : {n : Nat} → PT n → Array Value
  | 0, t => nodeV (Lf.id (LfP.lf t)) (Lf.birth (LfP.lf t)) 0 [.pointer none, .pointer none, .pointer none, .pointer none] (Lf.data (LfP.lf t))
  | n + 1, t => nodeV (InP.id t) (InP.birth t) (n + 1) ((InP.kids t).map ptr) (List.replicate 64 0)
/-- What a node is like, its kids apart. -/
def PT.Fine : {n : Nat} → PT n → Prop
  | 0, t => (Lf.data (LfP.lf t)).length = 64 ∧ ∀ x ∈ Lf.data (LfP.lf t), (Lit.int .u8 x).wf = true
  | n + 1, t => (InP.kids t).length = 4
/-- A tree of older versions: all its blocks are of G, and lie as in W. -/
def OldT (W : World) (G : Nat → Prop) (cur : Nat) : (n : Nat) → Option (PT n) → Prop
  | _, none => True
  | 0, some t => G (PT.gOf t) ∧ PT.birthOf t < cur ∧ PT.Fine t ∧ Box W (PT.gOf t) (PT.cells t) 82
  | n + 1, some t => G (PT.gOf t) ∧ PT.birthOf t < cur ∧ PT.Fine t ∧ Box W (PT.gOf t) (PT.cells t) 82 ∧ ∀ k ∈ InP.kids t, OldT W G cur n k
/-- Blocks that lie as they lay in W. -/
def thOld (W : World) (G : Nat → Prop) : Thing where
  foot := G
  holds := fun w => ∀ b, G b → b < w.heap.size ∧ w.heap[b]? = W.heap[b]?
  lt := fun h b hb => (h b hb).1
  keep := fun h hm hf b hb => ⟨Nat.lt_of_lt_of_le (h b hb).1 hm.size, (hm.block b (h b hb).1 (hf b hb)).trans (h b hb).2⟩
def thPure (p : Prop) : Thing where
  foot := fun _ => False
  holds := fun _ => p
  lt := fun _ b h => h.elim
  keep := fun h _ _ => h
/-- A tree that is being made: its new nodes are things, the others stand in W. -/
def thT (W : World) (G : Nat → Prop) (cur : Nat) : (n : Nat) → Option (PT n) → Thing
  | _, none => thPure True
  | 0, some t => if PT.birthOf t < cur then thPure (OldT W G cur 0 (some t)) else thAll [thPure (PT.birthOf t = cur ∧ PT.Fine t), thBox (PT.gOf t) (PT.cells t) 82]
  | n + 1, some t => if PT.birthOf t < cur then thPure (OldT W G cur (n + 1) (some t))
    else thAll ([thPure (PT.birthOf t = cur ∧ PT.Fine t), thBox (PT.gOf t) (PT.cells t) 82] ++ (InP.kids t).map fun k => thT W G cur n k)
theorem OldT.box {W : World} {G : Nat → Prop} {cur n : Nat} {t : PT n} (h : OldT W G cur n (some t)) : G (PT.gOf t) ∧ PT.birthOf t < cur ∧ PT.Fine t ∧ Box W (PT.gOf t) (PT.cells t) 82 := by
  cases n with
  | zero => exact h
  | succ n => exact ⟨h.1, h.2.1, h.2.2.1, h.2.2.2.1⟩
/-- An old node, where W's old blocks still lie. -/
theorem OldT.now {W w : World} {G : Nat → Prop} {cur n : Nat} {t : PT n} (h : OldT W G cur n (some t)) (ho : (thOld W G).holds w) : Box w (PT.gOf t) (PT.cells t) 82 := by
  obtain ⟨h1, _, _, h2⟩ := h.box
  exact ((ho _ h1).2).trans h2
/-- What was made becomes old. -/
theorem thT_old {W w : World} {G : Nat → Prop} {cur : Nat} (hG : ∀ b, G b → b < W.heap.size) : ∀ (n : Nat) (t : Option (PT n)), (thT W G cur n t).holds w → (thOld W G).holds w → ∀ (G' : Nat → Prop), (∀ b, G b → G' b) → (∀ b, (thT W G cur n t).foot b → G' b) → OldT w G' (cur + 1) n t
  | n, none, _, _, _, _, _ => by cases n <;> trivial
  | 0, some t, h, ho, G', hGG, hf => by
    unfold thT at h hf
    by_cases hb : PT.birthOf t < cur
    · rw [if_pos hb] at h
      have h' : OldT W G cur 0 (some t) := h
      exact ⟨hGG _ h'.1, by omega, h'.2.2.1, h'.now ho⟩
    · rw [if_neg hb] at h hf
      have h1 : PT.birthOf t = cur ∧ PT.Fine t := Apt.all h 0 _ rfl
      have h2 : Box w (PT.gOf t) (PT.cells t) 82 := Apt.all h 1 _ rfl
      exact ⟨hf _ ⟨_, List.mem_cons_of_mem _ (List.mem_cons_self ..), rfl⟩, by omega, h1.2, h2⟩
  | n + 1, some t, h, ho, G', hGG, hf => by
    unfold thT at h hf
    by_cases hb : PT.birthOf t < cur
    · rw [if_pos hb] at h
      have h' : OldT W G cur (n + 1) (some t) := h
      refine ⟨hGG _ h'.1, by omega, h'.2.2.1, h'.now ho, fun k hk => ?_⟩
      have hk' := h'.2.2.2.2 k hk
      have lift : ∀ (n : Nat) (k : Option (PT n)), OldT W G cur n k → OldT w G' (cur + 1) n k := by
        intro n
        induction n with
        | zero =>
          intro k hk
          cases k with
          | none => trivial
          | some k => exact ⟨hGG _ hk.1, by have := hk.2.1; omega, hk.2.2.1, hk.now ho⟩
        | succ n ih =>
          intro k hk
          cases k with
          | none => trivial
          | some k => exact ⟨hGG _ hk.1, by have := hk.2.1; omega, hk.2.2.1, hk.now ho, fun q hq => ih q (hk.2.2.2.2 q hq)⟩
      exact lift n k hk'
    · rw [if_neg hb] at h hf
      have h1 : PT.birthOf t = cur ∧ PT.Fine t := Apt.all h 0 _ rfl
      have h2 : Box w (PT.gOf t) (PT.cells t) 82 := Apt.all h 1 _ rfl
      refine ⟨hf _ ⟨_, List.mem_append_left _ (List.mem_cons_of_mem _ (List.mem_cons_self ..)), rfl⟩, by omega, h1.2, h2, fun k hk => ?_⟩
      obtain ⟨j, hj⟩ := List.getElem?_of_mem hk
      refine thT_old hG n k (Apt.all h (j + 2) _ ?_) ho G' hGG (fun b hb' => hf b ⟨_, List.mem_append_right _ (List.mem_map.2 ⟨k, hk, rfl⟩), hb'⟩)
      show ((InP.kids t).map fun k => thT W G cur n k)[j]? = _
      rw [List.getElem?_map, hj]; rfl
end Go.Proofs.Ythjjfmnipemakaa
