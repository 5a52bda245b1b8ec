/- A write into an inner node: what its walk wants. -/
import Derived.Test.YthjjfmnipemakaaTrL
namespace Go.Proofs.Ythjjfmnipemakaa
open Go.RowKit
set_option linter.unusedVariables false
set_option maxRecDepth 100000

theorem Turns.group2 {a b : Thing} {l : List Thing} {w : World} (h : Apt (a :: b :: l) w) : Turns (thAll (a :: b :: l)) (thAll [a, b, thAll l]) w w := by
  have hl : Apt l w := h.tail.tail
  refine ⟨(((Apt.nil w).cons (t := thAll l) hl (fun s hs => by cases hs)).cons h.tail.head (fun t ht x hx hx2 => ?_)).cons h.head (fun t ht x hx hx2 => ?_), Mv.refl _ _, fun x ⟨t, ht, hx⟩ => ?_⟩
  · obtain rfl := List.mem_singleton.1 ht
    obtain ⟨u, hu, hux⟩ := hx2
    exact h.tail.headApart u hu x hx hux
  · rcases List.mem_cons.1 ht with rfl | ht
    · exact h.headApart _ (List.mem_cons_self ..) x hx hx2
    · obtain rfl := List.mem_singleton.1 ht
      obtain ⟨u, hu, hux⟩ := hx2
      exact h.headApart u (List.mem_cons_of_mem _ hu) x hx hux
  · left
    rcases List.mem_cons.1 ht with rfl | ht
    · exact ⟨t, List.mem_cons_self .., hx⟩
    · rcases List.mem_cons.1 ht with rfl | ht
      · exact ⟨t, List.mem_cons_of_mem _ (List.mem_cons_self ..), hx⟩
      · obtain rfl := List.mem_singleton.1 ht
        obtain ⟨u, hu, hux⟩ := hx
        exact ⟨u, List.mem_cons_of_mem _ (List.mem_cons_of_mem _ hu), hux⟩
theorem Turns.ungroup2 {a b : Thing} {l : List Thing} {w : World} (h : Apt [a, b, thAll l] w) : Turns (thAll [a, b, thAll l]) (thAll (a :: b :: l)) w w := by
  have hl : Apt l w := h.all 2 _ rfl
  refine ⟨(hl.cons (h.all 1 _ rfl) (fun t ht x hx hx2 => ?_)).cons (h.all 0 _ rfl) (fun t ht x hx hx2 => ?_), Mv.refl _ _, fun x ⟨t, ht, hx⟩ => ?_⟩
  · exact h.apart 1 2 _ _ rfl rfl (by decide) x hx ⟨t, ht, hx2⟩
  · rcases List.mem_cons.1 ht with rfl | ht
    · exact h.apart 0 1 _ _ rfl rfl (by decide) x hx hx2
    · exact h.apart 0 2 _ _ rfl rfl (by decide) x hx ⟨t, ht, hx2⟩
  · left
    rcases List.mem_cons.1 ht with rfl | ht
    · exact ⟨t, List.mem_cons_self .., hx⟩
    · rcases List.mem_cons.1 ht with rfl | ht
      · exact ⟨t, List.mem_cons_of_mem _ (List.mem_cons_self ..), hx⟩
      · exact ⟨thAll l, List.mem_cons_of_mem _ (List.mem_cons_of_mem _ (List.mem_cons_self ..)), ⟨t, ht, hx⟩⟩
def thKids (W : World) (G : Nat → Prop) (cur n : Nat) (ks : List (Option (PT n))) : List Thing := ks.map fun k => thT W G cur n k
/-- A new inner node, and its kids, as a tree. -/
theorem innerThing (W : World) (G : Nat → Prop) (cur n g id : Nat) (ks : List (Option (PT n))) {w : World} (hk : ks.length = 4) (h : Apt (thBox g (nodeV id cur (n + 1) (ks.map ptr) zeros) 82 :: thKids W G cur n ks) w) :
    Turns (thAll (thBox g (nodeV id cur (n + 1) (ks.map ptr) zeros) 82 :: thKids W G cur n ks)) (thT W G cur (n + 1) (some (⟨g, id, cur, ks⟩ : InP (PT n)))) w w := by
  have e : thT W G cur (n + 1) (some (⟨g, id, cur, ks⟩ : InP (PT n))) = thAll (thPure (cur = cur ∧ ks.length = 4) :: thBox g (nodeV id cur (n + 1) (ks.map ptr) zeros) 82 :: thKids W G cur n ks) := by
    show (if cur < cur then _ else _) = _
    rw [if_neg (by omega)]; rfl
  rw [e]
  refine ⟨h.cons ⟨rfl, hk⟩ (fun s hs b hb => hb.elim), Mv.refl _ _, fun b ⟨t, ht, hb⟩ => ?_⟩
  rcases List.mem_cons.1 ht with rfl | ht
  · exact hb.elim
  · exact .inl ⟨t, ht, hb⟩
/-- An inner node of this version, taken apart. -/
theorem innerBack (W : World) (G : Nat → Prop) (cur n g id : Nat) (ks : List (Option (PT n))) {w : World} (h : (thT W G cur (n + 1) (some (⟨g, id, cur, ks⟩ : InP (PT n)))).holds w) :
    ks.length = 4 ∧ Turns (thT W G cur (n + 1) (some (⟨g, id, cur, ks⟩ : InP (PT n)))) (thAll (thBox g (nodeV id cur (n + 1) (ks.map ptr) zeros) 82 :: thKids W G cur n ks)) w w := by
  have e : thT W G cur (n + 1) (some (⟨g, id, cur, ks⟩ : InP (PT n))) = thAll (thPure (cur = cur ∧ ks.length = 4) :: thBox g (nodeV id cur (n + 1) (ks.map ptr) zeros) 82 :: thKids W G cur n ks) := by
    show (if cur < cur then _ else _) = _
    rw [if_neg (by omega)]; rfl
  rw [e] at h ⊢
  have hp : cur = cur ∧ ks.length = 4 := Apt.head h
  exact ⟨hp.2, Apt.tail h, Mv.refl _ _, fun b ⟨t, ht, hb⟩ => .inl ⟨t, List.mem_cons_of_mem _ ht, hb⟩⟩
/-- Kids of an old node are old. -/
theorem oldKids {W : World} {G : Nat → Prop} {cur n : Nat} {ks : List (Option (PT n))} (h : ∀ k ∈ ks, OldT W G cur n k) (w : World) : Apt (thKids W G cur n ks) w ∧ ∀ t ∈ thKids W G cur n ks, ∀ b, ¬ t.foot b := by
  have one : ∀ (n : Nat) (k : Option (PT n)), OldT W G cur n k → (thT W G cur n k).holds w ∧ ∀ b, ¬ (thT W G cur n k).foot b := by
    intro n k hk
    cases k with
    | none => cases n <;> exact ⟨trivial, fun b hb => hb⟩
    | some k =>
      have hb := hk.box.2.1
      cases n with
      | zero => unfold thT; rw [if_pos hb]; exact ⟨hk, fun b hb => hb⟩
      | succ n => unfold thT; rw [if_pos hb]; exact ⟨hk, fun b hb => hb⟩
  have mem : ∀ t ∈ thKids W G cur n ks, t.holds w ∧ ∀ b, ¬ t.foot b := by
    intro t ht
    obtain ⟨k, hk, rfl⟩ := List.mem_map.1 ht
    exact one n k (h k hk)
  exact ⟨⟨fun i t hi => (mem t (List.mem_of_getElem? hi)).1, fun i j s t hi _ _ b hb => absurd hb ((mem s (List.mem_of_getElem? hi)).2 b)⟩, fun t ht => (mem t ht).2⟩
/-- A new box whose kids are old. -/
theorem boxKids {W : World} {G : Nat → Prop} {cur n g : Nat} {vs : Array Value} {ty : TypeId} {ks : List (Option (PT n))} (h : ∀ k ∈ ks, OldT W G cur n k) {w : World} (hb : Box w g vs ty) :
    Turns (thBox g vs ty) (thAll (thBox g vs ty :: thKids W G cur n ks)) w w := by
  have ho := oldKids h w
  refine ⟨ho.1.cons hb (fun s hs b _ hs' => ho.2 s hs b hs'), Mv.refl _ _, fun b ⟨t, ht, hb'⟩ => ?_⟩
  rcases List.mem_cons.1 ht with rfl | ht
  · exact .inl hb'
  · exact absurd hb' (ho.2 t ht b)
/-! The kids, one by one. -/
structure Along {n : Nat} (f : Nat → Option (T n) → Nat → Option (T n) × Nat) (K : List (Option (T n))) (made : Nat) (new : List (Option (PT n))) (md : Nat) : Prop where
  fst : (mapA f 0 K made).1 = new.map (Option.map (PT.er n)) ++ (mapA f new.length (K.drop new.length) md).1
  snd : (mapA f 0 K made).2 = (mapA f new.length (K.drop new.length) md).2
theorem Along.start {n : Nat} (f : Nat → Option (T n) → Nat → Option (T n) × Nat) (K : List (Option (T n))) (made : Nat) : Along f K made ([] : List (Option (PT n))) made := ⟨rfl, rfl⟩
theorem Along.step {n : Nat} {f : Nat → Option (T n) → Nat → Option (T n) × Nat} {K : List (Option (T n))} {made md : Nat} {new : List (Option (PT n))} (h : Along f K made new md) (hl : new.length < K.length) (t' : Option (PT n))
    (ht : t'.map (PT.er n) = (f new.length (K.getD new.length none) md).1) : Along f K made (new ++ [t']) (f new.length (K.getD new.length none) md).2 := by
  have hd : K.drop new.length = K.getD new.length none :: K.drop (new.length + 1) := by
    rw [List.drop_eq_getElem_cons hl]; simp [List.getD, hl]
  have h1 := h.fst
  have h2 := h.snd
  rw [hd] at h1 h2
  refine ⟨?_, ?_⟩
  · rw [h1, List.length_append, List.length_singleton, List.map_append, List.append_assoc]
    show _ ++ (_ :: _) = _ ++ ([t'.map (PT.er n)] ++ _)
    rw [ht]; rfl
  · rw [h2, List.length_append, List.length_singleton]; rfl
theorem Along.done {n : Nat} {f : Nat → Option (T n) → Nat → Option (T n) × Nat} {K : List (Option (T n))} {made md : Nat} {new : List (Option (PT n))} (h : Along f K made new md) (hl : new.length = K.length) : (mapA f 0 K made).1 = new.map (Option.map (PT.er n)) ∧ (mapA f 0 K made).2 = md := by
  have h1 := h.fst
  have h2 := h.snd
  rw [hl, List.drop_length] at h1 h2
  exact ⟨by rw [h1]; simp [mapA], by rw [h2]; rfl⟩
end Go.Proofs.Ythjjfmnipemakaa
