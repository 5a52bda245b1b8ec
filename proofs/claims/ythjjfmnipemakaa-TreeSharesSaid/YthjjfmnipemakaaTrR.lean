/- The forest between steps: things regrouped, versions grown old; a write as a step, walked. -/
import Derived.Test.YthjjfmnipemakaaTrQ
import Derived.Deep.RegionHeld3
import Derived.Deep.DeepCutAuto
namespace Go.Proofs.Ythjjfmnipemakaa
open Go.RowKit
set_option linter.unusedVariables false
set_option maxRecDepth 100000

theorem Turns.join {l m : List Thing} {w : World} (h : Apt [thAll l, thAll m] w) : Turns (thAll [thAll l, thAll m]) (thAll (l ++ m)) w w := by
  have hl : Apt l w := h.all 0 _ rfl
  have hm : Apt m w := h.all 1 _ rfl
  have split : ∀ (i : Nat) (t : Thing), (l ++ m)[i]? = some t → (i < l.length ∧ l[i]? = some t) ∨ (l.length ≤ i ∧ m[i - l.length]? = some t) := fun i t hi => by
    by_cases hl : i < l.length
    · rw [List.getElem?_append_left hl] at hi; exact .inl ⟨hl, hi⟩
    · rw [List.getElem?_append_right (by omega)] at hi; exact .inr ⟨by omega, hi⟩
  refine ⟨⟨fun i t hi => ?_, fun i j s t hi hj hne b hb hb2 => ?_⟩, Mv.refl _ _, fun b ⟨t, ht, hb⟩ => ?_⟩
  · rcases split i t hi with h1 | h1
    · exact hl.all i t h1.2
    · exact hm.all _ t h1.2
  · rcases split i s hi with h1 | h1
    · rcases split j t hj with h2 | h2
      · exact hl.apart i j s t h1.2 h2.2 hne b hb hb2
      · exact h.apart 0 1 _ _ rfl rfl (by decide) b ⟨s, List.mem_of_getElem? h1.2, hb⟩ ⟨t, List.mem_of_getElem? h2.2, hb2⟩
    · rcases split j t hj with h2 | h2
      · exact h.apart 1 0 _ _ rfl rfl (by decide) b ⟨s, List.mem_of_getElem? h1.2, hb⟩ ⟨t, List.mem_of_getElem? h2.2, hb2⟩
      · exact hm.apart _ _ s t h1.2 h2.2 (by omega) b hb hb2
  · rcases List.mem_append.1 ht with h1 | h1
    · exact .inl ⟨_, List.mem_cons_self .., ⟨t, h1, hb⟩⟩
    · exact .inl ⟨_, List.mem_cons_of_mem _ (List.mem_cons_self ..), ⟨t, h1, hb⟩⟩
theorem Turns.part {l m : List Thing} {w : World} (h : Apt (l ++ m) w) : Turns (thAll (l ++ m)) (thAll [thAll l, thAll m]) w w := by
  have hl : Apt l w := ⟨fun i t hi => h.all i t (by rw [List.getElem?_append_left (List.getElem?_eq_some_iff.1 hi).1]; exact hi), fun i j s t hi hj hne => h.apart i j s t (by rw [List.getElem?_append_left (List.getElem?_eq_some_iff.1 hi).1]; exact hi) (by rw [List.getElem?_append_left (List.getElem?_eq_some_iff.1 hj).1]; exact hj) hne⟩
  have gm : ∀ (i : Nat) (t : Thing), m[i]? = some t → (l ++ m)[l.length + i]? = some t := fun i t hi => by rw [List.getElem?_append_right (by omega), show l.length + i - l.length = i by omega]; exact hi
  have hm : Apt m w := ⟨fun i t hi => h.all _ t (gm i t hi), fun i j s t hi hj hne => h.apart _ _ s t (gm i s hi) (gm j t hj) (by omega)⟩
  refine ⟨((Apt.nil w).cons (t := thAll m) hm (fun s hs => by cases hs)).cons (t := thAll l) hl (fun s hs b hb hb2 => ?_), Mv.refl _ _, fun b ⟨t, ht, hb⟩ => ?_⟩
  · obtain rfl := List.mem_singleton.1 hs
    obtain ⟨t, ht, hbt⟩ := hb
    obtain ⟨u, hu, hbu⟩ := hb2
    obtain ⟨i, hi⟩ := List.getElem?_of_mem ht
    obtain ⟨j, hj⟩ := List.getElem?_of_mem hu
    have hil := (List.getElem?_eq_some_iff.1 hi).1
    exact h.apart i (l.length + j) t u (by rw [List.getElem?_append_left hil]; exact hi) (gm j u hj) (by omega) b hbt hbu
  · rcases List.mem_cons.1 ht with rfl | ht
    · obtain ⟨u, hu, hbu⟩ := hb
      exact .inl ⟨u, List.mem_append_left _ hu, hbu⟩
    · obtain rfl := List.mem_singleton.1 ht
      obtain ⟨u, hu, hbu⟩ := hb
      exact .inl ⟨u, List.mem_append_right _ hu, hbu⟩
theorem Turns.single {a : Thing} {w : World} (h : a.holds w) : Turns a (thAll [a]) w w :=
  ⟨(Apt.nil w).cons h (fun s hs => by cases hs), Mv.refl _ _, fun b ⟨t, ht, hb⟩ => by obtain rfl := List.mem_singleton.1 ht; exact .inl hb⟩
theorem Turns.unsingle {a : Thing} {w : World} (h : (thAll [a]).holds w) : Turns (thAll [a]) a w w := (Turns.refl h).one
/-- One ahead, the rest as one. -/
theorem Turns.head1 {a : Thing} {l : List Thing} {w : World} (h : Apt (a :: l) w) : Turns (thAll (a :: l)) (thAll [a, thAll l]) w w := by
  have T := Turns.part (l := [a]) (m := l) h
  exact T.trans (Turns.inside (i := 0) T.now rfl (Turns.unsingle (T.now.all 0 _ rfl)))
theorem Turns.unhead1 {a : Thing} {l : List Thing} {w : World} (h : Apt [a, thAll l] w) : Turns (thAll [a, thAll l]) (thAll (a :: l)) w w := by
  have T := Turns.inside (i := 0) h rfl (Turns.single (h.all 0 _ rfl))
  exact T.trans (Turns.join (l := [a]) T.now)

/-- Old versions where the old blocks still lie, for a later version. -/
theorem OldT.lift {W w : World} {G G' : Nat → Prop} {cur cur' : Nat} (ho : (thOld W G).holds w) (hGG : ∀ b, G b → G' b) (hc : cur ≤ cur') : ∀ (n : Nat) (k : Option (PT n)), OldT W G cur n k → OldT w G' cur' n k := by
  intro n
  induction n with
  | zero =>
    intro k hk
    cases k with
    | none => trivial
    | some k => exact ⟨hGG _ hk.1, by have := hk.2.1; omega, hk.2.2.1, hk.now ho⟩
  | succ n ih =>
    intro k hk
    cases k with
    | none => trivial
    | some k => exact ⟨hGG _ hk.1, by have := hk.2.1; omega, hk.2.2.1, hk.now ho, fun q hq => ih q (hk.2.2.2.2 q hq)⟩
theorem OldR.lift {W w : World} {G G' : Nat → Prop} {cur cur' : Nat} (ho : (thOld W G).holds w) (hGG : ∀ b, G b → G' b) (hc : cur ≤ cur') (r : Option PRt) (h : OldR W G cur r) : OldR w G' cur' r := by
  cases r with
  | none => trivial
  | some r => exact OldT.lift ho hGG hc r.1 (some r.2) h
theorem oldR_th {W : World} {G : Nat → Prop} {cur : Nat} {r : Option PRt} (h : OldR W G cur r) (w : World) : (thR W G cur r).holds w ∧ ∀ b, ¬ (thR W G cur r).foot b := by
  cases r with
  | none => exact ⟨trivial, fun b hb => hb⟩
  | some r =>
    have hA := oldKids (ks := [some r.2]) (W := W) (G := G) (cur := cur) (n := r.1) (fun k hk => by obtain rfl := List.mem_singleton.1 hk; exact h) w
    exact ⟨hA.1.all 0 _ rfl, fun b => hA.2 _ (by show _ ∈ [thT W G cur r.1 (some r.2)]; exact List.mem_singleton.2 rfl) b⟩
/-- What was made is old now, as all that was. -/
theorem ages {W w : World} {G : Nat → Prop} {cur : Nat} {r : Option PRt} (hG : ∀ b, G b → b < W.heap.size) (h : Apt [thOld W G, thR W G cur r] w) :
    ∃ G', (∀ b, G' b → b < w.heap.size) ∧ (∀ x, OldR W G cur x → OldR w G' (cur + 1) x) ∧ OldR w G' (cur + 1) r ∧ Turns (thAll [thOld W G, thR W G cur r]) (thOld w G') w w := by
  have ho : (thOld W G).holds w := h.all 0 _ rfl
  have hr : (thR W G cur r).holds w := h.all 1 _ rfl
  have hb : ∀ b, (G b ∨ (thR W G cur r).foot b) → b < w.heap.size := fun b hb => by
    rcases hb with h1 | h1
    · exact (ho b h1).1
    · exact (thR W G cur r).lt hr b h1
  refine ⟨fun b => G b ∨ (thR W G cur r).foot b, hb, fun x hx => OldR.lift ho (fun b hb => .inl hb) (by omega) x hx, ?_, fun b hb' => ⟨hb b hb', rfl⟩, Mv.refl _ _, fun b hb' => ?_⟩
  · cases r with
    | none => trivial
    | some r => exact thT_old hG r.1 (some r.2) hr ho _ (fun b hb => .inl hb) (fun b hb => .inr hb)
  · rcases hb' with h1 | h1
    · exact .inl ⟨_, List.mem_cons_self .., h1⟩
    · exact .inl ⟨_, List.mem_cons_of_mem _ (List.mem_cons_self ..), h1⟩

/-- The forest f in memory at k. -/
def IsFo (W0 : World) (B k : Nat) (f : Fo) (t : Thing) : Prop :=
  ∃ (av : Option Addr) (cv : Nat) (vs : List (Option PRt × Nat)) (W : World) (G : Nat → Prop), vs.map Ver.er = f.vers ∧ (∀ b, G b → b < W.heap.size) ∧ (∀ x ∈ vs, OldR W G vs.length x.1) ∧
    t = thAll [thBox k (forV av vs.length cv f.made) 74, thOwn verL B 78 av vs.length cv vs, thOld W G, thSince W0]
structure Shn where
  code : Int
  version : Int
  size : Int
  data : List Int
structure Stp where
  kind : Int
  version : Int
  off : Int
  count : Int
  data : List Int
def StepEnd (W0 : World) (B k : Nat) (t : Thing) (x : Fo × Shn) (w : World) (e : Ending) (w' : World) : Prop :=
  ∃ (t' : Thing) (a : Option Addr) (n c : Nat), e = .returned (.agg (shownC x.2.code x.2.version x.2.size a n c)) ∧ Hid (IsFo W0 B k x.1 t') ∧ Hid (Turns t (thAll [t', thOwn (Lay.int .u8) B 5 a n c x.2.data]) w w')
theorem verCell {B : Nat} {a : Option Addr} {n c : Nat} {vs : List (Option PRt × Nat)} {w : World} (h : (thOwn verL B 78 a n c vs).holds w) (i : Nat) (x : Option PRt × Nat) (hx : vs[i]? = some x) :
    ∃ g, a = some ⟨g, 0, none⟩ ∧ g < w.heap.size ∧ i < n ∧ w.cell? ⟨g, i * 2, none⟩ = some (rptr x.1) ∧ w.cell? ⟨g, i * 2 + 1, none⟩ = some (.int .i64 (x.2 : Int)) := by
  have hi : i < n := by have := (List.getElem?_eq_some_iff.1 hx).1; have := h.1; omega
  obtain ⟨g, vs', ha, _, hg, ⟨y, hy, hat⟩, hc⟩ := SOwn.get h i hi
  rw [hx] at hy
  obtain rfl := Option.some.inj hy
  have e : vs' = [rptr x.1, .int .i64 (x.2 : Int)] := hat
  subst e
  exact ⟨g, ha, hg, hi, hc 0 (by decide), hc 1 (by decide)⟩
end Go.Proofs.Ythjjfmnipemakaa
