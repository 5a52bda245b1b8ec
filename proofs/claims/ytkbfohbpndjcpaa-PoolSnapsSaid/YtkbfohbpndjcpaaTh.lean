/- Things in memory, each in blocks of its own: what one turns leaves the others as they were. -/
import Derived.Test.YtkbfohbpndjcpaaLay2
import Derived.Test.YtkbfohbpndjcpaaFacts
namespace Go.Proofs.Ytkbfohbpndjcpaa
open Go.RowKit
set_option linter.unusedVariables false

/-- Between two worlds nothing has turned but in the blocks of S, and in new ones. -/
structure Mv (S : Nat → Prop) (w w' : World) : Prop where
  os : w'.os = w.os
  tape : w'.tape = w.tape
  output : w'.output = w.output
  size : w.heap.size ≤ w'.heap.size
  block : ∀ k, k < w.heap.size → ¬ S k → w'.heap[k]? = w.heap[k]?
theorem Mv.refl (S : Nat → Prop) (w : World) : Mv S w w := ⟨rfl, rfl, rfl, Nat.le_refl _, fun _ _ _ => rfl⟩
theorem Mv.mono {S T : Nat → Prop} {w w' : World} (h : Mv S w w') (hS : ∀ b, S b → T b) : Mv T w w' := ⟨h.os, h.tape, h.output, h.size, fun k hk hn => h.block k hk (fun hs => hn (hS k hs))⟩
theorem Mv.trans' {S T : Nat → Prop} {a b c : World} (h : Mv S a b) (k : Mv T b c) (hT : ∀ x, T x → S x ∨ a.heap.size ≤ x) : Mv S a c :=
  ⟨k.os.trans h.os, k.tape.trans h.tape, k.output.trans h.output, Nat.le_trans h.size k.size, fun x hx hn => (k.block x (Nat.lt_of_lt_of_le hx h.size) (fun ht => by
    rcases hT x ht with h1 | h1
    · exact hn h1
    · omega)).trans (h.block x hx hn)⟩
theorem Mv.trans {S : Nat → Prop} {a b c : World} (h : Mv S a b) (k : Mv S b c) : Mv S a c := h.trans' k (fun _ hx => .inl hx)
theorem Mv.below {S : Nat → Prop} {w w' : World} (h : Below w.heap.size w w') : Mv S w w' := ⟨h.os, h.tape, h.output, h.size, fun k hk _ => h.block k hk⟩
theorem Mv.grown {S : Nat → Prop} {w w' : World} {r : Option Nat} (h : w.grownBy w' r) (hS : ∀ g, r = some g → S g) : Mv S w w' :=
  ⟨h.os, h.tape, h.output, h.size, fun k hk hn => h.block k hk (fun e => hn (hS k e.symm))⟩
theorem Mv.setCell {S : Nat → Prop} {w : World} {a : Addr} (v : Value) (h : S a.block) : Mv S w (w.setCell a v) :=
  ⟨rfl, rfl, rfl, by simp [World.setCell], fun k hk hn => Below.heap_setCell _ _ _ _ (fun e => hn (e ▸ h))⟩
theorem Mv.alloc {S : Nat → Prop} (w : World) (o : Obj) : Mv S w (w.alloc o) := Mv.below (Below_alloc1 o)
theorem Mv.drewN {S : Nat → Prop} (w : World) (n : Nat) : Mv S w (w.drewN n) := Mv.below (below_drewN (Below.refl _ _) n)
theorem Mv.drew {S : Nat → Prop} (w : World) : Mv S w w.drew := Mv.drewN w 1
theorem Mv.toBelow {S : Nat → Prop} {B : Nat} {w0 w w' : World} (h : Mv S w w') (hB : Below B w0 w) (hs : B ≤ w.heap.size) (hS : ∀ b, b < B → ¬ S b) : Below B w0 w' :=
  hB.trans ⟨h.os, h.tape, h.output, h.size, fun k hk => h.block k (Nat.lt_of_lt_of_le hk hs) (hS k hk)⟩

/-- A thing: its blocks, and what is true of them. -/
structure Thing where
  foot : Nat → Prop
  holds : World → Prop
  lt : ∀ {w}, holds w → ∀ b, foot b → b < w.heap.size
  keep : ∀ {S : Nat → Prop} {w w' : World}, holds w → Mv S w w' → (∀ b, foot b → ¬ S b) → holds w'
theorem Thing.below {t : Thing} {w w' : World} (h : t.holds w) (hb : Below w.heap.size w w') : t.holds w' := t.keep h (Mv.below (S := fun _ => False) hb) (fun _ _ h => h)

/-- All of some things, no two in one block. -/
structure Apt (l : List Thing) (w : World) : Prop where
  all : ∀ (i : Nat) (t : Thing), l[i]? = some t → t.holds w
  apart : ∀ (i j : Nat) (s t : Thing), l[i]? = some s → l[j]? = some t → i ≠ j → ∀ b, s.foot b → ¬ t.foot b
theorem Apt.nil (w : World) : Apt [] w := ⟨fun i t h => by simp at h, fun i j s t h => by simp at h⟩
theorem Apt.still {l : List Thing} {w w' : World} (h : Apt l w) (hb : Below w.heap.size w w') : Apt l w' := ⟨fun i t hi => t.below (h.all i t hi) hb, h.apart⟩
/-- Things by other numbers. -/
theorem Apt.by {l m : List Thing} {w : World} (h : Apt l w) (f : Nat → Nat) (hf : ∀ i j, f i = f j → i < m.length → j < m.length → i = j) (hm : ∀ i t, m[i]? = some t → l[f i]? = some t) : Apt m w :=
  ⟨fun i t hi => h.all _ t (hm i t hi), fun i j s t hi hj hne => h.apart (f i) (f j) s t (hm i s hi) (hm j t hj) (fun e => hne (hf i j e (List.getElem?_eq_some_iff.1 hi).1 (List.getElem?_eq_some_iff.1 hj).1))⟩
theorem Apt.cons {l : List Thing} {w : World} {t : Thing} (h : Apt l w) (ht : t.holds w) (ha : ∀ s ∈ l, ∀ b, t.foot b → ¬ s.foot b) : Apt (t :: l) w := by
  refine ⟨fun i s hi => ?_, fun i j s u hi hj hne b hb => ?_⟩
  · cases i with
    | zero => obtain rfl : t = s := by simpa using hi
              exact ht
    | succ i => exact h.all i s (by simpa using hi)
  · cases i with
    | zero =>
      obtain rfl : t = s := by simpa using hi
      cases j with
      | zero => exact absurd rfl hne
      | succ j => exact ha u (List.mem_of_getElem? (by simpa using hj)) b hb
    | succ i =>
      cases j with
      | zero =>
        obtain rfl : t = u := by simpa using hj
        exact fun hu => ha s (List.mem_of_getElem? (by simpa using hi)) b hu hb
      | succ j => exact h.apart i j s u (by simpa using hi) (by simpa using hj) (by omega) b hb
theorem Apt.head {l : List Thing} {w : World} {t : Thing} (h : Apt (t :: l) w) : t.holds w := h.all 0 t rfl
theorem Apt.tail {l : List Thing} {w : World} {t : Thing} (h : Apt (t :: l) w) : Apt l w := h.by (· + 1) (fun i j e _ _ => by simpa using e) (fun i s hi => by simpa using hi)
theorem Apt.headApart {l : List Thing} {w : World} {t : Thing} (h : Apt (t :: l) w) : ∀ s ∈ l, ∀ b, t.foot b → ¬ s.foot b := by
  intro s hs
  obtain ⟨i, hi⟩ := List.getElem?_of_mem hs
  exact h.apart 0 (i + 1) t s rfl (by simpa using hi) (by omega)
/-- A new thing, in new blocks. -/
theorem Apt.new {l : List Thing} {w w' : World} {t : Thing} (h : Apt l w) (hb : Below w.heap.size w w') (ht : t.holds w') (hn : ∀ b, t.foot b → w.heap.size ≤ b) : Apt (t :: l) w' := by
  refine (h.still hb).cons ht (fun s hs b h1 h2 => ?_)
  obtain ⟨i, hi⟩ := List.getElem?_of_mem hs
  have := s.lt (h.all i s hi) b h2
  have := hn b h1
  omega
/-- A thing turns into another: nothing else does, and what it has now is its own or new. -/
structure Turns (t t' : Thing) (w w' : World) : Prop where
  now : t'.holds w'
  mv : Mv t.foot w w'
  own : ∀ b, t'.foot b → t.foot b ∨ w.heap.size ≤ b
theorem Turns.trans {t t' t'' : Thing} {a b c : World} (h : Turns t t' a b) (k : Turns t' t'' b c) : Turns t t'' a c :=
  ⟨k.now, h.mv.trans' k.mv h.own, fun x hx => by
    rcases k.own x hx with h1 | h1
    · exact h.own x h1
    · exact .inr (Nat.le_trans h.mv.size h1)⟩
theorem Turns.still {t : Thing} {w w' : World} (h : t.holds w) (hb : Below w.heap.size w w') : Turns t t w w' := ⟨t.below h hb, Mv.below hb, fun _ hx => .inl hx⟩
theorem Apt.set {l : List Thing} {w w' : World} {i : Nat} {t t' : Thing} (h : Apt l w) (hi : l[i]? = some t) (ht : Turns t t' w w') : Apt (l.set i t') w' := by
  have hil := (List.getElem?_eq_some_iff.1 hi).1
  have ap : ∀ j s, l[j]? = some s → j ≠ i → ∀ b, t'.foot b → ¬ s.foot b := fun j s hj hne b h1 h2 => by
    rcases ht.own b h1 with h3 | h3
    · exact h.apart i j t s hi hj (fun e => hne e.symm) b h3 h2
    · have := s.lt (h.all j s hj) b h2
      omega
  refine ⟨fun j s hj => ?_, fun j k s u hj hk hne b hb hu => ?_⟩
  · rw [List.getElem?_set] at hj
    split at hj
    · rename_i e; subst e
      obtain rfl : t' = s := by simpa using hj
      exact ht.now
    · rename_i e
      exact s.keep (h.all j s hj) ht.mv (fun b h1 h2 => h.apart j i s t hj hi (fun e' => e e'.symm) b h1 h2)
  · rw [List.getElem?_set] at hj hk
    split at hj
    · rename_i e; subst e
      obtain rfl : t' = s := by simpa using hj
      rw [if_neg hne] at hk
      exact ap k u hk (fun e => hne e.symm) b hb hu
    · rename_i e
      split at hk
      · rename_i e2; subst e2
        obtain rfl : t' = u := by simpa using hk
        exact ap j s hj (fun e' => e e'.symm) b hu hb
      · exact h.apart j k s u hj hk hne b hb hu
/-- Some things, as one. -/
def thAll (l : List Thing) : Thing where
  foot := fun b => ∃ t ∈ l, t.foot b
  holds := Apt l
  lt := fun h b ⟨t, ht, hb⟩ => by
    obtain ⟨i, hi⟩ := List.getElem?_of_mem ht
    exact t.lt (h.all i t hi) b hb
  keep := fun h hm hf => ⟨fun i t hi => t.keep (h.all i t hi) hm (fun b hb => hf b ⟨t, List.mem_of_getElem? hi, hb⟩), h.apart⟩
theorem Turns.inside {l : List Thing} {w w' : World} {i : Nat} {t t' : Thing} (h : Apt l w) (hi : l[i]? = some t) (ht : Turns t t' w w') : Turns (thAll l) (thAll (l.set i t')) w w' :=
  ⟨h.set hi ht, ht.mv.mono (fun b hb => ⟨t, List.mem_of_getElem? hi, hb⟩), fun b ⟨s, hs, hb⟩ => by
    rcases List.mem_or_eq_of_mem_set hs with h1 | h1
    · exact .inl ⟨s, h1, hb⟩
    · subst h1
      rcases ht.own b hb with h2 | h2
      · exact .inl ⟨t, List.mem_of_getElem? hi, h2⟩
      · exact .inr h2⟩
/-- A new thing beside. -/
theorem Turns.beside {l : List Thing} {w w' : World} {t : Thing} (h : Apt l w) (hb : Below w.heap.size w w') (ht : t.holds w') (hn : ∀ b, t.foot b → w.heap.size ≤ b) : Turns (thAll l) (thAll (t :: l)) w w' :=
  ⟨h.new hb ht hn, Mv.below hb, fun b ⟨s, hs, hb⟩ => by
    rcases List.mem_cons.1 hs with rfl | h1
    · exact .inr (hn b hb)
    · exact .inl ⟨s, h1, hb⟩⟩
/-- Things that are let go, or come by other numbers. -/
theorem Turns.by {l m : List Thing} {w : World} (h : Apt l w) (f : Nat → Nat) (hf : ∀ i j, f i = f j → i < m.length → j < m.length → i = j) (hm : ∀ i t, m[i]? = some t → l[f i]? = some t) : Turns (thAll l) (thAll m) w w :=
  ⟨h.by f hf hm, Mv.refl _ _, fun b ⟨s, hs, hb⟩ => by
    obtain ⟨i, hi⟩ := List.getElem?_of_mem hs
    exact .inl ⟨s, List.mem_of_getElem? (hm i s hi), hb⟩⟩

/-- All that lay in the world W lies as it did. -/
def thSince (W : World) : Thing where
  foot := fun b => b < W.heap.size
  holds := fun w => Below W.heap.size W w
  lt := fun h b hb => Nat.lt_of_lt_of_le hb h.size
  keep := fun h hm hf => hm.toBelow h h.size hf
def thBox (g : Nat) (vs : Array Value) (t : TypeId) : Thing where
  foot := fun b => b = g
  holds := fun w => Box w g vs t
  lt := fun h b hb => by subst hb; exact h.lt
  keep := fun h hm hf => (hm.block _ h.lt (hf _ rfl)).trans h
/-- A slice of the call's own, of data that reach nothing. -/
def thOwn {α : Type} (L : Lay α) (B : Nat) (e : TypeId) (a : Option Addr) (len cap : Nat) (xs : List α) : Thing where
  foot := fun b => (Value.slice a len cap).ownBlock = some b
  holds := fun w => SOwn L w B e (fun _ => False) a len cap xs
  lt := fun h b hb => (World.ownsRow.lt h.2.choose_spec.choose_spec.1 b hb).2
  keep := fun {S w w'} h hm hf => by
    obtain ⟨hl, vss, F, ho, hp, hF⟩ := h
    refine ⟨hl, vss, F, ⟨ho.1, ?_⟩, hp.keep (fun b hb => hb) (fun b hb hlt => ((hF b hb).1).elim), fun b hb => ((hF b hb).1).elim⟩
    rcases ho.2 with h0 | ⟨g, c, cur, hv, hbg, hg, r⟩
    · exact .inl h0
    · refine .inr ⟨g, c, cur, hv, hbg, ?_, r⟩
      rw [hm.block g (Array.getElem?_eq_some_iff.1 hg).1 (hf g (by rw [hv]; rfl))]; exact hg
/-- A slice of the call's own; what its data reach are blocks of G. -/
def thRow {α : Type} (L : Lay α) (B : Nat) (e : TypeId) (G : Nat → Prop) (a : Option Addr) (len cap : Nat) (xs : List α) : Thing where
  foot := fun b => G b ∨ (Value.slice a len cap).ownBlock = some b
  holds := fun w => SOwn L w B e G a len cap xs ∧ ∀ b, G b → b < w.heap.size
  lt := fun h b hb => by
    rcases hb with h1 | h1
    · exact h.2 b h1
    · exact (World.ownsRow.lt h.1.2.choose_spec.choose_spec.1 b h1).2
  keep := fun {S w w'} h hm hf => by
    obtain ⟨⟨hl, vss, F, ho, hp, hF⟩, hG⟩ := h
    refine ⟨⟨hl, vss, F, ⟨ho.1, ?_⟩, hp.keep (fun b hb => hb) (fun b hb hlt => hm.block b hlt (hf b (.inl (hF b hb).1))), fun b hb => ⟨(hF b hb).1, Nat.lt_of_lt_of_le (hF b hb).2.1 hm.size, (hF b hb).2.2⟩⟩, fun b hb => Nat.lt_of_lt_of_le (hG b hb) hm.size⟩
    rcases ho.2 with h0 | ⟨g, c, cur, hv, hbg, hg, r⟩
    · exact .inl h0
    · refine .inr ⟨g, c, cur, hv, hbg, ?_, r⟩
      rw [hm.block g (Array.getElem?_eq_some_iff.1 hg).1 (hf g (.inr (by rw [hv]; rfl)))]; exact hg
/-- What can be said of a Stay needs no blocks: it stays while all of its world stays. -/
theorem Stay.since {p : Stay} {W w : World} (h : p.holds W) (hs : (thSince W).holds w) : p.holds w := p.stays h hs
end Go.Proofs.Ytkbfohbpndjcpaa
