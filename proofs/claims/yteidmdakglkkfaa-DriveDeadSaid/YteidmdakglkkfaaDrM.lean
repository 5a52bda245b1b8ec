/- The drive's memory: sectors and waits whose data are rows of bytes that nobody writes any more; kinds of blocks told apart by their types. -/
import Derived.Test.YteidmdakglkkfaaGen
import Derived.Test.YteidmdakglkkfaaLay2
namespace Go.Proofs.Yteidmdakglkkfaa
open Go.RowKit
set_option linter.unusedVariables false

/-- A block of one kind. -/
def Kind (w : World) (t : TypeId) (b : Nat) : Prop := ∃ cur, w.heap[b]? = some (.cells cur t (0, 0))
theorem Kind.lt {w : World} {t : TypeId} {b : Nat} (h : Kind w t b) : b < w.heap.size := by
  obtain ⟨cur, h⟩ := h; exact (Array.getElem?_eq_some_iff.1 h).1
theorem Kind.ne {w : World} {t t' : TypeId} {b : Nat} (h : Kind w t b) (h' : Kind w t' b) : t = t' := by
  obtain ⟨c, h⟩ := h; obtain ⟨c', h'⟩ := h'
  rw [h] at h'; simp at h'; exact h'.2
/-- Blocks of these kinds are as they were. -/
def Keeps (ts : List TypeId) (w w' : World) : Prop := w.heap.size ≤ w'.heap.size ∧ ∀ t ∈ ts, ∀ b, Kind w t b → w'.heap[b]? = w.heap[b]?
theorem Keeps.kind {ts : List TypeId} {w w' : World} (h : Keeps ts w w') {t : TypeId} (ht : t ∈ ts) {b : Nat} (hb : Kind w t b) : Kind w' t b := by
  obtain ⟨cur, hc⟩ := hb
  exact ⟨cur, (h.2 t ht b ⟨cur, hc⟩).trans hc⟩
theorem Keeps.refl (ts : List TypeId) (w : World) : Keeps ts w w := ⟨Nat.le_refl _, fun _ _ _ _ => rfl⟩
theorem Keeps.trans {ts : List TypeId} {a b c : World} (h : Keeps ts a b) (h' : Keeps ts b c) : Keeps ts a c :=
  ⟨Nat.le_trans h.1 h'.1, fun t ht x hx => (h'.2 t ht x (h.kind ht hx)).trans (h.2 t ht x hx)⟩
theorem Keeps.sub {ts us : List TypeId} {w w' : World} (h : Keeps ts w w') (hs : ∀ t ∈ us, t ∈ ts) : Keeps us w w' := ⟨h.1, fun t ht => h.2 t (hs t ht)⟩
theorem Keeps.below (ts : List TypeId) {w w' : World} (h : Below w.heap.size w w') : Keeps ts w w' := ⟨h.size, fun t _ b hb => h.block b hb.lt⟩
theorem Keeps.grown {ts : List TypeId} {w w' : World} {row : Option Nat} (h : w.grownBy w' row) (hr : ∀ k, row = some k → ∀ t ∈ ts, ¬ Kind w t k) : Keeps ts w w' :=
  ⟨h.size, fun t ht b hb => h.block b hb.lt (fun e => hr b e.symm t ht hb)⟩
theorem Keeps.set {ts : List TypeId} {w : World} {g j : Nat} (v : Value) (hr : ∀ t ∈ ts, ¬ Kind w t g) : Keeps ts w (w.setCell ⟨g, j, none⟩ v) := by
  refine ⟨by simp [World.setCell], fun t ht b hb => ?_⟩
  exact Below.heap_setCell w ⟨g, j, none⟩ v b (by intro e; exact hr t ht (by rw [show g = b from e.symm]; exact hb))
theorem Box.kind {w : World} {g : Nat} {vs : Array Value} {t : TypeId} (h : Box w g vs t) : Kind w t g := ⟨vs, h⟩
theorem Box.keeps {w w' : World} {g : Nat} {vs : Array Value} {t : TypeId} (h : Box w g vs t) {ts : List TypeId} (hk : Keeps ts w w') (ht : t ∈ ts) : Box w' g vs t := (hk.2 t ht g h.kind).trans h
theorem Own.kind {w : World} {base : Nat} {e : TypeId} {size : Nat} {a : Option Addr} {len cap : Nat} {vs : List Value} (h : Own w base e size a len cap vs) : ∀ k, (Value.slice a len cap).ownBlock = some k → Kind w e k := by
  intro k hk
  rcases h.form with ⟨rfl, _⟩ | ⟨g, cur, rfl, _, hh, _⟩
  · cases hk
  · obtain rfl : g = k := by injection hk
    exact ⟨cur, hh⟩
theorem Own.keeps {w w' : World} {base : Nat} {e : TypeId} {size : Nat} {a : Option Addr} {len cap : Nat} {vs : List Value} (h : Own w base e size a len cap vs) {ts : List TypeId} (hk : Keeps ts w w') (he : e ∈ ts) : Own w' base e size a len cap vs := by
  refine ⟨h.1, ?_⟩
  rcases h.2 with h0 | ⟨g, c, cur, hv, hbg, hg, r⟩
  · exact .inl h0
  · exact .inr ⟨g, c, cur, hv, hbg, (hk.2 e he g ⟨cur, hg⟩).trans hg, r⟩
/-- Data that reach blocks of bytes alone. -/
theorem SOwn.keeps {α : Type} {L : Lay α} {w w' : World} {base : Nat} {e : TypeId} {a : Option Addr} {len cap : Nat} {xs : List α} (h : SOwn L w base e (Kind w 5) a len cap xs) {ts : List TypeId} (hk : Keeps ts w w') (he : e ∈ ts) (h8 : 5 ∈ ts) :
    SOwn L w' base e (Kind w' 5) a len cap xs := by
  obtain ⟨hl, vss, F, ho, hp, hF⟩ := h
  refine ⟨hl, vss, F, ho.keeps hk he, hp.keep (fun _ hb => hb) (fun b hb _ => hk.2 _ h8 b (hF b hb).1), fun b hb => ⟨hk.kind h8 (hF b hb).1, by have := (hF b hb).2.1; have := hk.1; omega, (hF b hb).2.2⟩⟩
theorem SOwn.kind {α : Type} {L : Lay α} {w : World} {base : Nat} {e : TypeId} {G : Nat → Prop} {a : Option Addr} {len cap : Nat} {xs : List α} (h : SOwn L w base e G a len cap xs) : ∀ k, (Value.slice a len cap).ownBlock = some k → Kind w e k := by
  obtain ⟨hl, vss, F, ho, hp, hF⟩ := h; exact ho.kind
theorem flatten_set_two (l : List (List Value)) (u v : Value) : ∀ (i : Nat), (∀ x ∈ l, x.length = 2) → i < l.length → (l.set i [u, v]).flatten = (l.flatten.set (i * 2) u).set (i * 2 + 1) v := by
  induction l with
  | nil => intro i _ hi; simp at hi
  | cons x l ih =>
    intro i h hi
    have hx := h x (List.mem_cons_self ..)
    match x, hx with
    | [p, q], _ =>
      cases i with
      | zero => simp
      | succ i =>
        have := ih i (fun y hy => h y (List.mem_cons_of_mem _ hy)) (by simpa using hi)
        simp only [List.set_cons_succ, List.flatten_cons, this]
        rw [show (i + 1) * 2 = i * 2 + 1 + 1 by omega]
        rfl
theorem Pt.set {α : Type} {L : Lay α} {w : World} {F : Nat → Prop} {xs : List α} {vss : List (List Value)} (h : Pt L w F xs vss) (i : Nat) {x : α} {vs : List Value} (hx : L.at_ w F x vs) : Pt L w F (xs.set i x) (vss.set i vs) := by
  refine ⟨by simp [h.1], fun j y us hy hu => ?_⟩
  by_cases e : i = j
  · subst e
    rw [List.getElem?_set] at hy hu
    simp only [if_true] at hy hu
    split at hy
    · simp at hy
      split at hu
      · simp at hu; rw [← hy, ← hu]; exact hx
      · cases hu
    · cases hy
  · rw [List.getElem?_set_ne e] at hy hu
    exact h.2 j y us hy hu
/-- One element of two cells written anew. -/
theorem SOwn.put_two {α : Type} {L : Lay α} (h2 : L.size = 2) {w : World} {base : Nat} {e : TypeId} {G : Nat → Prop} {g len cap : Nat} {xs : List α} (h : SOwn L w base e G (some ⟨g, 0, none⟩) len cap xs) (i : Nat) (hi : i < len) {x : α} {u v : Value} {F2 : Nat → Prop}
    (hx : L.at_ w F2 x [u, v]) (hF2 : ∀ b, F2 b → G b ∧ b < w.heap.size ∧ b ≠ g) :
    SOwn L ((w.setCell ⟨g, i * 2, none⟩ u).setCell ⟨g, i * 2 + 1, none⟩ v) base e G (some ⟨g, 0, none⟩) len cap (xs.set i x) := by
  obtain ⟨hl, vss, F, ho, hp, hF⟩ := h
  have s1 := World.ownsRow.stored ho (i * 2) u
  have s2 := World.ownsRow.stored s1.1 (i * 2 + 1) v
  have hsz : ∀ y ∈ vss, y.length = 2 := fun y hy => (hp.sizes y hy).trans h2
  have hkeep : ∀ b, b < w.heap.size → b ≠ g → ((w.setCell ⟨g, i * 2, none⟩ u).setCell ⟨g, i * 2 + 1, none⟩ v).heap[b]? = w.heap[b]? := by
    intro b hb hne
    rw [s2.2.block b (Nat.lt_of_lt_of_le hb s1.2.size) (by intro e'; injection e' with e'; exact hne e'), s1.2.block b hb (by intro e'; injection e' with e'; exact hne e')]
  refine ⟨by simp [hl], vss.set i [u, v], fun b => F b ∨ F2 b, ?_, ?_, ?_⟩
  · rw [flatten_set_two vss u v i hsz (by rw [← hp.1, hl]; exact hi)]
    exact s2.1
  · have hp1 : Pt L w (fun b => F b ∨ F2 b) xs vss := hp.keep (fun b hb => .inl hb) (fun _ _ _ => rfl)
    have hp2 := hp1.set i (L.keep hx (fun b hb => Or.inr hb) (fun _ _ _ => rfl) : L.at_ w (fun b => F b ∨ F2 b) x [u, v])
    refine hp2.keep (fun _ hb => hb) (fun b hb hlt => hkeep b hlt ?_)
    rcases hb with hb | hb
    · intro e'; exact (hF b hb).2.2 (by rw [e']; rfl)
    · exact (hF2 b hb).2.2
  · intro b hb
    have hs : w.heap.size ≤ ((w.setCell ⟨g, i * 2, none⟩ u).setCell ⟨g, i * 2 + 1, none⟩ v).heap.size := Nat.le_trans s1.2.size s2.2.size
    rcases hb with hb | hb
    · exact ⟨(hF b hb).1, Nat.lt_of_lt_of_le (hF b hb).2.1 hs, (hF b hb).2.2⟩
    · exact ⟨(hF2 b hb).1, Nat.lt_of_lt_of_le (hF2 b hb).2.1 hs, by intro e'; injection e' with e'; exact (hF2 b hb).2.2 e'.symm⟩
end Go.Proofs.Yteidmdakglkkfaa
