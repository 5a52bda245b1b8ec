/- A pool in memory. -/
import Derived.Test.YtkbfohbpndjcpaaPoF
import Derived.Test.YtkbfohbpndjcpaaThB
import Derived.Test.YtkbfohbpndjcpaaBoxOps
namespace Go.Proofs.Ytkbfohbpndjcpaa
open Go.RowKit
set_option linter.unusedVariables false
set_option maxRecDepth 100000

def thPure (p : Prop) : Thing where
  foot := fun _ => False
  holds := fun _ => p
  lt := fun _ b h => h.elim
  keep := fun h _ _ => h
theorem Turns.join {l m : List Thing} {w : World} (h : Apt [thAll l, thAll m] w) : Turns (thAll [thAll l, thAll m]) (thAll (l ++ m)) w w := by
  have hl : Apt l w := h.all 0 _ rfl
  have hm : Apt m w := h.all 1 _ rfl
  have split : ∀ (i : Nat) (t : Thing), (l ++ m)[i]? = some t → (i < l.length ∧ l[i]? = some t) ∨ (l.length ≤ i ∧ m[i - l.length]? = some t) := fun i t hi => by
    by_cases hl : i < l.length
    · rw [List.getElem?_append_left hl] at hi; exact .inl ⟨hl, hi⟩
    · rw [List.getElem?_append_right (by omega)] at hi; exact .inr ⟨by omega, hi⟩
  refine ⟨⟨fun i t hi => ?_, fun i j s t hi hj hne b hb hb2 => ?_⟩, Mv.refl _ _, fun b ⟨t, ht, hb⟩ => ?_⟩
  · rcases split i t hi with h1 | h1
    · exact hl.all i t h1.2
    · exact hm.all _ t h1.2
  · rcases split i s hi with h1 | h1
    · rcases split j t hj with h2 | h2
      · exact hl.apart i j s t h1.2 h2.2 hne b hb hb2
      · exact h.apart 0 1 _ _ rfl rfl (by decide) b ⟨s, List.mem_of_getElem? h1.2, hb⟩ ⟨t, List.mem_of_getElem? h2.2, hb2⟩
    · rcases split j t hj with h2 | h2
      · exact h.apart 1 0 _ _ rfl rfl (by decide) b ⟨s, List.mem_of_getElem? h1.2, hb⟩ ⟨t, List.mem_of_getElem? h2.2, hb2⟩
      · exact hm.apart _ _ s t h1.2 h2.2 (by omega) b hb hb2
  · rcases List.mem_append.1 ht with h1 | h1
    · exact .inl ⟨_, List.mem_cons_self .., ⟨t, h1, hb⟩⟩
    · exact .inl ⟨_, List.mem_cons_of_mem _ (List.mem_cons_self ..), ⟨t, h1, hb⟩⟩
theorem Turns.part {l m : List Thing} {w : World} (h : Apt (l ++ m) w) : Turns (thAll (l ++ m)) (thAll [thAll l, thAll m]) w w := by
  have hl : Apt l w := ⟨fun i t hi => h.all i t (by rw [List.getElem?_append_left (List.getElem?_eq_some_iff.1 hi).1]; exact hi), fun i j s t hi hj hne => h.apart i j s t (by rw [List.getElem?_append_left (List.getElem?_eq_some_iff.1 hi).1]; exact hi) (by rw [List.getElem?_append_left (List.getElem?_eq_some_iff.1 hj).1]; exact hj) hne⟩
  have gm : ∀ (i : Nat) (t : Thing), m[i]? = some t → (l ++ m)[l.length + i]? = some t := fun i t hi => by rw [List.getElem?_append_right (by omega), show l.length + i - l.length = i by omega]; exact hi
  have hm : Apt m w := ⟨fun i t hi => h.all _ t (gm i t hi), fun i j s t hi hj hne => h.apart _ _ s t (gm i s hi) (gm j t hj) (by omega)⟩
  refine ⟨((Apt.nil w).cons (t := thAll m) hm (fun s hs => by cases hs)).cons (t := thAll l) hl (fun s hs b hb hb2 => ?_), Mv.refl _ _, fun b ⟨t, ht, hb⟩ => ?_⟩
  · obtain rfl := List.mem_singleton.1 hs
    obtain ⟨t, ht, hbt⟩ := hb
    obtain ⟨u, hu, hbu⟩ := hb2
    obtain ⟨i, hi⟩ := List.getElem?_of_mem ht
    obtain ⟨j, hj⟩ := List.getElem?_of_mem hu
    have hil := (List.getElem?_eq_some_iff.1 hi).1
    exact h.apart i (l.length + j) t u (by rw [List.getElem?_append_left hil]; exact hi) (gm j u hj) (by omega) b hbt hbu
  · rcases List.mem_cons.1 ht with rfl | ht
    · obtain ⟨u, hu, hbu⟩ := hb
      exact .inl ⟨u, List.mem_append_left _ hu, hbu⟩
    · obtain rfl := List.mem_singleton.1 ht
      obtain ⟨u, hu, hbu⟩ := hb
      exact .inl ⟨u, List.mem_append_right _ hu, hbu⟩
theorem Turns.single {a : Thing} {w : World} (h : a.holds w) : Turns a (thAll [a]) w w :=
  ⟨(Apt.nil w).cons h (fun s hs => by cases hs), Mv.refl _ _, fun b ⟨t, ht, hb⟩ => by obtain rfl := List.mem_singleton.1 ht; exact .inl hb⟩
theorem Turns.unsingle {a : Thing} {w : World} (h : (thAll [a]).holds w) : Turns (thAll [a]) a w w := (Turns.refl h).one
/-- One ahead, the rest as one. -/
theorem Turns.head1 {a : Thing} {l : List Thing} {w : World} (h : Apt (a :: l) w) : Turns (thAll (a :: l)) (thAll [a, thAll l]) w w := by
  have T := Turns.part (l := [a]) (m := l) h
  exact T.trans (Turns.inside (i := 0) T.now rfl (Turns.unsingle (T.now.all 0 _ rfl)))
theorem Turns.unhead1 {a : Thing} {l : List Thing} {w : World} (h : Apt [a, thAll l] w) : Turns (thAll [a, thAll l]) (thAll (a :: l)) w w := by
  have T := Turns.inside (i := 0) h rfl (Turns.single (h.all 0 _ rfl))
  exact T.trans (Turns.join (l := [a]) T.now)

/-- Things of a list, by their numbers. -/
theorem Turns.pick {l : List Thing} {w : World} (is : List Nat) (h : Apt l w) (hn : is.Nodup) (hl : ∀ i ∈ is, i < l.length) : Turns (thAll l) (thAll (is.map fun i => l.getD i (thPure True))) w w := by
  refine Turns.by h (fun j => is.getD j 0) (fun i j e hi hj => ?_) (fun j t hj => ?_)
  · rw [List.length_map] at hi hj
    simp only [List.getD_eq_getElem?_getD, List.getElem?_eq_getElem hi, List.getElem?_eq_getElem hj, Option.getD_some] at e
    exact (List.getElem_inj hn).1 e
  · rw [List.getElem?_map] at hj
    cases hq : is[j]? with
    | none => rw [hq] at hj; cases hj
    | some i =>
      rw [hq] at hj
      have hj' : l.getD i (thPure True) = t := Option.some.inj hj
      have hi := hl i (List.mem_of_getElem? hq)
      simp only [List.getD_eq_getElem?_getD, hq, Option.getD_some]
      rw [← hj', List.getD_eq_getElem?_getD, List.getElem?_eq_getElem hi]; rfl
theorem Turns.cell {w : World} {g : Nat} {vs : Array Value} {t : TypeId} (h : (thBox g vs t).holds w) (j : Nat) (v : Value) : Turns (thBox g vs t) (thBox g (vs.setIfInBounds j v) t) w (w.setCell ⟨g, j, none⟩ v) :=
  ⟨Box.set h j v, Mv.setCell v rfl, fun b hb => .inl hb⟩

/-! a datum with what it reaches -/
def thAt {α : Type} (L : Lay α) (F : Nat → Prop) (x : α) (vs : List Value) : Thing where
  foot := F
  holds := fun w => L.at_ w F x vs ∧ ∀ b, F b → b < w.heap.size
  lt := fun h b hb => h.2 b hb
  keep := fun h hm hf => ⟨L.keep h.1 (fun _ hb => hb) (fun b hb hlt => hm.block b hlt (hf b hb)), fun b hb => Nat.lt_of_lt_of_le (h.2 b hb) hm.size⟩

/-! objects and snapshots -/
structure Ob where
  a : Option Addr
  len : Nat
  cap : Nat
  bs : List Int
def obV (x : Ob) : Value := .slice x.a x.len x.cap
def ObOk (w : World) (F : Nat → Prop) (x : Ob) : Prop := Row .u8 w x.a x.len x.cap x.bs ∧ ∀ p, x.a = some p → F p.block
def smV (x : Nat × PM Ob) : Value := .map (some x.1)
def OM {α : Type} (f : α → Value) (w : World) (b : Nat) (m : PM α) : Prop := w.ownsMap Try.prog 9 RV b m.length (datP f m)
def stV (mo ms : Nat) : Array Value := #[.map (some mo), .map (some ms), .slice none 0 0]
structure StOk (hs mo ms : Nat) (Fz : Nat → Prop) (po : PM Ob) (ps : PM (Nat × PM Ob)) (w : World) : Prop where
  box : Box w hs (stV mo ms) 60
  objs : OM obV w mo po
  snaps : OM smV w ms ps
  lt : ∀ b, Fz b → b < w.heap.size
  off : ∀ b, Fz b → b ≠ hs ∧ b ≠ mo ∧ b ≠ ms
  ne : mo ≠ ms ∧ hs ≠ mo ∧ hs ≠ ms
  obs : ∀ p ∈ po, ObOk w Fz p.2
  shots : ∀ p ∈ ps, Fz p.2.1 ∧ OM obV w p.2.1 p.2.2 ∧ ∀ q ∈ p.2.2, ObOk w Fz q.2
theorem OM.keep {α : Type} {f : α → Value} {w w' : World} {b : Nat} {m : PM α} (h : OM f w b m) (hw : w'.heap[b]? = w.heap[b]?) : OM f w' b m := by
  obtain ⟨es, clock, hb, r⟩ := h
  exact ⟨es, clock, hw.trans hb, r⟩
theorem OM.lt {α : Type} {f : α → Value} {w : World} {b : Nat} {m : PM α} (h : OM f w b m) : b < w.heap.size := World.ownsMap.lt h
theorem OM.of {α : Type} {f : α → Value} {w : World} {b n : Nat} {m : PM α} (h : w.ownsMap Try.prog 9 RV b n (datP f m)) : OM f w b m := by
  obtain ⟨es, clock, hb, F, hs, hD⟩ := h
  refine ⟨es, clock, hb, F, ?_, hD⟩
  have e := congrArg Maps.size hD
  rw [dat_size] at e
  have e1 : Maps.size (DataW.map ((es.toList.map (WideElems.rg Try.prog 9 RV)).foldr DataW.insert [])) = es.size := by simp [Maps.size, length_sorted]
  rw [e1] at e
  omega
theorem ObOk.keep {w w' : World} {F G : Nat → Prop} {x : Ob} (h : ObOk w F x) (hG : ∀ b, F b → G b) (hw : ∀ b, F b → w'.heap[b]? = w.heap[b]?) : ObOk w' G x := by
  exact ⟨VRow.toRow (h.1.toV.keep (fun b o e _ _ => hw b (h.2 _ e))) h.1.hwf, fun p hp => hG _ (h.2 p hp)⟩
def thSt (hs mo ms : Nat) (Fz : Nat → Prop) (po : PM Ob) (ps : PM (Nat × PM Ob)) : Thing where
  foot := fun b => b = hs ∨ b = mo ∨ b = ms ∨ Fz b
  holds := StOk hs mo ms Fz po ps
  lt := fun h b hb => by
    rcases hb with rfl | rfl | rfl | hb
    · exact h.box.lt
    · exact h.objs.lt
    · exact h.snaps.lt
    · exact h.lt b hb
  keep := fun {S w w'} h hm hf => by
    have blk : ∀ b, (b = hs ∨ b = mo ∨ b = ms ∨ Fz b) → b < w.heap.size → w'.heap[b]? = w.heap[b]? := fun b hb hl => hm.block b hl (hf b hb)
    have hF : ∀ b, Fz b → w'.heap[b]? = w.heap[b]? := fun b hb => blk b (.inr (.inr (.inr hb))) (h.lt b hb)
    exact ⟨(blk hs (.inl rfl) h.box.lt).trans h.box, h.objs.keep (blk mo (.inr (.inl rfl)) h.objs.lt), h.snaps.keep (blk ms (.inr (.inr (.inl rfl))) h.snaps.lt), fun b hb => Nat.lt_of_lt_of_le (h.lt b hb) hm.size, h.off, h.ne,
      fun p hp => (h.obs p hp).keep (fun _ hb => hb) hF, fun p hp => ⟨(h.shots p hp).1, (h.shots p hp).2.1.keep (hF _ (h.shots p hp).1), fun q hq => ((h.shots p hp).2.2 q hq).keep (fun _ hb => hb) hF⟩⟩
end Go.Proofs.Ytkbfohbpndjcpaa
