/- A pool in memory turns. -/
import Derived.Test.YtkbfohbpndjcpaaPoN
import Derived.Test.YtkbfohbpndjcpaaPoH
namespace Go.Proofs.Ytkbfohbpndjcpaa
open Go.RowKit
set_option linter.unusedVariables false
set_option maxRecDepth 100000

theorem StOk.grow {hs mo ms : Nat} {Fz : Nat → Prop} {po : PM Ob} {ps : PM (Nat × PM Ob)} {w w' : World} (h : StOk hs mo ms Fz po ps w) (hb : Below w.heap.size w w') (G : Nat → Prop) (hG : ∀ b, G b → w.heap.size ≤ b ∧ b < w'.heap.size) :
    Turns (thSt hs mo ms Fz po ps) (thSt hs mo ms (fun b => Fz b ∨ G b) po ps) w w' := by
  have k : StOk hs mo ms Fz po ps w' := Thing.below (t := thSt hs mo ms Fz po ps) h hb
  have h1 := h.box.lt
  have h2 := h.objs.lt
  have h3 := h.snaps.lt
  refine ⟨⟨k.box, k.objs, k.snaps, fun b hb => ?_, fun b hb => ?_, k.ne, fun p hp => (k.obs p hp).keep (fun _ hb => .inl hb) (fun _ _ => rfl), fun p hp => ⟨.inl (k.shots p hp).1, (k.shots p hp).2.1, fun q hq => ((k.shots p hp).2.2 q hq).keep (fun _ hb => .inl hb) (fun _ _ => rfl)⟩⟩, Mv.below hb, fun b hb => ?_⟩
  · rcases hb with hb | hb
    · exact k.lt b hb
    · exact (hG b hb).2
  · rcases hb with hb | hb
    · exact k.off b hb
    · have := (hG b hb).1
      exact ⟨by omega, by omega, by omega⟩
  · rcases hb with hb | hb | hb | hb | hb
    · exact .inl (.inl hb)
    · exact .inl (.inr (.inl hb))
    · exact .inl (.inr (.inr (.inl hb)))
    · exact .inl (.inr (.inr (.inr hb)))
    · exact .inr (hG b hb).1
theorem grown_block {w w' : World} {g b : Nat} (hg : w.grownBy w' (some g)) (hb : b < w.heap.size) (hne : b ≠ g) : w'.heap[b]? = w.heap[b]? := hg.block b hb (fun e => hne (by injection e))
theorem StOk.turnO {hs mo ms : Nat} {Fz : Nat → Prop} {po : PM Ob} {ps : PM (Nat × PM Ob)} {w w' : World} (h : StOk hs mo ms Fz po ps w) (po' : PM Ob) (hg : w.grownBy w' (some mo)) (hm : OM obV w' mo po') (ho : ∀ p ∈ po', ObOk w Fz p.2) :
    Turns (thSt hs mo ms Fz po ps) (thSt hs mo ms Fz po' ps) w w' := by
  have hF : ∀ b, Fz b → w'.heap[b]? = w.heap[b]? := fun b hb => grown_block hg (h.lt b hb) (h.off b hb).2.1
  exact ⟨⟨(grown_block hg h.box.lt h.ne.2.1).trans h.box, hm, h.snaps.keep (grown_block hg h.snaps.lt h.ne.1.symm), fun b hb => Nat.lt_of_lt_of_le (h.lt b hb) hg.size, h.off, h.ne, fun p hp => (ho p hp).keep (fun _ hb => hb) hF,
    fun p hp => ⟨(h.shots p hp).1, (h.shots p hp).2.1.keep (hF _ (h.shots p hp).1), fun q hq => ((h.shots p hp).2.2 q hq).keep (fun _ hb => hb) hF⟩⟩, Mv.grown hg (fun g e => by injection e with e; exact .inr (.inl e.symm)), fun b hb => .inl hb⟩
theorem StOk.turnS {hs mo ms : Nat} {Fz : Nat → Prop} {po : PM Ob} {ps : PM (Nat × PM Ob)} {w w' : World} (h : StOk hs mo ms Fz po ps w) (ps' : PM (Nat × PM Ob)) (hg : w.grownBy w' (some ms)) (hm : OM smV w' ms ps') (ho : ∀ p ∈ ps', Fz p.2.1 ∧ OM obV w p.2.1 p.2.2 ∧ ∀ q ∈ p.2.2, ObOk w Fz q.2) :
    Turns (thSt hs mo ms Fz po ps) (thSt hs mo ms Fz po ps') w w' := by
  have hF : ∀ b, Fz b → w'.heap[b]? = w.heap[b]? := fun b hb => grown_block hg (h.lt b hb) (h.off b hb).2.2
  exact ⟨⟨(grown_block hg h.box.lt h.ne.2.2).trans h.box, h.objs.keep (grown_block hg h.objs.lt h.ne.1), hm, fun b hb => Nat.lt_of_lt_of_le (h.lt b hb) hg.size, h.off, h.ne, fun p hp => (h.obs p hp).keep (fun _ hb => hb) hF,
    fun p hp => ⟨(ho p hp).1, (ho p hp).2.1.keep (hF _ (ho p hp).1), fun q hq => ((ho p hp).2.2 q hq).keep (fun _ hb => hb) hF⟩⟩, Mv.grown hg (fun g e => by injection e with e; exact .inr (.inr (.inl e.symm))), fun b hb => .inl hb⟩
/-- The objects are those of a new block. -/
theorem StOk.turnB {hs mo ms : Nat} {Fz : Nat → Prop} {po : PM Ob} {ps : PM (Nat × PM Ob)} {w w1 : World} (h : StOk hs mo ms Fz po ps w) (po' : PM Ob) (hb : Below w.heap.size w w1) (nb : Nat) (hn : w.heap.size ≤ nb) (hm : OM obV w1 nb po') (ho : ∀ p ∈ po', ObOk w Fz p.2) :
    Turns (thSt hs mo ms Fz po ps) (thSt hs nb ms Fz po' ps) w (w1.setCell ⟨hs, 0, none⟩ (.map (some nb))) := by
  have k : StOk hs mo ms Fz po ps w1 := Thing.below (t := thSt hs mo ms Fz po ps) h hb
  have h1 := h.box.lt
  have h2 := h.objs.lt
  have h3 := h.snaps.lt
  have hne : ∀ b, b ≠ hs → (w1.setCell ⟨hs, 0, none⟩ (.map (some nb))).heap[b]? = w1.heap[b]? := fun b hb => Below.heap_setCell _ _ _ _ hb
  have hsz : (w1.setCell ⟨hs, 0, none⟩ (.map (some nb))).heap.size = w1.heap.size := by simp [World.setCell]
  have hF : ∀ b, Fz b → (w1.setCell ⟨hs, 0, none⟩ (.map (some nb))).heap[b]? = w1.heap[b]? := fun b hb => hne b (h.off b hb).1
  have hF0 : ∀ b, Fz b → (w1.setCell ⟨hs, 0, none⟩ (.map (some nb))).heap[b]? = w.heap[b]? := fun b hbb => (hF b hbb).trans (hb.block b (h.lt b hbb))
  have hlt := h.lt
  refine ⟨⟨Box.set k.box 0 _, hm.keep (hne nb (by omega)), k.snaps.keep (hne ms (Ne.symm k.ne.2.2)), fun b hb => by rw [hsz]; exact k.lt b hb, fun b hb => ⟨(h.off b hb).1, by have := h.lt b hb; omega, (h.off b hb).2.2⟩, ⟨by omega, by omega, h.ne.2.2⟩, fun p hp => (ho p hp).keep (fun _ hb => hb) hF0,
    fun p hp => ⟨(h.shots p hp).1, (k.shots p hp).2.1.keep (hF _ (h.shots p hp).1), fun q hq => ((k.shots p hp).2.2 q hq).keep (fun _ hb => hb) hF⟩⟩, (Mv.below hb).trans (Mv.setCell _ (.inl rfl)), fun b hb => ?_⟩
  rcases hb with hb | hb | hb | hb
  · exact .inl (.inl hb)
  · exact .inr (by omega)
  · exact .inl (.inr (.inr (.inl hb)))
  · exact .inl (.inr (.inr (.inr hb)))
/-- With what it came to, which lies in new blocks; then a box of the call's own is written. -/
theorem Turns.told {t t' : Thing} {w W2 W3 : World} {g : Nat} (T : Turns t t' w W2) (F : Nat → Prop) (r : Td) (vs : List Value) (ht : tdL.at_ W2 F r vs) (hF : ∀ b, F b → w.heap.size ≤ b ∧ b < W2.heap.size ∧ ¬ t'.foot b ∧ b ≠ g) (hg : W2.grownBy W3 (some g)) (h1 : w.heap.size ≤ g) (h2 : ¬ t'.foot g) :
    Turns t (thAll [t', thAt tdL F r vs]) w W3 := by
  have hm : Mv (fun b => b = g) W2 W3 := Mv.grown hg (fun k e => by injection e with e; exact e.symm)
  have k1 : t'.holds W3 := t'.keep T.now hm (fun b hb e => h2 (e ▸ hb))
  have k2 : (thAt tdL F r vs).holds W3 := (thAt tdL F r vs).keep (w := W2) ⟨ht, fun b hb => (hF b hb).2.1⟩ hm (fun b hb e => (hF b hb).2.2.2 e)
  refine ⟨((Apt.nil W3).cons k2 (fun s hs => by cases hs)).cons k1 (fun s hs b hb hs' => ?_), T.mv.trans' hm (fun b hb => .inr (by subst hb; exact h1)), fun b ⟨s, hs, hb⟩ => ?_⟩
  · obtain rfl := List.mem_singleton.1 hs
    exact (hF b hs').2.2.1 hb
  · rcases List.mem_cons.1 hs with rfl | hs
    · exact T.own b hb
    · obtain rfl := List.mem_singleton.1 hs
      exact .inr (hF b hb).1
def erO (m : PM Ob) : PM (List Int) := mapP Ob.bs m
def erS (m : PM (Nat × PM Ob)) : PM (PM (List Int)) := mapP (fun k => erO k.2) m
/-- What a command has done. -/
def Done (hs : Nat) (t : Thing) (r : Td × Pl) (w : World) (e : Ending) (w' : World) : Prop :=
  ∃ (ad : Option Addr) (ld cd : Nat) (an : Option Addr) (ln cn : Nat) (F : Nat → Prop) (mo ms : Nat) (Fz : Nat → Prop) (po : PM Ob) (ps : PM (Nat × PM Ob)),
    e = .returned (.agg (tdV r.1.code r.1.size ad ld cd an ln cn)) ∧ Hid (Turns t (thAll [thSt hs mo ms Fz po ps, thAt tdL F r.1 (tdV r.1.code r.1.size ad ld cd an ln cn).toList]) w w') ∧ Hid (erO po = r.2.objs ∧ erS ps = r.2.snaps)
theorem erO_get (n : Nm) (m : PM Ob) : getP n (erO m) = (getP n m).map Ob.bs := getP_map _ _ _
theorem erS_get (n : Nm) (m : PM (Nat × PM Ob)) : getP n (erS m) = (getP n m).map (fun k => erO k.2) := getP_map _ _ _
end Go.Proofs.Ytkbfohbpndjcpaa
