/- Spaces in memory: what stays, what turns. -/
import Derived.Test.YteidmdakglkkfaaSpR
import Derived.Test.YteidmdakglkkfaaOwnStep
namespace Go.Proofs.Yteidmdakglkkfaa
open Go.RowKit
set_option linter.unusedVariables false

/-- What a method of a space leaves: its own three blocks alone have turned, and rows of records. -/
structure SpKeep (B g gu : Nat) (w w' : World) : Prop where
  below : Below B w w'
  kept : ∀ b vs t fr, w.heap[b]? = some (.cells vs t fr) → t ≠ 106 → b ≠ g → b ≠ gu → w'.heap[b]? = some (.cells vs t fr)
theorem SpKeep.trans {B g gu : Nat} {a b c : World} (h : SpKeep B g gu a b) (k : SpKeep B g gu b c) : SpKeep B g gu a c :=
  ⟨h.below.trans k.below, fun i vs t fr hi ht h1 h2 => k.kept i vs t fr (h.kept i vs t fr hi ht h1 h2) ht h1 h2⟩
theorem SpKeep.refl (B g gu : Nat) (w : World) : SpKeep B g gu w w := ⟨Below.refl _ _, fun _ _ _ _ h _ _ _ => h⟩
theorem SpKeep.of_below {B g gu : Nat} {w w' : World} (h : Below w.heap.size w w') (hB : B ≤ w.heap.size) : SpKeep B g gu w w' :=
  ⟨h.mono hB, fun b vs t fr hb _ _ _ => (h.block b (Array.getElem?_eq_some_iff.1 hb).1).trans hb⟩
theorem SpKeep.alloc {B g gu : Nat} {a w : World} (h : SpKeep B g gu a w) (hB : B ≤ w.heap.size) (o : Obj) : SpKeep B g gu a (w.alloc o) := h.trans (.of_below (Below_alloc1 _) hB)
theorem SpKeep.drewN {B g gu : Nat} {a w : World} (h : SpKeep B g gu a w) (n : Nat) : SpKeep B g gu a (w.drewN n) := ⟨below_drewN h.below n, h.kept⟩
theorem SpKeep.grown_u {B g gu : Nat} {a w w' : World} (h : SpKeep B g gu a w) (hg : w.grownBy w' (some gu)) (hB : B ≤ gu) (hs : B ≤ w.heap.size) : SpKeep B g gu a w' :=
  h.trans ⟨(Below.refl _ _).grown hg hs (fun k hk => by injection hk with hk; omega), fun b vs t fr hb _ _ hne => (hg.block b (Array.getElem?_eq_some_iff.1 hb).1 (by intro e; injection e with e; exact hne e)).trans hb⟩
theorem SpKeep.set_g {B g gu : Nat} {a w : World} (h : SpKeep B g gu a w) (hB : B ≤ g) (j : Nat) (v : Value) : SpKeep B g gu a (w.setCell ⟨g, j, none⟩ v) :=
  h.trans ⟨(Below.refl _ _).setCell hB v, fun b vs t fr hb _ hne _ => (Below.heap_setCell _ _ _ _ hne).trans hb⟩
theorem SpKeep.grown_log {B g gu : Nat} {a w w' : World} (h : SpKeep B g gu a w) {ao : Option Addr} {l c : Nat} {log : List (Bool × Nat × Nat)} (ho : SOwn recL w B 106 (fun _ => False) ao l c log) (hg : w.grownBy w' (Value.slice ao l c).ownBlock) (hs : B ≤ w.heap.size) : SpKeep B g gu a w' := by
  refine h.trans ⟨ho.grown (Below.refl _ _) (Nat.le_refl _) hs hg, fun b vs t fr hb ht _ _ => (hg.block b (Array.getElem?_eq_some_iff.1 hb).1 ?_).trans hb⟩
  intro e
  obtain ⟨hl, vss, F, hown, _⟩ := ho
  rcases hown.form with ⟨rfl, _⟩ | ⟨g', cur, rfl, _, hh, _⟩
  · cases e
  · have e' : b = g' := by simpa [Value.ownBlock] using e
    subst e'
    rw [hb] at hh
    injection hh with hh
    injection hh with _ ht' _
    exact ht ht'
theorem SpKeep.box {B g gu : Nat} {w w' : World} (h : SpKeep B g gu w w') {b : Nat} {vs : Array Value} {t : TypeId} (hb : Box w b vs t) (ht : t ≠ 106) (h1 : b ≠ g) (h2 : b ≠ gu) : Box w' b vs t := h.kept b vs t _ hb ht h1 h2
/-- Rows of structs of plain cells stay where their own blocks do. -/
theorem SOwn.flat_keep {α : Type} {n : Nat} {hn : 0 < n} {f : α → List Value} {hf : ∀ x, (f x).length = n} {h1 : ∀ x, ∀ v ∈ f x, v.oneCell' = true} {w w' : World}
    {base : Nat} {e : TypeId} {G : Nat → Prop} {a : Option Addr} {len cap : Nat} {xs : List α} (ho : SOwn (Lay.flat n hn f hf h1) w base e G a len cap xs) (hs : w.heap.size ≤ w'.heap.size)
    (hk : ∀ (g' : Nat) (cur : Array Value), w.heap[g']? = some (Obj.cells cur e (0, 0)) → w'.heap[g']? = some (Obj.cells cur e (0, 0))) : SOwn (Lay.flat n hn f hf h1) w' base e G a len cap xs := by
  obtain ⟨hl, vss, F, hown, hp, hF⟩ := ho
  refine ⟨hl, vss, F, ⟨hown.1, ?_⟩, hp, fun b hb => ⟨(hF b hb).1, Nat.lt_of_lt_of_le (hF b hb).2.1 hs, (hF b hb).2.2⟩⟩
  rcases hown.2 with h0 | ⟨g', c, cur, hv, hbg, hh, r⟩
  · exact .inl h0
  · exact .inr ⟨g', c, cur, hv, hbg, hk g' cur hh, r⟩
theorem SpKeep.flat {α : Type} {n : Nat} {hn : 0 < n} {f : α → List Value} {hf : ∀ x, (f x).length = n} {h1 : ∀ x, ∀ v ∈ f x, v.oneCell' = true} {B g gu : Nat} {w w' : World} (h : SpKeep B g gu w w')
    {base : Nat} {e : TypeId} {G : Nat → Prop} {a : Option Addr} {len cap : Nat} {xs : List α} (ho : SOwn (Lay.flat n hn f hf h1) w base e G a len cap xs) (he : e ≠ 106) {vg vu : Array Value} (hg : Box w g vg 99) (hu : Box w gu vu 5)
    (he1 : e ≠ 99) (he2 : e ≠ 5) : SOwn (Lay.flat n hn f hf h1) w' base e G a len cap xs :=
  ho.flat_keep h.below.size (fun g' cur hh => h.kept g' _ _ _ hh he (Box.ne hh hg he1) (Box.ne hh hu he2))
theorem SpKeep.set_new {B g gu : Nat} {a w : World} (h : SpKeep B g gu a w) {p : Addr} (hp : a.heap.size ≤ p.block) (hB : B ≤ p.block) (v : Value) : SpKeep B g gu a (w.setCell p v) :=
  ⟨h.below.setCell hB v, fun b vs t fr hb ht h1 h2 => (Below.heap_setCell _ _ _ _ (by have := (Array.getElem?_eq_some_iff.1 hb).1; omega)).trans (h.kept b vs t fr hb ht h1 h2)⟩
section
variable {B g gu : Nat} {w w' : World} {s : Sp} {a : Option Addr} {l c : Nat}
theorem Spc.alloc (h : Spc B w g gu s a l c) (o : Obj) : Spc B (w.alloc o) g gu s a l c := ⟨h.hb.alloc _, h.hu.alloc _, h.ho.alloc _, h.h1, h.h2⟩
theorem Spc.below (h : Spc B w g gu s a l c) (hb : Below w.heap.size w w') : Spc B w' g gu s a l c := ⟨h.hb.below hb h.hb.lt, h.hu.below hb h.hu.lt, h.ho.below hb, h.h1, h.h2⟩
theorem Spc.drewN (h : Spc B w g gu s a l c) (n : Nat) : Spc B (w.drewN n) g gu s a l c := h.below (below_drewN (Below.refl _ _) n)
theorem Spc.ne (h : Spc B w g gu s a l c) : g ≠ gu := h.hb.ne h.hu (by decide)
theorem Spc.far (hs : Spc B w g gu s a l c) {h : Nat} {vs : Array Value} {t : TypeId} (hb : Box w h vs t) (h1 : t ≠ 99) (h2 : t ≠ 5) (h3 : t ≠ 106) (j : Nat) (v : Value) : Spc B (w.setCell ⟨h, j, none⟩ v) g gu s a l c :=
  ⟨hs.hb.other _ (hb.ne hs.hb h1) _, hs.hu.other _ (hb.ne hs.hu h2) _, hs.ho.flat_keep (by simp [World.setCell]) (fun g' cur hh => (Below.heap_setCell _ _ _ _ (Box.ne hh hb (Ne.symm h3))).trans hh), hs.h1, hs.h2⟩
theorem Spc.setu (hs : Spc B w g gu s a l c) (hg : w.grownBy w' (some gu)) {us' : List Nat} (hu : Box w' gu (us8 us') 5) (hl : us'.length = s.us.length) : Spc B w' g gu { s with us := us' } a l c := by
  refine ⟨?_, hu, hs.ho.flat_keep hg.size (fun g' cur hh => (hg.block g' (Array.getElem?_eq_some_iff.1 hh).1 (by
    intro e; injection e with e
    exact (Box.ne hh hs.hu (by decide)) e)).trans hh), hs.h1, hs.h2⟩
  show Box w' g #[.slice (some ⟨gu, 0, none⟩) us'.length us'.length, _, _] _
  rw [hl]
  exact hs.hb.grown hg (by intro e; injection e with e; exact hs.ne e)
theorem Spc.setleft (hs : Spc B w g gu s a l c) (v : Int) : Spc B (w.setCell ⟨g, 1, none⟩ (.int .i64 v)) g gu { s with left := v } a l c :=
  ⟨hs.hb.set 1 _, hs.hu.other _ hs.ne _, hs.ho.flat_keep (by simp [World.setCell]) (fun g' cur hh => (Below.heap_setCell _ _ _ _ (Box.ne hh hs.hb (by decide))).trans hh), hs.h1, hs.h2⟩
theorem Spc.logged (hs : Spc B w g gu s a l c) {a' : Option Addr} {l' c' : Nat} {log' : List (Bool × Nat × Nat)} (ho : SOwn recL w' B 106 (fun _ => False) a' l' c' log') (hg : w.grownBy w' (Value.slice a l c).ownBlock) :
    Box w' g #[.slice (some ⟨gu, 0, none⟩) s.us.length s.us.length, .int .i64 s.left, .slice a l c] 99 ∧ Spc B (w'.setCell ⟨g, 2, none⟩ (.slice a' l' c')) g gu { s with log := log' } a' l' c' := by
  have hne : ∀ b vs t, Box w b vs t → t ≠ 106 → some b ≠ (Value.slice a l c).ownBlock := by
    intro b vs t hb ht e
    obtain ⟨_, vss, F, hown, _⟩ := hs.ho
    rcases hown.form with ⟨rfl, _⟩ | ⟨g', cur, rfl, _, hh, _⟩
    · cases e
    · have e' : b = g' := by simpa [Value.ownBlock] using e
      exact (hb.ne hh ht) e'
  have hg1 := hs.hb.grown hg (hne _ _ _ hs.hb (by decide))
  have hu1 := hs.hu.grown hg (hne _ _ _ hs.hu (by decide))
  exact ⟨hg1, hg1.set 2 _, hu1.other _ hs.ne _, ho.flat_keep (by simp [World.setCell]) (fun g' cur hh => (Below.heap_setCell _ _ _ _ (Box.ne hh hg1 (by decide))).trans hh), hs.h1, hs.h2⟩
end
/-- A block that the methods don't touch, behind an append to the log. -/
theorem Box.logged {w w' : World} {a : Option Addr} {l c : Nat} {log : List (Bool × Nat × Nat)} {B : Nat} (ho : SOwn recL w B 106 (fun _ => False) a l c log) (hg : w.grownBy w' (Value.slice a l c).ownBlock) {b : Nat} {vs : Array Value} {t : TypeId} (hb : Box w b vs t) (ht : t ≠ 106) : Box w' b vs t := by
  refine hb.grown hg (fun e => ?_)
  obtain ⟨_, vss, F, hown, _⟩ := ho
  rcases hown.form with ⟨rfl, _⟩ | ⟨g', cur, rfl, _, hh, _⟩
  · cases e
  · have e' : b = g' := by simpa [Value.ownBlock] using e
    exact (hb.ne hh ht) e'
end Go.Proofs.Yteidmdakglkkfaa
