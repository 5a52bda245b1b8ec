/- Texts that belong together: ItA, GaT. -/
import Derived.RangeFuncNested
import Derived.RangeFuncBound
import Derived.RangeFuncCalls
import Derived.RangeFuncLeaves
import Derived.Shelf.Abstract
import Derived.Shelf.RegionOpen
import Derived.OwnWalkIn
import Derived.TacticsInMore
import Derived.LoopNIn
import Derived.LoopIn
import Derived.OrdersHeld
import Derived.OrdersIn
import Derived.Deep.RegionHeld
import Derived.Test.YtkjaddiagembaaaZ1
/- A range over an iterator that keeps a state of its own: the contract of such an iterator, and the law of the loop. -/
namespace Go.Proofs.Ytkjaddiagembaaa
open Go.RowKit Go.Shelf
set_option linter.unusedVariables false

/-- All blocks but those from A to B lie as they lay. -/
structure Off (A B : Nat) (X Y : World) : Prop where
  os : Y.os = X.os
  tape : Y.tape = X.tape
  output : Y.output = X.output
  size : X.heap.size ≤ Y.heap.size
  block : ∀ b, b < X.heap.size → (b < A ∨ B ≤ b) → Y.heap[b]? = X.heap[b]?
theorem Off.refl (A B : Nat) (X : World) : Off A B X X := ⟨rfl, rfl, rfl, Nat.le_refl _, fun _ _ _ => rfl⟩
theorem Off.trans {A B : Nat} {X Y Z : World} (h : Off A B X Y) (k : Off A B Y Z) : Off A B X Z :=
  ⟨k.os.trans h.os, k.tape.trans h.tape, k.output.trans h.output, Nat.le_trans h.size k.size, fun b hb ho => (k.block b (Nat.lt_of_lt_of_le hb h.size) ho).trans (h.block b hb ho)⟩
theorem Off.mono {A B A' B' : Nat} {X Y : World} (h : Off A B X Y) (hA : A' ≤ A) (hB : B ≤ B') : Off A' B' X Y :=
  ⟨h.os, h.tape, h.output, h.size, fun b hb ho => h.block b hb (by omega)⟩
theorem Off.below {A B : Nat} {X Y : World} (h : Below X.heap.size X Y) : Off A B X Y := ⟨h.os, h.tape, h.output, h.size, fun b hb _ => h.block b hb⟩
theorem Off.alloc {A B : Nat} (X : World) (o : Obj) : Off A B X (X.alloc o) := ⟨rfl, rfl, rfl, by simp, fun b hb _ => Below.heap_alloc _ _ _ hb⟩
theorem Off.drew {A B : Nat} (X : World) : Off A B X X.drew := ⟨rfl, rfl, rfl, Nat.le_refl _, fun _ _ _ => rfl⟩
theorem Off.setCell {A B : Nat} (X : World) (a : Addr) (v : Value) (h : A ≤ a.block ∧ a.block < B) : Off A B X (X.setCell a v) :=
  ⟨rfl, rfl, rfl, by simp [World.setCell], fun b hb ho => Below.heap_setCell _ _ _ _ (by omega)⟩
theorem Off.putObj {A B : Nat} (X : World) (l : Nat) (o : Obj) (h : A ≤ l ∧ l < B) : Off A B X (X.putObj l o) :=
  ⟨rfl, rfl, rfl, by simp [World.putObj], fun b hb ho => World.putObj_heap_other (by omega)⟩
theorem Off.grown {A B : Nat} {X Y : World} {row : Option Nat} (hg : X.grownBy Y row) (hr : ∀ k, row = some k → A ≤ k ∧ k < B) : Off A B X Y :=
  ⟨hg.os, hg.tape, hg.output, hg.size, fun b hb ho => hg.block b hb (fun e => by have := hr b e.symm; omega)⟩
theorem Off.below_of {A B n : Nat} {w0 X Y : World} (h : Off A B X Y) (hb : Below n w0 X) (hn : n ≤ A) (hX : n ≤ X.heap.size) : Below n w0 Y :=
  hb.trans ⟨h.os, h.tape, h.output, h.size, fun b hb => h.block b (by omega) (.inl (by omega))⟩
/-- The blocks from A to B lie as they lay. -/
structure Mid (A B : Nat) (X Y : World) : Prop where
  size : X.heap.size ≤ Y.heap.size
  block : ∀ b, A ≤ b → b < B → Y.heap[b]? = X.heap[b]?
theorem Mid.refl (A B : Nat) (X : World) : Mid A B X X := ⟨Nat.le_refl _, fun _ _ _ => rfl⟩
theorem Mid.trans {A B : Nat} {X Y Z : World} (h : Mid A B X Y) (k : Mid A B Y Z) : Mid A B X Z :=
  ⟨Nat.le_trans h.size k.size, fun b h1 h2 => (k.block b h1 h2).trans (h.block b h1 h2)⟩
theorem Mid.mono {A B A' B' : Nat} {X Y : World} (h : Mid A B X Y) (hA : A ≤ A') (hB : B' ≤ B) : Mid A' B' X Y :=
  ⟨h.size, fun b h1 h2 => h.block b (by omega) (by omega)⟩
theorem Mid.below {A B : Nat} {X Y : World} (h : Below B X Y) : Mid A B X Y := ⟨h.size, fun b _ h2 => h.block b h2⟩
theorem Mid.of_below {A B : Nat} {X Y : World} (h : Below X.heap.size X Y) (hB : B ≤ X.heap.size) : Mid A B X Y := ⟨h.size, fun b _ h2 => h.block b (by omega)⟩
theorem Mid.alloc {A B : Nat} (X : World) (o : Obj) (hB : B ≤ X.heap.size) : Mid A B X (X.alloc o) := ⟨by simp, fun b _ h2 => Below.heap_alloc _ _ _ (by omega)⟩
theorem Mid.drew {A B : Nat} (X : World) : Mid A B X X.drew := ⟨Nat.le_refl _, fun _ _ _ => rfl⟩
theorem Mid.setCell {A B : Nat} (X : World) (a : Addr) (v : Value) (h : a.block < A ∨ B ≤ a.block) : Mid A B X (X.setCell a v) :=
  ⟨by simp [World.setCell], fun b h1 h2 => Below.heap_setCell _ _ _ _ (by omega)⟩
theorem Mid.putObj {A B : Nat} (X : World) (l : Nat) (o : Obj) (h : l < A ∨ B ≤ l) : Mid A B X (X.putObj l o) :=
  ⟨by simp [World.putObj], fun b h1 h2 => World.putObj_heap_other (by omega)⟩
theorem Mid.grown {A B : Nat} {X Y : World} {row : Option Nat} (hg : X.grownBy Y row) (hX : B ≤ X.heap.size) (hr : ∀ k, row = some k → k < A ∨ B ≤ k) : Mid A B X Y :=
  ⟨hg.size, fun b h1 h2 => hg.block b (by omega) (fun e => by have := hr b e.symm; omega)⟩
/-- Some blocks lie as they lay. -/
def Held (hs : List Nat) (X Y : World) : Prop := ∀ b ∈ hs, Y.heap[b]? = X.heap[b]?
theorem Held.refl (hs : List Nat) (X : World) : Held hs X X := fun _ _ => rfl
theorem Held.trans {hs : List Nat} {X Y Z : World} (h : Held hs X Y) (k : Held hs Y Z) : Held hs X Z := fun b hb => (k b hb).trans (h b hb)
theorem Held.below {hs : List Nat} {X Y : World} {B : Nat} (h : Below B X Y) (hB : ∀ b ∈ hs, b < B) : Held hs X Y := fun b hb => h.block b (hB b hb)
theorem Held.off {hs : List Nat} {X Y : World} {A B : Nat} (h : Off A B X Y) (hA : ∀ b ∈ hs, b < A) (hX : A ≤ X.heap.size) : Held hs X Y := fun b hb => h.block b (by have := hA b hb; omega) (.inl (hA b hb))

theorem room_wide (k : Nat) : Fence.wide.room k := fun d h => by cases h
theorem RoundIn.anyN {m m' : Nat} {P : Program} {l : Nat} {f : FuncId} {tmps : Array Value} {assign body : Code} {w : World} {R : Ending → World → Prop}
    (h : RoundIn Fence.wide m P l f tmps assign body w R) : RoundIn Fence.wide m' P l f tmps assign body w R := ⟨h.1, fun c cs _ => h.2 c cs (room_wide _)⟩
theorem YieldAt.anyN {m : Nat} (m' : Nat) {P : Program} {l : Nat} {args : Array Value} {W : World} {R : Ending → World → Prop} (h : YieldAt Fence.wide m P l args W R) : YieldAt Fence.wide m' P l args W R := by
  obtain ⟨fn, tmps, assign, body, hy, hR⟩ := h
  exact ⟨fn, tmps, assign, body, hy, RoundIn.anyN hR⟩

/-- What a round of a loop over such an iterator keeps. -/
def RoundKeeps (A B : Nat) (hs : List Nat) (X Y : World) : Prop := Mid A B X Y ∧ Held hs X Y
theorem RoundKeeps.refl (A B : Nat) (hs : List Nat) (X : World) : RoundKeeps A B hs X X := ⟨Mid.refl .., Held.refl _ _⟩
theorem RoundKeeps.trans {A B : Nat} {hs : List Nat} {X Y Z : World} (h : RoundKeeps A B hs X Y) (k : RoundKeeps A B hs Y Z) : RoundKeeps A B hs X Z := ⟨h.1.trans k.1, h.2.trans k.2⟩
/-- The contract of an iterator that lays c blocks for its own state, and leaves the blocks hs to be read: it hands on N values, the j-th with El .. j. -/
def ItGives (P : Program) (gf : Nat) (lb : Array Value) (N c : Nat) (hs : List Nat) (El : Nat → Nat → Value → World → Prop) (w0 : World) : Prop :=
  ∀ (l : Nat) (J Jx : Nat → World → Prop) (W : World), w0.heap.size ≤ W.heap.size → Held hs w0 W →
    (∀ j X Y, J j X → Off W.heap.size (W.heap.size + c) X Y → J j Y) → (∀ j X Y, Jx j X → Off W.heap.size (W.heap.size + c) X Y → Jx j Y) →
    (∀ j x X, j < N → J j X → W.heap.size + c ≤ X.heap.size → El (W.heap.size + c) j x X → YieldAt Fence.wide 0 P l #[x] X fun e Y =>
      RoundKeeps W.heap.size (W.heap.size + c) hs X Y ∧ ((e = .returned (.bool true) ∧ J (j + 1) Y) ∨ (e = .returned (.bool false) ∧ Jx j Y))) →
    J 0 W →
    Calls P gf (#[.func (.yield l) #[] #[]] ++ lb) W fun e W' => (∃ v, e = .returned v) ∧ (J N W' ∨ ∃ j, j < N ∧ Jx j W')

/-- How the body of a round may be left. -/
def itPost (A B : Nat) (hs : List Nat) (I : Nat → World → Prop) (Ix : Code → Nat → World → Prop) (j : Nat) (W : World) : Exit → Act → World → Prop
  | .normal, _, W' => RoundKeeps A B hs W W' ∧ I (j + 1) W'
  | .ret, _, W' => RoundKeeps A B hs W W' ∧ Ix .ret j W'
  | .exit id, _, W' => RoundKeeps A B hs W W' ∧ Ix (.exit id) j W'
  | .goto t, _, W' => RoundKeeps A B hs W W' ∧ Ix (.goto t) j W'
  | .panic _, _, _ => False
  | .outgrown, _, _ => False

theorem wp_range {P : Program} {g : Operand} {ps : Array Tmp} {assign body : Code} {Q : Exit → Act → World → Prop} {a : Act} {w : World} {n : Nat}
    {gf : Nat} {lb : Array Value} (hg : a.eval g = .func (.func gf) #[] lb) (eg : ∀ args w, (callFunc gf args).run P w = .ok (.enter gf args) w)
    {N c : Nat} {hs : List Nat} {El : Nat → Nat → Value → World → Prop} {w0 : World} (hseq : ItGives P gf lb N c hs El w0) (hw0 : w0.heap.size ≤ w.heap.size) (hh0 : Held hs w0 w) (hhs : ∀ b ∈ hs, b < w0.heap.size) (hps : ps.size = 1)
    (I : Nat → World → Prop) (Ix : Code → Nat → World → Prop) (Ax : Nat → Act → World → Prop)
    (hI : ∀ j X Y, I j X → Off w.heap.size (w.heap.size + 2 + c) X Y → I j Y) (hIx : ∀ k j X Y, Ix k j X → Off w.heap.size (w.heap.size + 2 + c) X Y → Ix k j Y)
    (hAx : ∀ j a' X Y, Ax j a' X → Off w.heap.size (w.heap.size + 2 + c) X Y → Ax j a' Y) (h0 : I 0 w)
    (hassign : ∀ (l j : Nat) (x : Value) (W : World) (K : Act → World → Prop), j < N → I j W → w.heap.size + 2 + c ≤ W.heap.size → El (w.heap.size + 2 + c) j x W →
      (∀ a' W', RoundKeeps w.heap.size (w.heap.size + 2 + c) hs W W' → I j W' → Ax j a' W' → K a' W') →
      assign.wpIn (Fence.wide.inRound l) 0 P (Exit.then K (fun _ _ _ => False)) { tmps := (ps.zip #[x]).foldl (fun t (p, v) => t.setIfInBounds p v) a.tmps, defers := [] } W)
    (hbody : ∀ (l j : Nat) (a' : Act) (W : World), j < N → I j W → w.heap.size + 2 + c ≤ W.heap.size → Ax j a' W → body.wpIn (Fence.wide.inRound l) 0 P (itPost w.heap.size (w.heap.size + 2 + c) hs I Ix j W) a' W)
    (hdone : ∀ (D : Nat) (W : World), w.heap.size ≤ D → D < w.heap.size + 2 + c → I N W → W.heap[D]? = some (.deferred (some [])) → Q .normal { a with defers := { target := .collected D, args := #[] } :: a.defers } W)
    (hstop : ∀ (D : Nat) (k : Code) (j : Nat) (W : World), w.heap.size ≤ D → D < w.heap.size + 2 + c → j < N → Ix k j W → W.heap[D]? = some (.deferred (some [])) → k.wpIn Fence.wide n P Q { a with defers := { target := .collected D, args := #[] } :: a.defers } W) :
    (Code.rangeFunc g ps assign body).wpIn Fence.wide n P Q a w := by
  refine wpIn_rangeFunc ?_
  intro fn hfn
  show ∃ l mark w₁ d w₁' f args w₂, (Instr.enterLoop fn a.tmps ps assign body none).run P w = _ ∧ _
  obtain ⟨rec, hrec⟩ : ∃ rec : LoopState → Option Code → Loop, rec = fun st pe => { state := st, pending := pe, fn, tmps := a.tmps, params := ps, assign, body, defers := w.heap.size } := ⟨_, rfl⟩
  obtain ⟨W1, hW1⟩ : ∃ W1, (w.alloc (.deferred (some []))).alloc (.loop (rec .ready none)) = W1 := ⟨_, rfl⟩
  have hs1 : W1.heap.size = w.heap.size + 2 := by rw [← hW1]; simp
  have hL1 : W1.heap[w.heap.size + 1]? = some (.loop (rec .ready none)) := by
    rw [← hW1]; have := World.alloc_heap_new (w.alloc (.deferred (some []))) (.loop (rec .ready none)); rwa [World.size_alloc] at this
  have hK1 : W1.heap[w.heap.size]? = some (.deferred (some [])) := by
    rw [← hW1]; exact (Below.heap_alloc _ _ _ (by simp)).trans (World.alloc_heap_new w _)
  have hoff1 : ∀ {A B : Nat}, Off A B w W1 := by intro A B; rw [← hW1]; exact (Off.alloc _ _).trans (Off.alloc _ _)
  have hI1 : I 0 W1 := hI 0 _ _ h0 hoff1
  have hh1 : Held hs w0 W1 := hh0.trans (Held.off (hoff1 (A := w.heap.size) (B := w.heap.size)) (fun b hb => by have := hhs b hb; omega) (Nat.le_refl _))
  have hhw : ∀ b ∈ hs, b < w.heap.size := fun b hb => by have := hhs b hb; omega
  refine ⟨w.heap.size + 1, [{ target := .collected w.heap.size, args := #[] }], W1, { target := .fn (.func gf) lb, args := #[.func (.yield (w.heap.size + 1)) #[] #[]] }, W1, gf,
    #[.func (.yield (w.heap.size + 1)) #[] #[]] ++ lb, W1, ?_, ?_, ?_, ?_, fun h => (by cases h), ?_⟩
  · rw [← hW1, hrec]; exact run_enterLoop_outer _ _ _ _ _
  · simp only [resolve, hg]
    simp [go_sem]
  · intro f' hf'; trivial
  · simp [invoke, go_sem, eg]
  · have hgen := hseq (w.heap.size + 1)
      (fun j W => I j W ∧ W.heap[w.heap.size + 1]? = some (.loop (rec .ready none)) ∧ W.heap[w.heap.size]? = some (.deferred (some [])))
      (fun j W => ∃ k, Ix k j W ∧ W.heap[w.heap.size + 1]? = some (.loop (rec .done (some k))) ∧ W.heap[w.heap.size]? = some (.deferred (some [])))
      W1 (by omega) hh1
    rw [hs1] at hgen
    have hlow : ∀ {X Y : World} {o o' : Obj}, X.heap[w.heap.size + 1]? = some o → X.heap[w.heap.size]? = some o' → Off (w.heap.size + 2) (w.heap.size + 2 + c) X Y → Y.heap[w.heap.size + 1]? = some o ∧ Y.heap[w.heap.size]? = some o' := by
      intro X Y o o' h1 h2 hoff
      have hlt : w.heap.size + 1 < X.heap.size := (Array.getElem?_eq_some_iff.1 h1).1
      exact ⟨(hoff.block _ hlt (.inl (by omega))).trans h1, (hoff.block _ (by omega) (.inl (by omega))).trans h2⟩
    refine (callsIn_wide.2 (hgen ?_ ?_ ?_ ⟨hI1, hL1, hK1⟩)).mono ?_
    · rintro j X Y ⟨h1, h2, h3⟩ hoff
      exact ⟨hI j X Y h1 (hoff.mono (by omega) (Nat.le_refl _)), hlow h2 h3 hoff⟩
    · rintro j X Y ⟨k, h1, h2, h3⟩ hoff
      exact ⟨k, hIx k j X Y h1 (hoff.mono (by omega) (Nat.le_refl _)), hlow h2 h3 hoff⟩
    · rintro j x W hj ⟨hi, hl, hk⟩ hsz hel
      have hlt : w.heap.size + 1 < W.heap.size := (Array.getElem?_eq_some_iff.1 hl).1
      have hy := run_yield (P := P) (args := #[x]) hl (by rw [hrec]; exact hps.symm)
      rw [hrec] at hy
      refine ⟨fn, _, assign, body, hy, roundIn_of_wpIn hfn (hassign _ j x W _ hj hi hsz hel ?_)⟩
      clear hy
      intro a' Wa hkfa hia hax
      have hla := (hkfa.1.block (w.heap.size + 1) (by omega) (by omega)).trans hl
      have hka := (hkfa.1.block w.heap.size (by omega) (by omega)).trans hk
      have hlta : w.heap.size + 1 < Wa.heap.size := (Array.getElem?_eq_some_iff.1 hla).1
      refine ⟨_, run_beginRound hla (by rw [hrec]), ?_⟩
      have hl2 : (Wa.putObj (w.heap.size + 1) (.loop { rec .ready none with state := .busy })).heap[w.heap.size + 1]? = some (.loop { rec .ready none with state := .busy }) := World.putObj_heap_same hlta
      have hk2 : (Wa.putObj (w.heap.size + 1) (.loop { rec .ready none with state := .busy })).heap[w.heap.size]? = some (.deferred (some [])) := (World.putObj_heap_other (by omega)).trans hka
      have hoffp : ∀ (X : World) (o : Obj), Off w.heap.size (w.heap.size + 2 + c) X (X.putObj (w.heap.size + 1) o) := fun X o => Off.putObj X _ o (by omega)
      have hkp : ∀ (X : World) (o : Obj), RoundKeeps (w.heap.size + 2) (w.heap.size + 2 + c) hs X (X.putObj (w.heap.size + 1) o) := fun X o => ⟨Mid.putObj X _ o (.inl (by omega)), fun b hb => World.putObj_heap_other (by have := hhw b hb; omega)⟩
      have hszp : w.heap.size + 2 + c ≤ (Wa.putObj (w.heap.size + 1) (.loop { rec .ready none with state := .busy })).heap.size := by
        have h1 := hkfa.1.size
        have h2 : (Wa.putObj (w.heap.size + 1) (.loop { rec .ready none with state := .busy })).heap.size = Wa.heap.size := by simp [World.putObj]
        omega
      refine wpIn_mono (hbody _ j a' _ hj (hI _ _ _ hia (hoffp _ _)) hszp (hAx _ _ _ _ hax (hoffp _ _))) ?_
      have fin : ∀ (jump : Option Code) (W3 : World), RoundKeeps w.heap.size (w.heap.size + 2 + c) hs (Wa.putObj (w.heap.size + 1) (.loop { rec .ready none with state := .busy })) W3 →
          (Instr.endRound (w.heap.size + 1) jump).run P W3 = .ok (.bool jump.isNone) (W3.putObj (w.heap.size + 1) (.loop (rec (if jump.isNone then .ready else .done) jump))) ∧
          (W3.putObj (w.heap.size + 1) (.loop (rec (if jump.isNone then .ready else .done) jump))).heap[w.heap.size + 1]? = some (.loop (rec (if jump.isNone then .ready else .done) jump)) ∧
          (W3.putObj (w.heap.size + 1) (.loop (rec (if jump.isNone then .ready else .done) jump))).heap[w.heap.size]? = some (.deferred (some [])) ∧
          RoundKeeps (w.heap.size + 2) (w.heap.size + 2 + c) hs W (W3.putObj (w.heap.size + 1) (.loop (rec (if jump.isNone then .ready else .done) jump))) := fun jump W3 hk3 => by
        have hl3 := (hk3.1.block (w.heap.size + 1) (by omega) (by omega)).trans hl2
        have hkk : RoundKeeps (w.heap.size + 2) (w.heap.size + 2 + c) hs W W3 := (RoundKeeps.trans (⟨hkfa.1.mono (by omega) (Nat.le_refl _), hkfa.2⟩) (hkp _ _)).trans ⟨hk3.1.mono (by omega) (Nat.le_refl _), hk3.2⟩
        have := run_endRound (P := P) jump hl3
        rw [hrec] at this ⊢
        exact ⟨this, World.putObj_heap_same (Array.getElem?_eq_some_iff.1 hl3).1, (World.putObj_heap_other (by omega)).trans ((hk3.1.block w.heap.size (by omega) (by omega)).trans hk2), hkk.trans (hkp _ _)⟩
      rintro e a3 W3 hp
      cases e with
      | normal =>
        obtain ⟨hk3, hi3⟩ := hp
        obtain ⟨hr, hl4, hk4, hkp4⟩ := fin none W3 hk3
        exact ⟨_, _, hr, hkp4, .inl ⟨rfl, hI _ _ _ hi3 (hoffp _ _), hl4, hk4⟩⟩
      | ret =>
        obtain ⟨hk3, hi3⟩ := hp
        obtain ⟨hr, hl4, hk4, hkp4⟩ := fin (some .ret) W3 hk3
        exact ⟨_, _, hr, hkp4, .inr ⟨rfl, .ret, hIx _ _ _ _ hi3 (hoffp _ _), hl4, hk4⟩⟩
      | exit id =>
        obtain ⟨hk3, hi3⟩ := hp
        obtain ⟨hr, hl4, hk4, hkp4⟩ := fin (some (.exit id)) W3 hk3
        exact ⟨_, _, hr, hkp4, .inr ⟨rfl, .exit id, hIx _ _ _ _ hi3 (hoffp _ _), hl4, hk4⟩⟩
      | goto t =>
        obtain ⟨hk3, hi3⟩ := hp
        obtain ⟨hr, hl4, hk4, hkp4⟩ := fin (some (.goto t)) W3 hk3
        exact ⟨_, _, hr, hkp4, .inr ⟨rfl, .goto t, hIx _ _ _ _ hi3 (hoffp _ _), hl4, hk4⟩⟩
      | panic ch => exact hp.elim
      | outgrown => exact hp.elim
    · have hoffp : ∀ (X : World) (o : Obj), Off w.heap.size (w.heap.size + 2 + c) X (X.putObj (w.heap.size + 1) o) := fun X o => Off.putObj X _ o (by omega)
      rintro e W2 ⟨⟨v, rfl⟩, (⟨hi, hl, hk⟩ | ⟨j, hj, k, hi, hl, hk⟩)⟩
      · exact ⟨none, _, by have := run_endLoop (P := P) hl (by rw [hrec]; simp); rw [hrec] at this; exact this, hdone _ _ (Nat.le_refl _) (by omega) (hI _ _ _ hi (hoffp _ _)) ((World.putObj_heap_other (by omega)).trans hk)⟩
      · exact ⟨some k, _, by have := run_endLoop (P := P) hl (by rw [hrec]; simp); rw [hrec] at this; exact this, hstop _ k j _ (Nat.le_refl _) (by omega) hj (hIx _ _ _ _ hi (hoffp _ _)) ((World.putObj_heap_other (by omega)).trans hk)⟩
end Go.Proofs.Ytkjaddiagembaaa
/- Regions inside a round of a range over a function: what holds of a region elsewhere holds there. A function that leaves with marks. -/
namespace Go.Proofs.Ytkjaddiagembaaa
open Go.RowKit Go.Shelf
set_option linter.unusedVariables false

/-- No operation defers. -/
def plainOps (l : List Oper) : Bool := l.all fun o => match o.op with | .defer _ => false | _ => true
theorem plainOps_mem {l : List Oper} (h : plainOps l = true) {o : Oper} (ho : o ∈ l) : ∀ c, o.op ≠ .defer c := by
  intro c e
  have := List.all_eq_true.1 h o ho
  rw [e] at this
  cases this
theorem oper_in {l n : Nat} {P : Program} {o : Oper} {a : Act} {w : World} {K : Act → World → Prop} {Q : Exit → Act → World → Prop} (hd : ∀ c, o.op ≠ .defer c) (h : o.wp P a w K Q) : o.wpIn (Fence.wide.inRound l) n P a w K Q := by
  refine ⟨fun _ _ => trivial, ?_⟩
  rw [Oper.semAt_eq _ _ _ hd]
  unfold Oper.wp at h
  generalize (execOp a.eval o).run P w = r at *
  cases r with
  | ok x w' =>
    cases x
    case value v => exact h
    case skip => exact h
    case defer d => exact h
    case enter f args => exact ⟨fun h => (by cases h), callsIn_wide.2 h⟩
    case row row args =>
      refine ⟨fun h => (by cases h), fun c cs _ => ?_⟩
      obtain ⟨v, w', hR, hs⟩ := h c cs
      exact ⟨v, w', hR, stepsIn_wide.2 hs⟩
    all_goals exact h.elim
  | halt x w' =>
    cases x <;> first | exact h | exact h.elim
theorem any_in {l n : Nat} {P : Program} {md : Region.Mode} {ops : List Oper} {Q : Exit → Act → World → Prop} (hd : plainOps ops = true) (hQ : ¬ LetsOut Q) :
    ∀ (fuel : Nat) (listed : Array Bool) (a : Act) (w : World), wpAny P md ops.toArray Q fuel listed a w → wpAnyIn (Fence.wide.inRound l) n P md ops.toArray Q fuel listed a w := by
  intro fuel
  induction fuel with
  | zero => exact fun _ _ _ h => h
  | succ fuel ih =>
    intro listed a w h
    refine ⟨h.1, fun i hi => ?_⟩
    have h2 := h.2 i hi
    unfold wpOp at h2
    unfold wpOpIn
    cases ho : ops.toArray[i]? with
    | none => rw [ho] at h2; exact ih _ _ _ h2
    | some o =>
      rw [ho] at h2
      have hm : o ∈ ops := by
        rw [List.getElem?_toArray] at ho
        exact List.mem_of_getElem? ho
      show if _ then _ else _
      by_cases hw : Region.wanted o (yielded ops.toArray a.tmps) = true
      · simp only [hw, if_true] at h2 ⊢
        rcases h2 with h2 | h2
        · exact Oper.wpIn_mono (fun a w => ih _ a w) (oper_in (plainOps_mem hd hm) h2)
        · exact absurd h2.2 hQ
      · simp only [hw] at h2 ⊢
        exact ⟨fun _ _ => trivial, ih _ _ _ h2⟩
/-- A region that draws its order, inside a round, as outside. -/
theorem region_in_held {l n : Nat} {P : Program} {id : Nat} {ops : List Oper} {Q : Exit → Act → World → Prop} {a : Act} {w : World} {S : World → Prop} (hm : P.follows .mixedOrders = true) (hd : plainOps ops = true) (hQ : ¬ LetsOut Q)
    (hS : S w.drew) (h : S w.drew → wpAnyH P .any ops.toArray Q S ops.toArray.size (Array.replicate ops.toArray.size false) a w.drew) : (Code.region id ops.toArray true).wpIn (Fence.wide.inRound l) n P Q a w :=
  wpIn_region_any hm (any_in hd hQ _ _ _ _ (wpAny_of_held _ _ _ _ (h hS)))
theorem list_in {l n : Nat} {P : Program} {all : List Oper} {Q : Exit → Act → World → Prop} (hQ : ¬ LetsOut Q) :
    ∀ (ops : List Oper) (a : Act) (w : World), plainOps ops = true → wpList P all.toArray Q ops a w → wpListIn (Fence.wide.inRound l) n P all.toArray Q ops a w := by
  intro ops
  induction ops with
  | nil => exact fun _ _ _ h => h
  | cons o rest ih =>
    intro a w hd h
    have hd2 : plainOps rest = true := List.all_eq_true.2 fun x hx => List.all_eq_true.1 hd x (List.mem_cons_of_mem _ hx)
    unfold wpList at h
    unfold wpListIn
    by_cases hw : Region.wanted o (yielded all.toArray a.tmps) = true
    · simp only [hw, if_true] at h ⊢
      rcases h with h | h
      · exact Oper.wpIn_mono (fun a w h => ih a w hd2 h) (oper_in (plainOps_mem hd (List.mem_cons_self ..)) h)
      · exact absurd h.2 hQ
    · simp only [hw] at h ⊢
      exact ⟨fun _ _ => trivial, ih _ _ hd2 h⟩
theorem region_in_list {l n : Nat} {P : Program} {id : Nat} {ops : List Oper} {Q : Exit → Act → World → Prop} {a : Act} {w : World} (hd : plainOps ops = true) (hQ : ¬ LetsOut Q) (h : wpList P ops.toArray Q ops a w) : (Code.region id ops.toArray false).wpIn (Fence.wide.inRound l) n P Q a w :=
  wpIn_region_lit (list_in hQ _ _ _ hd h)

/-- What is left of the world when the marks are taken over. -/
structure Unmarked (Ds : List Nat) (X Y : World) : Prop where
  os : Y.os = X.os
  tape : Y.tape = X.tape
  output : Y.output = X.output
  size : Y.heap.size = X.heap.size
  block : ∀ b, b ∉ Ds → Y.heap[b]? = X.heap[b]?
theorem leaves_marks {F : Fence} {n : Nat} {P : Program} {fn : Func} {tmps : Array Value} {R : Ending → World → Prop} : ∀ (Ds : List Nat) (w : World), (∀ D ∈ Ds, w.heap[D]? = some (.deferred (some []))) → Ds.Nodup →
    (∀ w', Unmarked Ds w w' → LeavesIn F n P fn tmps R [] .returning w') → LeavesInM F n P fn tmps R (Ds.map fun D => { target := .collected D, args := #[] }) .returning w := by
  intro Ds
  induction Ds with
  | nil => exact fun w _ _ h => h w ⟨rfl, rfl, rfl, rfl, fun _ _ => rfl⟩
  | cons D Ds ih =>
    intro w hm hn h
    obtain ⟨hnD, hn2⟩ := List.nodup_cons.1 hn
    refine ⟨by simp, .inl ⟨D, w.putObj D (.deferred none), rfl, run_takeDeferred (hm D (List.mem_cons_self ..)), ?_⟩⟩
    refine ih _ (fun E hE => ?_) hn2 (fun w' hu => h w' ?_)
    · have : E ≠ D := fun e => hnD (e ▸ hE)
      exact (World.putObj_heap_other this).trans (hm E (List.mem_cons_of_mem _ hE))
    · refine ⟨hu.os, hu.tape, hu.output, hu.size.trans (by simp [World.putObj]), fun b hb => ?_⟩
      have h1 : b ≠ D := fun e => hb (e ▸ List.mem_cons_self ..)
      have h2 : b ∉ Ds := fun e => hb (List.mem_cons_of_mem _ e)
      exact (hu.block b h2).trans (World.putObj_heap_other h1)
theorem Unmarked.below {Ds : List Nat} {n : Nat} {w X Y : World} (h : Unmarked Ds X Y) (hb : Below n w X) (hD : ∀ D ∈ Ds, n ≤ D) : Below n w Y :=
  hb.trans ⟨h.os, h.tape, h.output, by rw [h.size]; exact Nat.le_refl _, fun b hb => h.block b (fun e => by have := hD b e; omega)⟩
end Go.Proofs.Ytkjaddiagembaaa
