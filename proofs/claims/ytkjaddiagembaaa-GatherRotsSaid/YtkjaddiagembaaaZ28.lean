/- Texts that belong together: GaX. -/
import Derived.SizedLaws
import Derived.Deep.Slices
import Derived.Test.YtkjaddiagembaaaZ27
import Derived.Test.YtkjaddiagembaaaZ5
import Derived.Test.YtkjaddiagembaaaZ6
/- The laws of Gather: what they share. -/
namespace Go.Proofs.Ytkjaddiagembaaa
open Go.RowKit Go.ChangeShapes Go.WideShapes Go.Deep
set_option linter.unusedVariables false
set_option maxRecDepth 100000

theorem sized_lenG {P : Program} {H : Type} {enc : TypeId × Value → H} {ts : List TypeId} {ds : List (DataW H)} {w : World} {base : Nat} {spare : Nat → Bool} {held : Bool} {j : Nat} {t e : TypeId} {d : DataW H} {p : List MemPlace} {a : Option Addr} {len cap : Nat}
    (h : (DataW.weightsEach P ts ds).all (· ≤ reachBytes) = true) (ht : ts[j]? = some t) (hd : ds[j]? = some d) (hu : P.underlying t = some (.slice e)) (hk : DataW.Trod enc P w base spare held t (.slice a len cap) d p) : len * P.bytesOf e ≤ reachBytes := by
  obtain ⟨fuel, hf⟩ := hk
  rcases open_slice hu hf with ⟨h1, _⟩ | ⟨a, len', cap', m, n, D, Pl, h1, _, _, _, _, hx, _⟩
  · simp [Value.cells] at h1
    obtain ⟨_, rfl, _⟩ := h1
    simp
  · simp [Value.cells] at h1
    obtain ⟨_, rfl, _⟩ := h1
    simp only [Prod.mk.injEq] at hx
    rw [hx.1] at hd
    have := sized_slice h ht hd hu
    simp only [List.length_map, List.length_range] at this
    exact Nat.le_trans (Nat.mul_le_mul_right _ (Nat.le_add_right _ _)) this
theorem int_bytesG : Try.prog.bytesOf 3 = 8 := by kernel_rfl
theorem opens_intsG : Opens Try.prog 23 (Lay.int .i64).slice := opens_slice Try.underlying23 (opens_int Try.underlying3) (by kernel_rfl)
theorem opens_bytesG : Opens Try.prog 22 (Lay.int .u8).slice := opens_slice Try.underlying22 (opens_int Try.underlying5) (by kernel_rfl)

theorem flatten_set_two (l : List (List Value)) (u v : Value) : ∀ (i : Nat), (∀ x ∈ l, x.length = 2) → i < l.length → (l.set i [u, v]).flatten = (l.flatten.set (i * 2) u).set (i * 2 + 1) v := by
  induction l with
  | nil => intro i _ hi; simp at hi
  | cons x l ih =>
    intro i h hi
    have hx := h x (List.mem_cons_self ..)
    match x, hx with
    | [p, q], _ =>
      cases i with
      | zero => simp
      | succ i =>
        have := ih i (fun y hy => h y (List.mem_cons_of_mem _ hy)) (by simpa using hi)
        simp only [List.set_cons_succ, List.flatten_cons, this]
        rw [show (i + 1) * 2 = i * 2 + 1 + 1 by omega]
        rfl
theorem Pt.set {α : Type} {L : Lay α} {w : World} {F : Nat → Prop} {xs : List α} {vss : List (List Value)} (h : Pt L w F xs vss) (i : Nat) {x : α} {vs : List Value} (hx : L.at_ w F x vs) : Pt L w F (xs.set i x) (vss.set i vs) := by
  refine ⟨by simp [h.1], fun j y us hy hu => ?_⟩
  by_cases e : i = j
  · subst e
    rw [List.getElem?_set] at hy hu
    simp only [if_true] at hy hu
    split at hy
    · simp at hy
      split at hu
      · simp at hu; rw [← hy, ← hu]; exact hx
      · cases hu
    · cases hy
  · rw [List.getElem?_set_ne e] at hy hu
    exact h.2 j y us hy hu
/-- One element of two cells written anew. -/
theorem SOwn.put_two {α : Type} {L : Lay α} (h2 : L.size = 2) {w : World} {base : Nat} {e : TypeId} {G : Nat → Prop} {g len cap : Nat} {xs : List α} (h : SOwn L w base e G (some ⟨g, 0, none⟩) len cap xs) (i : Nat) (hi : i < len) {x : α} {u v : Value} {F2 : Nat → Prop}
    (hx : L.at_ w F2 x [u, v]) (hF2 : ∀ b, F2 b → G b ∧ b < w.heap.size ∧ b ≠ g) :
    SOwn L ((w.setCell ⟨g, i * 2, none⟩ u).setCell ⟨g, i * 2 + 1, none⟩ v) base e G (some ⟨g, 0, none⟩) len cap (xs.set i x) := by
  obtain ⟨hl, vss, F, ho, hp, hF⟩ := h
  have s1 := World.ownsRow.stored ho (i * 2) u
  have s2 := World.ownsRow.stored s1.1 (i * 2 + 1) v
  have hsz : ∀ y ∈ vss, y.length = 2 := fun y hy => (hp.sizes y hy).trans h2
  have hkeep : ∀ b, b < w.heap.size → b ≠ g → ((w.setCell ⟨g, i * 2, none⟩ u).setCell ⟨g, i * 2 + 1, none⟩ v).heap[b]? = w.heap[b]? := by
    intro b hb hne
    rw [s2.2.block b (Nat.lt_of_lt_of_le hb s1.2.size) (by intro e'; injection e' with e'; exact hne e'), s1.2.block b hb (by intro e'; injection e' with e'; exact hne e')]
  refine ⟨by simp [hl], vss.set i [u, v], fun b => F b ∨ F2 b, ?_, ?_, ?_⟩
  · rw [flatten_set_two vss u v i hsz (by rw [← hp.1, hl]; exact hi)]
    exact s2.1
  · have hp1 : Pt L w (fun b => F b ∨ F2 b) xs vss := hp.keep (fun b hb => .inl hb) (fun _ _ _ => rfl)
    have hp2 := hp1.set i (L.keep hx (fun b hb => Or.inr hb) (fun _ _ _ => rfl) : L.at_ w (fun b => F b ∨ F2 b) x [u, v])
    refine hp2.keep (fun _ hb => hb) (fun b hb hlt => hkeep b hlt ?_)
    rcases hb with hb | hb
    · intro e'; exact (hF b hb).2.2 (by rw [e']; rfl)
    · exact (hF2 b hb).2.2
  · intro b hb
    have hs : w.heap.size ≤ ((w.setCell ⟨g, i * 2, none⟩ u).setCell ⟨g, i * 2 + 1, none⟩ v).heap.size := Nat.le_trans s1.2.size s2.2.size
    rcases hb with hb | hb
    · exact ⟨(hF b hb).1, Nat.lt_of_lt_of_le (hF b hb).2.1 hs, (hF b hb).2.2⟩
    · exact ⟨(hF2 b hb).1, Nat.lt_of_lt_of_le (hF2 b hb).2.1 hs, by intro e'; injection e' with e'; exact (hF2 b hb).2.2 e'.symm⟩
/-- The second cell of an element of two cells written anew. -/
theorem SOwn.put_snd2 {α : Type} {L : Lay α} (h2 : L.size = 2) {w : World} {base : Nat} {e : TypeId} {G : Nat → Prop} {g len cap : Nat} {xs : List α} (h : SOwn L w base e G (some ⟨g, 0, none⟩) len cap xs) (i : Nat) (hi : i < len) {x : α} {v : Value} {F2 : Nat → Prop}
    (hx : ∀ (F : Nat → Prop) y u v0, xs[i]? = some y → L.at_ w F y [u, v0] → L.at_ w (fun b => F b ∨ F2 b) x [u, v]) (hF2 : ∀ b, F2 b → G b ∧ b < w.heap.size ∧ b ≠ g) :
    SOwn L (w.setCell ⟨g, i * 2 + 1, none⟩ v) base e G (some ⟨g, 0, none⟩) len cap (xs.set i x) := by
  obtain ⟨hl, vss, F, ho, hp, hF⟩ := h
  have hsz : ∀ y ∈ vss, y.length = 2 := fun y hy => (hp.sizes y hy).trans h2
  have hiv : i < vss.length := by rw [← hp.1, hl]; exact hi
  have hix : i < xs.length := by rw [hl]; exact hi
  obtain ⟨u, v0, huv⟩ : ∃ u v0, vss[i] = [u, v0] := by
    have := hsz _ (List.getElem_mem hiv)
    match hq : vss[i], this with
    | [p, q], _ => exact ⟨p, q, rfl⟩
  have s2 := World.ownsRow.stored ho (i * 2 + 1) v
  have hkeep : ∀ b, b < w.heap.size → b ≠ g → (w.setCell ⟨g, i * 2 + 1, none⟩ v).heap[b]? = w.heap[b]? := by
    intro b hb hne
    exact s2.2.block b hb (by intro e'; injection e' with e'; exact hne e')
  have hfl : vss.flatten.set (i * 2) u = vss.flatten := by
    apply List.ext_getElem?
    intro j
    rw [List.getElem?_set]
    split
    · rename_i hj
      subst hj
      have := flatten_at 2 vss hsz i 0 (by decide)
      rw [List.getElem?_eq_getElem hiv, huv] at this
      simp only [Nat.add_zero] at this
      rw [this]
      split
      · rfl
      · rename_i hn
        rw [List.getElem?_eq_none (by omega)] at this
        cases this
    · rfl
  refine ⟨by simp [hl], vss.set i [u, v], fun b => F b ∨ F2 b, ?_, ?_, ?_⟩
  · rw [flatten_set_two vss u v i hsz hiv, hfl]
    exact s2.1
  · have h0 := hp.2 i _ _ (List.getElem?_eq_getElem hix) (List.getElem?_eq_getElem hiv)
    rw [huv] at h0
    have h1 := hx F _ u v0 (List.getElem?_eq_getElem hix) h0
    have hp1 : Pt L w (fun b => F b ∨ F2 b) xs vss := hp.keep (fun b hb => .inl hb) (fun _ _ _ => rfl)
    refine (hp1.set i h1).keep (fun _ hb => hb) (fun b hb hlt => hkeep b hlt ?_)
    rcases hb with hb | hb
    · intro e'; exact (hF b hb).2.2 (by rw [e']; rfl)
    · exact (hF2 b hb).2.2
  · intro b hb
    rcases hb with hb | hb
    · exact ⟨(hF b hb).1, Nat.lt_of_lt_of_le (hF b hb).2.1 s2.2.size, (hF b hb).2.2⟩
    · exact ⟨(hF2 b hb).1, Nat.lt_of_lt_of_le (hF2 b hb).2.1 s2.2.size, by intro e'; injection e' with e'; exact (hF2 b hb).2.2 e'.symm⟩
/-- The cells of an element of two cells: there, and to be written. -/
theorem SOwn.cells_two {α : Type} {L : Lay α} (h2 : L.size = 2) {w : World} {base : Nat} {e : TypeId} {G : Nat → Prop} {g len cap : Nat} {xs : List α} (h : SOwn L w base e G (some ⟨g, 0, none⟩) len cap xs) (i : Nat) (hi : i < len) :
    (∃ u, w.cell? ⟨g, i * 2, none⟩ = some u) ∧ (∃ v, w.cell? ⟨g, i * 2 + 1, none⟩ = some v) ∧ w.frozen? ⟨g, i * 2, none⟩ = false ∧ w.frozen? ⟨g, i * 2 + 1, none⟩ = false := by
  obtain ⟨hl, vss, F, ho, hp, hF⟩ := h
  have hln : vss.flatten.length = len * 2 := by have := ho.1; rw [h2] at this; exact this
  have c1 := World.ownsRow.cellAt ho (i * 2) (by rw [h2]; omega)
  have c2 := World.ownsRow.cellAt ho (i * 2 + 1) (by rw [h2]; omega)
  exact ⟨⟨_, c1.trans (List.getElem?_eq_getElem (by omega))⟩, ⟨_, c2.trans (List.getElem?_eq_getElem (by omega))⟩, World.ownsRow.frozenAt ho _, World.ownsRow.frozenAt ho _⟩
theorem SOwn.some {α : Type} {L : Lay α} {w : World} {base : Nat} {e : TypeId} {G : Nat → Prop} {a : Option Addr} {len cap : Nat} {xs : List α} (h : SOwn L w base e G a len cap xs) (hl : 0 < len) : ∃ g, a = .some ⟨g, 0, none⟩ := by
  obtain ⟨_, _, _, ho, _, _⟩ := h
  rcases ho.2 with ⟨_, h2⟩ | ⟨g, c, cur, hv, _⟩
  · omega
  · injection hv with hv; exact ⟨g, hv⟩
/-- All blocks but one lie as they lay. -/
structure Only (g : Nat) (X Y : World) : Prop where
  os : Y.os = X.os
  tape : Y.tape = X.tape
  output : Y.output = X.output
  size : X.heap.size ≤ Y.heap.size
  block : ∀ b, b < X.heap.size → b ≠ g → Y.heap[b]? = X.heap[b]?
theorem Only.refl (g : Nat) (X : World) : Only g X X := ⟨rfl, rfl, rfl, Nat.le_refl _, fun _ _ _ => rfl⟩
theorem Only.trans {g : Nat} {X Y Z : World} (h : Only g X Y) (k : Only g Y Z) : Only g X Z :=
  ⟨k.os.trans h.os, k.tape.trans h.tape, k.output.trans h.output, Nat.le_trans h.size k.size, fun b hb hn => (k.block b (Nat.lt_of_lt_of_le hb h.size) hn).trans (h.block b hb hn)⟩
theorem Only.setCell {g : Nat} (X : World) (o : Nat) (v : Value) : Only g X (X.setCell ⟨g, o, none⟩ v) := ⟨rfl, rfl, rfl, by simp [World.setCell], fun b _ hn => Below.heap_setCell _ _ _ _ hn⟩
theorem Only.below {g : Nat} {X Y : World} (h : Below X.heap.size X Y) : Only g X Y := ⟨h.os, h.tape, h.output, h.size, fun b hb _ => h.block b hb⟩
theorem Only.low {g n : Nat} {X Y : World} (h : Only g X Y) (hg : n ≤ g) (hX : n ≤ X.heap.size) : Below n X Y := ⟨h.os, h.tape, h.output, h.size, fun b hb => h.block b (by omega) (by omega)⟩

/-! ### pieces -/
def lose (ps : List (Bool × List Int)) (gs : List Nat) : List (Bool × List Int) := gs.foldl (fun ps c => ps.set c (true, [])) ps
theorem lose_len (gs : List Nat) : ∀ ps, (lose ps gs).length = ps.length := by
  induction gs with
  | nil => intro ps; rfl
  | cons c gs ih => intro ps; show (lose (ps.set c (true, [])) gs).length = _; rw [ih]; simp
theorem lose_snoc (ps : List (Bool × List Int)) (gs : List Nat) (c : Nat) : lose ps (gs ++ [c]) = (lose ps gs).set c (true, []) := by simp [lose]
theorem lose_get (gs : List Nat) (c : Nat) : ∀ ps : List (Bool × List Int), c < ps.length → (lose ps gs).getD c (false, []) = if c ∈ gs then (true, []) else ps.getD c (false, []) := by
  induction gs with
  | nil => intro ps h; simp [lose]
  | cons d gs ih =>
    intro ps h
    show (lose (ps.set d (true, [])) gs).getD c (false, []) = _
    rw [ih _ (by simpa using h)]
    by_cases h1 : c ∈ gs
    · rw [if_pos h1, if_pos (List.mem_cons_of_mem _ h1)]
    · rw [if_neg h1]
      by_cases h2 : d = c
      · subst h2
        rw [if_pos (List.mem_cons_self ..)]
        simp [List.getD, h]
      · rw [if_neg (by simp [h1]; exact fun e => h2 e.symm)]
        simp [List.getD, List.getElem?_set_ne h2]
theorem pieces_len (b : Blk) (pd : List Int) (n : Nat) : (pieces b pd n).length = n := by simp [pieces]
theorem pieces_get (b : Blk) (pd : List Int) {n c : Nat} (h : c < n) : (pieces b pd n).getD c (false, []) = (false, b.col pd c) := by simp [pieces, List.getD, h]
theorem take_snocN {gs : List Nat} {i : Nat} (h : i < gs.length) : gs.take (i + 1) = gs.take i ++ [gs.getD i 0] := by
  rw [List.take_succ_eq_append_getElem h]
  simp [List.getD, h]
theorem several_filter (l : List Int) (most n : Nat) : ∃ q : Nat → Bool, several l most n = (List.range n).filter q := ⟨_, rfl⟩
theorem several_few' {n most : Nat} (hn : 0 < n) (l : List Int) : (several l most n).length ≤ most := by
  have h0 : SevOk n most (List.replicate n false, 0) := ⟨List.length_replicate, (replicate_cnt n n).symm, Nat.zero_le _⟩
  obtain ⟨b1, _, _⟩ := sevFold_ok hn l _ h0
  show (sevTo (sevRun n most l).1 n).length ≤ most
  unfold sevRun
  rw [sevTo_count, ← b1.2.1]
  exact b1.2.2
/-- What is lost is what was lost. -/
theorem lostOf_is {ps : List (Bool × List Int)} {n : Nat} {gs : List Nat} {q : Nat → Bool} (hg : gs = (List.range n).filter q) (h : ∀ c, c < n → (ps.getD c (false, [])).1 = decide (c ∈ gs)) : lostOf ps n = gs := by
  unfold lostOf
  have e : gs = (List.range n).filter fun c => decide (c ∈ gs) := by
    conv => lhs; rw [hg]
    refine List.filter_congr fun c hc => ?_
    rw [hg]
    by_cases hq : q c = true
    · rw [hq]; exact (decide_eq_true (List.mem_filter.2 ⟨hc, hq⟩)).symm
    · have hq' : q c = false := by simpa using hq
      rw [hq']
      exact (decide_eq_false (fun h => hq (List.mem_filter.1 h).2)).symm
  conv => rhs; rw [e]
  exact List.filter_congr fun c hc => h c (List.mem_range.1 hc)
end Go.Proofs.Ytkjaddiagembaaa
