/- Rows of numbers, each in a block of its own; beside. -/
import Derived.Test.YtkfjkdonbmjniaaMtO
import Derived.Test.YtkfjkdonbmjniaaMtR
import Derived.Laws.CopyOwn
namespace Go.Proofs.Ytkfjkdonbmjniaa
open Go.RowKit
set_option linter.unusedVariables false
set_option maxRecDepth 100000

def rowV (C : Nat) (b : Nat) : Value := .slice (some ⟨b, 0, none⟩) C C
/-- Rows of C numbers, each in a block of its own. -/
structure Nst (w : World) (B : Nat) (a : Option Addr) (r cap C : Nat) (bs : List Nat) (M : List (List Int)) : Prop where
  out : Own w B 29 1 a r cap (bs.map (rowV C))
  lb : bs.length = r
  rect : Rect M r C
  nd : ∀ i j, i < r → j < r → bs.getD i 0 = bs.getD j 0 → i = j
  row : ∀ i, i < r → Box w (bs.getD i 0) ((M.getD i []).map (Value.int .i64)).toArray 3 ∧ B ≤ bs.getD i 0
theorem Nst.below {w w' : World} {B : Nat} {a : Option Addr} {r cap C : Nat} {bs : List Nat} {M : List (List Int)} (h : Nst w B a r cap C bs M) (hb : Below w.heap.size w w') : Nst w' B a r cap C bs M :=
  ⟨h.out.below hb, h.lb, h.rect, h.nd, fun i hi => ⟨(h.row i hi).1.below hb (h.row i hi).1.lt, (h.row i hi).2⟩⟩
theorem Nst.lt {w : World} {B : Nat} {a : Option Addr} {r cap C : Nat} {bs : List Nat} {M : List (List Int)} (h : Nst w B a r cap C bs M) (i : Nat) (hi : i < r) : bs.getD i 0 < w.heap.size := (h.row i hi).1.lt
theorem Nst.cell {w : World} {B g : Nat} {r cap C : Nat} {bs : List Nat} {M : List (List Int)} (h : Nst w B (some ⟨g, 0, none⟩) r cap C bs M) (i : Nat) (hi : i < r) : w.cell? ⟨g, i, none⟩ = some (.slice (some ⟨bs.getD i 0, 0, none⟩) C C) := by
  rw [World.ownsRow.cellAt h.out i (by omega), List.getElem?_map]
  have hl : i < bs.length := by rw [h.lb]; exact hi
  rw [List.getElem?_eq_getElem hl]
  simp [rowV, List.getD, hl]
theorem Nst.at {w : World} {B : Nat} {a : Option Addr} {r cap C : Nat} {bs : List Nat} {M : List (List Int)} (h : Nst w B a r cap C bs M) (i k : Nat) (hi : i < r) (hk : k < C) : w.cell? ⟨bs.getD i 0, k, none⟩ = some (.int .i64 ((M.getD i []).getD k 0)) := by
  rw [(h.row i hi).1.cell k]
  have hl : k < (M.getD i []).length := by rw [(h.rect.get i hi).1]; exact hk
  generalize M.getD i [] = x at *
  simp [List.getD, List.getElem?_eq_getElem hl]
theorem Nst.ne {w : World} {B g : Nat} {r cap C : Nat} {bs : List Nat} {M : List (List Int)} (h : Nst w B (some ⟨g, 0, none⟩) r cap C bs M) (i : Nat) (hi : i < r) : bs.getD i 0 ≠ g := by
  intro e
  rcases h.out.form with ⟨h0, _⟩ | ⟨g', cur, hg, _, hh, _⟩
  · cases h0
  obtain rfl : g = g' := by injection hg with hg; injection hg
  have := (h.row i hi).1
  rw [e] at this
  unfold Box at this
  rw [hh] at this
  injection this with this
  injection this with _ h2
  exact absurd h2 (by decide)
/-- One number written. -/
theorem Nst.put {w : World} {B g : Nat} {r cap C : Nat} {bs : List Nat} {M : List (List Int)} (h : Nst w B (some ⟨g, 0, none⟩) r cap C bs M) (i k : Nat) (hi : i < r) (hk : k < C) (v : Int) (hv : 0 ≤ v ∧ v ≤ 255) :
    Nst (w.setCell ⟨bs.getD i 0, k, none⟩ (.int .i64 v)) B (some ⟨g, 0, none⟩) r cap C bs (M.set i ((M.getD i []).set k v)) := by
  obtain ⟨hlen, hel⟩ := h.rect.get i hi
  have hMl : i < M.length := by rw [h.rect.1]; exact hi
  refine ⟨?_, h.lb, h.rect.set i ⟨by rw [List.length_set, hlen], fun x hx => ?_⟩, h.nd, fun j hj => ?_⟩
  · refine ⟨h.out.1, ?_⟩
    rcases h.out.2 with h0 | ⟨g', c', cur, hv', hbg, hgg, rr⟩
    · exact .inl h0
    · refine .inr ⟨g', c', cur, hv', hbg, ?_, rr⟩
      obtain rfl : g = g' := by injection hv' with e _ _; injection e with e; injection e
      rw [Below.heap_setCell w ⟨bs.getD i 0, k, none⟩ _ g (fun e => h.ne i hi (by exact e.symm))]
      exact hgg
  · rcases List.mem_or_eq_of_mem_set hx with h1 | h1
    · exact hel x h1
    · rw [h1]; exact hv
  · refine ⟨?_, (h.row j hj).2⟩
    rw [getD_set_eq _ _ _ _ hMl]
    by_cases e : j = i
    · subst e
      rw [if_pos rfl, List.map_set]
      have := (h.row j hj).1.set k (.int .i64 v)
      rwa [List.setIfInBounds_toArray] at this
    · rw [if_neg e]
      exact (h.row j hj).1.other _ (fun e2 => e (h.nd j i hj hi e2.symm)) _
def swapB (bs : List Nat) (p q : Nat) : List Nat := (bs.set p (bs.getD q 0)).set q (bs.getD p 0)
theorem getDB_set (bs : List Nat) (i j x : Nat) (hi : i < bs.length) : (bs.set i x).getD j 0 = if j = i then x else bs.getD j 0 := by
  rw [List.getD, List.getElem?_set]
  by_cases h : i = j
  · rw [if_pos h, if_pos h.symm, if_pos hi]; rfl
  · rw [if_neg h, if_neg (fun e => h e.symm)]; rfl
theorem swapB_getD (bs : List Nat) (p q i : Nat) (hp : p < bs.length) (hq : q < bs.length) : (swapB bs p q).getD i 0 = bs.getD (if i = p then q else if i = q then p else i) 0 := by
  unfold swapB
  rw [getDB_set _ _ _ _ (by rw [List.length_set]; exact hq), getDB_set _ _ _ _ hp]
  by_cases h1 : i = q
  · rw [if_pos h1]
    by_cases h2 : i = p
    · rw [if_pos h2, ← h2, h1]
    · rw [if_neg h2, if_pos h1]
  · rw [if_neg h1]
    by_cases h2 : i = p
    · rw [if_pos h2, if_pos h2]
    · rw [if_neg h2, if_neg h2, if_neg h1]
theorem sw_lt {p q r i : Nat} (hp : p < r) (hq : q < r) (hi : i < r) : (if i = p then q else if i = q then p else i) < r := by
  split
  · exact hq
  · split <;> assumption
theorem sw_inj {p q i j : Nat} (h : (if i = p then q else if i = q then p else i) = (if j = p then q else if j = q then p else j)) : i = j := by
  (repeat' split at h) <;> omega
/-- Two rows change places: their slices are written in the one order .. -/
theorem Nst.swap {w : World} {B g : Nat} {r cap C : Nat} {bs : List Nat} {M : List (List Int)} (h : Nst w B (some ⟨g, 0, none⟩) r cap C bs M) (p q : Nat) (hp : p < r) (hq : q < r) :
    Nst ((w.setCell ⟨g, p, none⟩ (.slice (some ⟨bs.getD q 0, 0, none⟩) C C)).setCell ⟨g, q, none⟩ (.slice (some ⟨bs.getD p 0, 0, none⟩) C C)) B (some ⟨g, 0, none⟩) r cap C (swapB bs p q) (swapR M p q) := by
  have s1 := World.ownsRow.stored h.out p (.slice (some ⟨bs.getD q 0, 0, none⟩) C C)
  have s2 := World.ownsRow.stored s1.1 q (.slice (some ⟨bs.getD p 0, 0, none⟩) C C)
  have hpb : p < bs.length := by rw [h.lb]; exact hp
  have hqb : q < bs.length := by rw [h.lb]; exact hq
  refine ⟨?_, by unfold swapB; rw [List.length_set, List.length_set, h.lb], swapR_rect h.rect p q hp hq, fun i j hi hj he => ?_, fun i hi => ?_⟩
  · have e : (swapB bs p q).map (rowV C) = ((bs.map (rowV C)).set p (.slice (some ⟨bs.getD q 0, 0, none⟩) C C)).set q (.slice (some ⟨bs.getD p 0, 0, none⟩) C C) := by
      unfold swapB; rw [List.map_set, List.map_set]; rfl
    rw [e]; exact s2.1
  · rw [swapB_getD _ _ _ _ hpb hqb, swapB_getD _ _ _ _ hpb hqb] at he
    exact sw_inj (h.nd _ _ (sw_lt hp hq hi) (sw_lt hp hq hj) he)
  · rw [swapB_getD _ _ _ _ hpb hqb, swapR_getD _ _ _ _ (by rw [h.rect.1]; exact hp) (by rw [h.rect.1]; exact hq)]
    obtain ⟨h1, h2⟩ := h.row _ (sw_lt hp hq hi)
    refine ⟨?_, h2⟩
    have hn := h.ne _ (sw_lt hp hq hi)
    exact (h1.other ⟨g, p, none⟩ (fun e => hn e.symm) _).other ⟨g, q, none⟩ (fun e => hn e.symm) _
/-- .. or in the other. -/
theorem Nst.swap' {w : World} {B g : Nat} {r cap C : Nat} {bs : List Nat} {M : List (List Int)} (h : Nst w B (some ⟨g, 0, none⟩) r cap C bs M) (p q : Nat) (hp : p < r) (hq : q < r) :
    Nst ((w.setCell ⟨g, q, none⟩ (.slice (some ⟨bs.getD p 0, 0, none⟩) C C)).setCell ⟨g, p, none⟩ (.slice (some ⟨bs.getD q 0, 0, none⟩) C C)) B (some ⟨g, 0, none⟩) r cap C (swapB bs p q) (swapR M p q) := by
  have hs := h.swap q p hq hp
  have e1 : swapB bs q p = swapB bs p q := by
    apply List.ext_getElem?
    intro i
    unfold swapB
    by_cases e : p = q
    · subst e; rfl
    · rw [List.set_comm _ _ (fun h => e h.symm)]
  have e2 : swapR M q p = swapR M p q := by
    unfold swapR
    by_cases e : p = q
    · subst e; rfl
    · rw [List.set_comm _ _ (fun h => e h.symm)]
  rw [e1, e2] at hs; exact hs
def besideRow (x : List Int) (i more : Nat) : List Int := if 0 < more then (x ++ List.replicate more 0).set (x.length + i) 1 else x
def besideM (M : List (List Int)) (more : Nat) : List (List Int) := (List.range M.length).map fun i => besideRow (M.getD i []) i more
theorem besideRow_length (x : List Int) (i more : Nat) : (besideRow x i more).length = x.length + more := by
  unfold besideRow
  split
  · simp
  · omega
theorem besideRow_el {x : List Int} (h : El x) (i more : Nat) : El (besideRow x i more) := by
  unfold besideRow
  split
  · intro v hv
    rcases List.mem_or_eq_of_mem_set hv with h1 | h1
    · rcases List.mem_append.1 h1 with h2 | h2
      · exact h v h2
      · rw [(List.mem_replicate.1 h2).2]; decide
    · rw [h1]; decide
  · exact h
theorem besideM_rect {M : List (List Int)} {r c : Nat} (h : Rect M r c) (more : Nat) : Rect (besideM M more) r (c + more) := by
  refine ⟨by simp [besideM, h.1], fun x hx => ?_⟩
  simp only [besideM, List.mem_map, List.mem_range] at hx
  obtain ⟨i, hi, rfl⟩ := hx
  rw [h.1] at hi
  exact ⟨by rw [besideRow_length, (h.get i hi).1], besideRow_el (h.get i hi).2 i more⟩
theorem besideM_take (M : List (List Int)) (more k : Nat) (hk : k < M.length) : (besideM M more).take (k + 1) = (besideM M more).take k ++ [besideRow (M.getD k []) k more] := by
  rw [List.take_add_one]
  unfold besideM
  rw [List.getElem?_map, List.getElem?_range hk]; rfl
theorem getD_append_one (l : List (List Int)) (x : List Int) (i : Nat) : (l ++ [x]).getD i [] = if i = l.length then x else l.getD i [] := by
  rw [List.getD, List.getElem?_append]
  split
  · rename_i h; rw [if_neg (by omega)]; rfl
  · rename_i h
    by_cases e : i = l.length
    · rw [if_pos e, e, Nat.sub_self]; rfl
    · rw [if_neg e, List.getElem?_eq_none (by simp; omega), List.getD, List.getElem?_eq_none (by omega)]
theorem getDB_append_one (l : List Nat) (x i : Nat) : (l ++ [x]).getD i 0 = if i = l.length then x else l.getD i 0 := by
  rw [List.getD, List.getElem?_append]
  split
  · rename_i h; rw [if_neg (by omega)]; rfl
  · rename_i h
    by_cases e : i = l.length
    · rw [if_pos e, e, Nat.sub_self]; rfl
    · rw [if_neg e, List.getElem?_eq_none (by simp; omega), List.getD, List.getElem?_eq_none (by omega)]
theorem Nst.nil (w : World) (B C : Nat) : Nst w B none 0 0 C [] [] := ⟨Own.nil .., rfl, ⟨rfl, fun x hx => by cases hx⟩, fun i j h => absurd h (by omega), fun i h => absurd h (by omega)⟩
/-- One row more, in a new block. -/
theorem Nst.add {w w' : World} {B : Nat} {a a' : Option Addr} {r cap cap' C b : Nat} {bs : List Nat} {M : List (List Int)} {x : List Int} (h : Nst w B a r cap C bs M) (hx : Box w b (x.map (Value.int .i64)).toArray 3) (hB : B ≤ b) (hlen : x.length = C) (hel : El x)
    (hnew : ∀ i, i < r → bs.getD i 0 ≠ b) (ho : Own w' B 29 1 a' (r + 1) cap' (bs.map (rowV C) ++ [rowV C b])) (hg : w.grownBy w' (Value.slice a r cap).ownBlock) : Nst w' B a' (r + 1) cap' C (bs ++ [b]) (M ++ [x]) := by
  have hML : M.length = r := h.rect.1
  have keep : ∀ {b : Nat} {vs : Array Value}, Box w b vs 3 → Box w' b vs 3 := fun {b vs} hb => (hg.block b hb.lt (fun e => by
    rcases h.out.form with ⟨rfl, _⟩ | ⟨g, cur, rfl, _, hh, _⟩
    · cases e
    · obtain rfl : b = g := by injection e
      unfold Box at hb
      rw [hh] at hb
      injection hb with hb
      injection hb with _ h2
      exact absurd h2 (by decide))).trans hb
  refine ⟨by rw [List.map_append]; exact ho, by rw [List.length_append, h.lb]; rfl, ⟨by rw [List.length_append, hML]; rfl, fun y hy => ?_⟩, fun i j hi hj he => ?_, fun i hi => ?_⟩
  · rcases List.mem_append.1 hy with h1 | h1
    · exact h.rect.2 y h1
    · rw [List.mem_singleton.1 h1]; exact ⟨hlen, hel⟩
  · rw [getDB_append_one, getDB_append_one, h.lb] at he
    by_cases h1 : i = r
    · by_cases h2 : j = r
      · omega
      · rw [if_pos h1, if_neg h2] at he
        exact absurd he.symm (hnew j (by omega))
    · by_cases h2 : j = r
      · rw [if_neg h1, if_pos h2] at he
        exact absurd he (hnew i (by omega))
      · rw [if_neg h1, if_neg h2] at he
        exact h.nd i j (by omega) (by omega) he
  · rw [getDB_append_one, getD_append_one, h.lb, hML]
    by_cases h1 : i = r
    · rw [if_pos h1, if_pos h1]; exact ⟨keep hx, hB⟩
    · rw [if_neg h1, if_neg h1]
      exact ⟨keep (h.row i (by omega)).1, (h.row i (by omega)).2⟩
/-- As what one who only reads it wants. -/
theorem Nst.srow {w : World} {B : Nat} {a : Option Addr} {r cap C : Nat} {bs : List Nat} {M : List (List Int)} (h : Nst w B a r cap C bs M) (hC : C ≤ maxLen) : SRow (Lay.int .i64).slice w (fun _ => True) a r cap M := by
  refine ⟨h.rect.1, fun _ _ _ => trivial, bs.map fun b => [rowV C b], ?_, by simp [h.lb, h.rect.1], fun i x vs hx hv => ?_⟩
  · have hf : (bs.map fun b => [rowV C b]).flatten = bs.map (rowV C) := by
      clear h; induction bs with
      | nil => rfl
      | cons b bs ih => simp only [List.map_cons, List.flatten_cons, ih]; rfl
    rw [hf]; exact h.out.row
  · have hi : i < r := by rw [← h.rect.1]; exact (List.getElem?_eq_some_iff.1 hx).1
    rw [List.getElem?_map, List.getElem?_eq_getElem (by rw [h.lb]; exact hi)] at hv
    injection hv with hv
    subst hv
    have hxg : M.getD i [] = x := by simp [List.getD, hx]
    have hbg : bs.getD i 0 = bs[i]'(by rw [h.lb]; exact hi) := by simp [List.getD, h.lb, hi]
    have hb := (h.row i hi).1
    obtain ⟨hl, he⟩ := h.rect.get i hi
    rw [hxg] at hb hl he
    rw [hbg] at hb
    refine ⟨_, _, _, rfl, Row.toS ?_ (fun _ _ _ => trivial)⟩
    refine VRow.toRow ⟨by simp [hl], Nat.le_refl _, hC, (fun h => by cases h), .inr ⟨_, 0, rfl, fun k hk => ?_⟩⟩ he.wf
    rw [Nat.zero_add, hb.cell k]; simp
end Go.Proofs.Ytkfjkdonbmjniaa
