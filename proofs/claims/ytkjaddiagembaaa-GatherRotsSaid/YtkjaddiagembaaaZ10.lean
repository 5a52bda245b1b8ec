/- Texts that belong together: MtN, MtB, MtE. -/
import Derived.Laws.CopyOwn
import Derived.Deep.CutBlock
import Derived.Test.YtkjaddiagembaaaZ8
import Derived.Test.YtkjaddiagembaaaZ9
/- Rows of numbers, each in a block of its own; beside. -/
namespace Go.Proofs.Ytkjaddiagembaaa
open Go.RowKit
set_option linter.unusedVariables false
set_option maxRecDepth 100000

def rowV (C : Nat) (b : Nat) : Value := .slice (some ⟨b, 0, none⟩) C C
/-- Rows of C numbers, each in a block of its own. -/
structure Nst (w : World) (B : Nat) (a : Option Addr) (r cap C : Nat) (bs : List Nat) (M : List (List Int)) : Prop where
  out : Own w B 23 1 a r cap (bs.map (rowV C))
  lb : bs.length = r
  rect : Rect M r C
  nd : ∀ i j, i < r → j < r → bs.getD i 0 = bs.getD j 0 → i = j
  row : ∀ i, i < r → Box w (bs.getD i 0) ((M.getD i []).map (Value.int .i64)).toArray 3 ∧ B ≤ bs.getD i 0
theorem Nst.below {w w' : World} {B : Nat} {a : Option Addr} {r cap C : Nat} {bs : List Nat} {M : List (List Int)} (h : Nst w B a r cap C bs M) (hb : Below w.heap.size w w') : Nst w' B a r cap C bs M :=
  ⟨h.out.below hb, h.lb, h.rect, h.nd, fun i hi => ⟨(h.row i hi).1.below hb (h.row i hi).1.lt, (h.row i hi).2⟩⟩
theorem Nst.lt {w : World} {B : Nat} {a : Option Addr} {r cap C : Nat} {bs : List Nat} {M : List (List Int)} (h : Nst w B a r cap C bs M) (i : Nat) (hi : i < r) : bs.getD i 0 < w.heap.size := (h.row i hi).1.lt
theorem Nst.cell {w : World} {B g : Nat} {r cap C : Nat} {bs : List Nat} {M : List (List Int)} (h : Nst w B (some ⟨g, 0, none⟩) r cap C bs M) (i : Nat) (hi : i < r) : w.cell? ⟨g, i, none⟩ = some (.slice (some ⟨bs.getD i 0, 0, none⟩) C C) := by
  rw [World.ownsRow.cellAt h.out i (by omega), List.getElem?_map]
  have hl : i < bs.length := by rw [h.lb]; exact hi
  rw [List.getElem?_eq_getElem hl]
  simp [rowV, List.getD, hl]
theorem Nst.at {w : World} {B : Nat} {a : Option Addr} {r cap C : Nat} {bs : List Nat} {M : List (List Int)} (h : Nst w B a r cap C bs M) (i k : Nat) (hi : i < r) (hk : k < C) : w.cell? ⟨bs.getD i 0, k, none⟩ = some (.int .i64 ((M.getD i []).getD k 0)) := by
  rw [(h.row i hi).1.cell k]
  have hl : k < (M.getD i []).length := by rw [(h.rect.get i hi).1]; exact hk
  generalize M.getD i [] = x at *
  simp [List.getD, List.getElem?_eq_getElem hl]
theorem Nst.ne {w : World} {B g : Nat} {r cap C : Nat} {bs : List Nat} {M : List (List Int)} (h : Nst w B (some ⟨g, 0, none⟩) r cap C bs M) (i : Nat) (hi : i < r) : bs.getD i 0 ≠ g := by
  intro e
  rcases h.out.form with ⟨h0, _⟩ | ⟨g', cur, hg, _, hh, _⟩
  · cases h0
  obtain rfl : g = g' := by injection hg with hg; injection hg
  have := (h.row i hi).1
  rw [e] at this
  unfold Box at this
  rw [hh] at this
  injection this with this
  injection this with _ h2
  exact absurd h2 (by decide)
/-- One number written. -/
theorem Nst.put {w : World} {B g : Nat} {r cap C : Nat} {bs : List Nat} {M : List (List Int)} (h : Nst w B (some ⟨g, 0, none⟩) r cap C bs M) (i k : Nat) (hi : i < r) (hk : k < C) (v : Int) (hv : 0 ≤ v ∧ v ≤ 255) :
    Nst (w.setCell ⟨bs.getD i 0, k, none⟩ (.int .i64 v)) B (some ⟨g, 0, none⟩) r cap C bs (M.set i ((M.getD i []).set k v)) := by
  obtain ⟨hlen, hel⟩ := h.rect.get i hi
  have hMl : i < M.length := by rw [h.rect.1]; exact hi
  refine ⟨?_, h.lb, h.rect.set i ⟨by rw [List.length_set, hlen], fun x hx => ?_⟩, h.nd, fun j hj => ?_⟩
  · refine ⟨h.out.1, ?_⟩
    rcases h.out.2 with h0 | ⟨g', c', cur, hv', hbg, hgg, rr⟩
    · exact .inl h0
    · refine .inr ⟨g', c', cur, hv', hbg, ?_, rr⟩
      obtain rfl : g = g' := by injection hv' with e _ _; injection e with e; injection e
      rw [Below.heap_setCell w ⟨bs.getD i 0, k, none⟩ _ g (fun e => h.ne i hi (by exact e.symm))]
      exact hgg
  · rcases List.mem_or_eq_of_mem_set hx with h1 | h1
    · exact hel x h1
    · rw [h1]; exact hv
  · refine ⟨?_, (h.row j hj).2⟩
    rw [getD_set_eq _ _ _ _ hMl]
    by_cases e : j = i
    · subst e
      rw [if_pos rfl, List.map_set]
      have := (h.row j hj).1.set k (.int .i64 v)
      rwa [List.setIfInBounds_toArray] at this
    · rw [if_neg e]
      exact (h.row j hj).1.other _ (fun e2 => e (h.nd j i hj hi e2.symm)) _
def swapB (bs : List Nat) (p q : Nat) : List Nat := (bs.set p (bs.getD q 0)).set q (bs.getD p 0)
theorem getDB_set (bs : List Nat) (i j x : Nat) (hi : i < bs.length) : (bs.set i x).getD j 0 = if j = i then x else bs.getD j 0 := by
  rw [List.getD, List.getElem?_set]
  by_cases h : i = j
  · rw [if_pos h, if_pos h.symm, if_pos hi]; rfl
  · rw [if_neg h, if_neg (fun e => h e.symm)]; rfl
theorem swapB_getD (bs : List Nat) (p q i : Nat) (hp : p < bs.length) (hq : q < bs.length) : (swapB bs p q).getD i 0 = bs.getD (if i = p then q else if i = q then p else i) 0 := by
  unfold swapB
  rw [getDB_set _ _ _ _ (by rw [List.length_set]; exact hq), getDB_set _ _ _ _ hp]
  by_cases h1 : i = q
  · rw [if_pos h1]
    by_cases h2 : i = p
    · rw [if_pos h2, ← h2, h1]
    · rw [if_neg h2, if_pos h1]
  · rw [if_neg h1]
    by_cases h2 : i = p
    · rw [if_pos h2, if_pos h2]
    · rw [if_neg h2, if_neg h2, if_neg h1]
theorem sw_lt {p q r i : Nat} (hp : p < r) (hq : q < r) (hi : i < r) : (if i = p then q else if i = q then p else i) < r := by
  split
  · exact hq
  · split <;> assumption
theorem sw_inj {p q i j : Nat} (h : (if i = p then q else if i = q then p else i) = (if j = p then q else if j = q then p else j)) : i = j := by
  (repeat' split at h) <;> omega
/-- Two rows change places: their slices are written in the one order .. -/
theorem Nst.swap {w : World} {B g : Nat} {r cap C : Nat} {bs : List Nat} {M : List (List Int)} (h : Nst w B (some ⟨g, 0, none⟩) r cap C bs M) (p q : Nat) (hp : p < r) (hq : q < r) :
    Nst ((w.setCell ⟨g, p, none⟩ (.slice (some ⟨bs.getD q 0, 0, none⟩) C C)).setCell ⟨g, q, none⟩ (.slice (some ⟨bs.getD p 0, 0, none⟩) C C)) B (some ⟨g, 0, none⟩) r cap C (swapB bs p q) (swapR M p q) := by
  have s1 := World.ownsRow.stored h.out p (.slice (some ⟨bs.getD q 0, 0, none⟩) C C)
  have s2 := World.ownsRow.stored s1.1 q (.slice (some ⟨bs.getD p 0, 0, none⟩) C C)
  have hpb : p < bs.length := by rw [h.lb]; exact hp
  have hqb : q < bs.length := by rw [h.lb]; exact hq
  refine ⟨?_, by unfold swapB; rw [List.length_set, List.length_set, h.lb], swapR_rect h.rect p q hp hq, fun i j hi hj he => ?_, fun i hi => ?_⟩
  · have e : (swapB bs p q).map (rowV C) = ((bs.map (rowV C)).set p (.slice (some ⟨bs.getD q 0, 0, none⟩) C C)).set q (.slice (some ⟨bs.getD p 0, 0, none⟩) C C) := by
      unfold swapB; rw [List.map_set, List.map_set]; rfl
    rw [e]; exact s2.1
  · rw [swapB_getD _ _ _ _ hpb hqb, swapB_getD _ _ _ _ hpb hqb] at he
    exact sw_inj (h.nd _ _ (sw_lt hp hq hi) (sw_lt hp hq hj) he)
  · rw [swapB_getD _ _ _ _ hpb hqb, swapR_getD _ _ _ _ (by rw [h.rect.1]; exact hp) (by rw [h.rect.1]; exact hq)]
    obtain ⟨h1, h2⟩ := h.row _ (sw_lt hp hq hi)
    refine ⟨?_, h2⟩
    have hn := h.ne _ (sw_lt hp hq hi)
    exact (h1.other ⟨g, p, none⟩ (fun e => hn e.symm) _).other ⟨g, q, none⟩ (fun e => hn e.symm) _
/-- .. or in the other. -/
theorem Nst.swap' {w : World} {B g : Nat} {r cap C : Nat} {bs : List Nat} {M : List (List Int)} (h : Nst w B (some ⟨g, 0, none⟩) r cap C bs M) (p q : Nat) (hp : p < r) (hq : q < r) :
    Nst ((w.setCell ⟨g, q, none⟩ (.slice (some ⟨bs.getD p 0, 0, none⟩) C C)).setCell ⟨g, p, none⟩ (.slice (some ⟨bs.getD q 0, 0, none⟩) C C)) B (some ⟨g, 0, none⟩) r cap C (swapB bs p q) (swapR M p q) := by
  have hs := h.swap q p hq hp
  have e1 : swapB bs q p = swapB bs p q := by
    apply List.ext_getElem?
    intro i
    unfold swapB
    by_cases e : p = q
    · subst e; rfl
    · rw [List.set_comm _ _ (fun h => e h.symm)]
  have e2 : swapR M q p = swapR M p q := by
    unfold swapR
    by_cases e : p = q
    · subst e; rfl
    · rw [List.set_comm _ _ (fun h => e h.symm)]
  rw [e1, e2] at hs; exact hs
def besideRow (x : List Int) (i more : Nat) : List Int := if 0 < more then (x ++ List.replicate more 0).set (x.length + i) 1 else x
def besideM (M : List (List Int)) (more : Nat) : List (List Int) := (List.range M.length).map fun i => besideRow (M.getD i []) i more
theorem besideRow_length (x : List Int) (i more : Nat) : (besideRow x i more).length = x.length + more := by
  unfold besideRow
  split
  · simp
  · omega
theorem besideRow_el {x : List Int} (h : El x) (i more : Nat) : El (besideRow x i more) := by
  unfold besideRow
  split
  · intro v hv
    rcases List.mem_or_eq_of_mem_set hv with h1 | h1
    · rcases List.mem_append.1 h1 with h2 | h2
      · exact h v h2
      · rw [(List.mem_replicate.1 h2).2]; decide
    · rw [h1]; decide
  · exact h
theorem besideM_rect {M : List (List Int)} {r c : Nat} (h : Rect M r c) (more : Nat) : Rect (besideM M more) r (c + more) := by
  refine ⟨by simp [besideM, h.1], fun x hx => ?_⟩
  simp only [besideM, List.mem_map, List.mem_range] at hx
  obtain ⟨i, hi, rfl⟩ := hx
  rw [h.1] at hi
  exact ⟨by rw [besideRow_length, (h.get i hi).1], besideRow_el (h.get i hi).2 i more⟩
theorem besideM_take (M : List (List Int)) (more k : Nat) (hk : k < M.length) : (besideM M more).take (k + 1) = (besideM M more).take k ++ [besideRow (M.getD k []) k more] := by
  rw [List.take_add_one]
  unfold besideM
  rw [List.getElem?_map, List.getElem?_range hk]; rfl
theorem getD_append_one (l : List (List Int)) (x : List Int) (i : Nat) : (l ++ [x]).getD i [] = if i = l.length then x else l.getD i [] := by
  rw [List.getD, List.getElem?_append]
  split
  · rename_i h; rw [if_neg (by omega)]; rfl
  · rename_i h
    by_cases e : i = l.length
    · rw [if_pos e, e, Nat.sub_self]; rfl
    · rw [if_neg e, List.getElem?_eq_none (by simp; omega), List.getD, List.getElem?_eq_none (by omega)]
theorem getDB_append_one (l : List Nat) (x i : Nat) : (l ++ [x]).getD i 0 = if i = l.length then x else l.getD i 0 := by
  rw [List.getD, List.getElem?_append]
  split
  · rename_i h; rw [if_neg (by omega)]; rfl
  · rename_i h
    by_cases e : i = l.length
    · rw [if_pos e, e, Nat.sub_self]; rfl
    · rw [if_neg e, List.getElem?_eq_none (by simp; omega), List.getD, List.getElem?_eq_none (by omega)]
theorem Nst.nil (w : World) (B C : Nat) : Nst w B none 0 0 C [] [] := ⟨Own.nil .., rfl, ⟨rfl, fun x hx => by cases hx⟩, fun i j h => absurd h (by omega), fun i h => absurd h (by omega)⟩
/-- One row more, in a new block. -/
theorem Nst.add {w w' : World} {B : Nat} {a a' : Option Addr} {r cap cap' C b : Nat} {bs : List Nat} {M : List (List Int)} {x : List Int} (h : Nst w B a r cap C bs M) (hx : Box w b (x.map (Value.int .i64)).toArray 3) (hB : B ≤ b) (hlen : x.length = C) (hel : El x)
    (hnew : ∀ i, i < r → bs.getD i 0 ≠ b) (ho : Own w' B 23 1 a' (r + 1) cap' (bs.map (rowV C) ++ [rowV C b])) (hg : w.grownBy w' (Value.slice a r cap).ownBlock) : Nst w' B a' (r + 1) cap' C (bs ++ [b]) (M ++ [x]) := by
  have hML : M.length = r := h.rect.1
  have keep : ∀ {b : Nat} {vs : Array Value}, Box w b vs 3 → Box w' b vs 3 := fun {b vs} hb => (hg.block b hb.lt (fun e => by
    rcases h.out.form with ⟨rfl, _⟩ | ⟨g, cur, rfl, _, hh, _⟩
    · cases e
    · obtain rfl : b = g := by injection e
      unfold Box at hb
      rw [hh] at hb
      injection hb with hb
      injection hb with _ h2
      exact absurd h2 (by decide))).trans hb
  refine ⟨by rw [List.map_append]; exact ho, by rw [List.length_append, h.lb]; rfl, ⟨by rw [List.length_append, hML]; rfl, fun y hy => ?_⟩, fun i j hi hj he => ?_, fun i hi => ?_⟩
  · rcases List.mem_append.1 hy with h1 | h1
    · exact h.rect.2 y h1
    · rw [List.mem_singleton.1 h1]; exact ⟨hlen, hel⟩
  · rw [getDB_append_one, getDB_append_one, h.lb] at he
    by_cases h1 : i = r
    · by_cases h2 : j = r
      · omega
      · rw [if_pos h1, if_neg h2] at he
        exact absurd he.symm (hnew j (by omega))
    · by_cases h2 : j = r
      · rw [if_neg h1, if_pos h2] at he
        exact absurd he (hnew i (by omega))
      · rw [if_neg h1, if_neg h2] at he
        exact h.nd i j (by omega) (by omega) he
  · rw [getDB_append_one, getD_append_one, h.lb, hML]
    by_cases h1 : i = r
    · rw [if_pos h1, if_pos h1]; exact ⟨keep hx, hB⟩
    · rw [if_neg h1, if_neg h1]
      exact ⟨keep (h.row i (by omega)).1, (h.row i (by omega)).2⟩
/-- As what one who only reads it wants. -/
theorem Nst.srow {w : World} {B : Nat} {a : Option Addr} {r cap C : Nat} {bs : List Nat} {M : List (List Int)} (h : Nst w B a r cap C bs M) (hC : C ≤ maxLen) : SRow (Lay.int .i64).slice w (fun _ => True) a r cap M := by
  refine ⟨h.rect.1, fun _ _ _ => trivial, bs.map fun b => [rowV C b], ?_, by simp [h.lb, h.rect.1], fun i x vs hx hv => ?_⟩
  · have hf : (bs.map fun b => [rowV C b]).flatten = bs.map (rowV C) := by
      clear h; induction bs with
      | nil => rfl
      | cons b bs ih => simp only [List.map_cons, List.flatten_cons, ih]; rfl
    rw [hf]; exact h.out.row
  · have hi : i < r := by rw [← h.rect.1]; exact (List.getElem?_eq_some_iff.1 hx).1
    rw [List.getElem?_map, List.getElem?_eq_getElem (by rw [h.lb]; exact hi)] at hv
    injection hv with hv
    subst hv
    have hxg : M.getD i [] = x := by simp [List.getD, hx]
    have hbg : bs.getD i 0 = bs[i]'(by rw [h.lb]; exact hi) := by simp [List.getD, h.lb, hi]
    have hb := (h.row i hi).1
    obtain ⟨hl, he⟩ := h.rect.get i hi
    rw [hxg] at hb hl he
    rw [hbg] at hb
    refine ⟨_, _, _, rfl, Row.toS ?_ (fun _ _ _ => trivial)⟩
    refine VRow.toRow ⟨by simp [hl], Nat.le_refl _, hC, (fun h => by cases h), .inr ⟨_, 0, rfl, fun k hk => ?_⟩⟩ he.wf
    rw [Nat.zero_add, hb.cell k]; simp
end Go.Proofs.Ytkjaddiagembaaa
/- Package mat: beside. -/
namespace Go.Proofs.Ytkjaddiagembaaa
open Go.RowKit
set_option linter.unusedVariables false
set_option maxRecDepth 100000

theorem info_int1 : (Try.prog.info? 3).map (fun i => (i.zero, i.size, i.bytes)) = some (some (.int .i64 0), 1, 8) := by kernel_rfl
theorem info_row : (Try.prog.info? 23).map (fun i => (i.zero, i.size, i.bytes)) = some (some (.slice none 0 0), 1, 24) := by kernel_rfl
theorem vrow_one' {w : World} (v : Value) (e : TypeId) : VRow (w.alloc (.cells #[v] e)) 1 (some ⟨w.heap.size, 0, none⟩) 1 1 [v] := by
  refine ⟨rfl, Nat.le_refl _, by unfold maxLen; omega, (fun h => by cases h), .inr ⟨w.heap.size, 0, rfl, fun i hi => ?_⟩⟩
  obtain rfl : i = 0 := by omega
  exact (Box.new rfl).cell 0
def Besided (M : List (List Int)) (r C : Nat) (w : World) (e : Ending) (w' : World) : Prop := ∃ a cap bs, e = .returned (.slice a r cap) ∧ Nst w' w.heap.size a r cap C bs M ∧ Below w.heap.size w w'
set_option maxHeartbeats 4000000 in
theorem besideW {F : Nat → Prop} (a : Option Addr) (cap : Nat) (M : List (List Int)) (r c more : Nat) (w : World) (h : SRow (Lay.int .i64).slice w F a r cap M) (hm : Mat M r c) (hmore : more = 0 ∨ more = r) :
    Calls Try.prog 57 #[.slice a r cap, .int .i64 more] w (Besided (besideM M more) r (c + more) w) := by
  obtain ⟨B, hB⟩ : ∃ B, Hid (w.heap.size = B) := ⟨_, rfl⟩
  obtain ⟨hMl, ⟨r1, r8⟩, ⟨c1, c8⟩, hrows⟩ := hm
  have hle := h.hle
  have hmx := h.hmax
  unfold maxLen at hmx
  have HS := Lib.hid h
  have HM : Hid (Rect M r c) := ⟨hMl, hrows⟩
  have hm8 : more ≤ 8 := by omega
  have s1 : IntKind.i64.wrap ((c : Int) + (more : Int)) = (c : Int) + (more : Int) := IntWalk.i64_in _ (by omega)
  clear h hrows
  go_enter Try.func57, Try.ntmps57
  go_wp2_with fail
  go_loopw [5, 11] (fun ov iv wr => ∃ (i : Nat) (ao : Option Addr) (co : Nat) (bs : List Nat), i ≤ r ∧ iv = .int .i64 i ∧ ov = .slice ao i co ∧ Hid (Nst wr B ao i co (c + more) bs ((besideM M more).take i)) ∧ Hid (Below B w wr)) (fun _ iv _ => r - (intOf iv).toNat)
  case atStart => exact ⟨0, none, 0, [], by omega, rfl, rfl, Nst.nil .., Below.refl _ _⟩
  case round =>
    obtain ⟨i, ao, co, bs, hi, rfl, rfl, hO, hL⟩ := hrel
    have hBr : B ≤ wr.heap.size := by have := hL.out.size; have := hB.out; omega
    by_cases hlt : i < r
    · have hil : (i : Int) < (r : Int) := by omega
      obtain ⟨b, off, a', l', c', rfl, hb, e0, hrow⟩ := mget (HS.out.below (show Below w.heap.size w wr by rw [hB.out]; exact hL.out)) i hlt
      obtain ⟨hxl, hxe⟩ := HM.out.get i hlt
      obtain ⟨x, hx⟩ : ∃ x, M.getD i [] = x := ⟨_, rfl⟩
      rw [hx] at hrow hxl hxe
      obtain rfl : l' = c := by have := hrow.hlen; omega
      have hcm := hrow.hmax
      have hcl := hrow.hle
      unfold maxLen at hcm
      obtain ⟨bx, ox, rfl, hcx⟩ : ∃ bx ox, a' = some ⟨bx, ox, none⟩ ∧ ∀ k, k < l' → wr.cell? ⟨bx, ox + k, none⟩ = some (.int .i64 (x.getD k 0)) := by
        rcases hrow.hat with h0 | h
        · omega
        · exact h
      have HCX := Lib.hid hcx
      have hnext : Hid ((besideM M more).take (i + 1) = (besideM M more).take i ++ [besideRow x i more]) := by show _ = _; rw [besideM_take _ _ _ (by omega), hx]
      clear hrow hcx
      go_wp2_with (refine wpList_make_zeros rfl _ _ 23 rfl 3 _ 8 Try.underlying23 info_int1 rfl _ _ _ _ (l' + more) rfl rfl rfl rfl (by omega) (by unfold maxLen; omega) ?_)
      intro w1 hown1 hb1
      obtain ⟨gr, hgr⟩ : ∃ g, wr.heap.size = g := ⟨_, rfl⟩
      rw [hgr] at hown1 ⊢
      have L1 := Lib.hid (hL.out.trans (hb1.mono hBr))
      have HB1 := Lib.hid hb1
      have BX1 := hown1.box
      have HC1 : Hid (∀ k, k < l' → w1.cell? ⟨bx, ox + k, none⟩ = some (.int .i64 (x.getD k 0))) := fun k hk => (hb1.cell (World.block_lt_of_cell? _ _ (HCX.out k hk))).trans (HCX.out k hk)
      have hgB : B ≤ gr := by omega
      have hold : Hid (∀ j, j < i → bs.getD j 0 < gr) := fun j hj => by have := hO.out.lt j hj; omega
      have hgw1 : gr < w1.heap.size := BX1.lt
      have HBX := Lib.hid BX1
      clear hown1 hb1 BX1 hL HCX e0
      have hn1 : (x.map (Value.int .i64)).length = Nat.min l' (l' + more) := by
        rw [List.length_map, hxl, show Nat.min l' (l' + more) = min l' (l' + more) from rfl]; omega
      have hpos1 : 0 < (x.map (Value.int .i64)).length → (some (⟨gr, 0, none⟩ : Addr) = some ⟨gr, 0, none⟩ ∧ ∃ ad, some (⟨bx, ox, none⟩ : Addr) = some ad ∧ ∀ j v, (x.map (Value.int .i64))[j]? = some v → w1.cell? (ad.add j) = some v) := fun _ => ⟨rfl, _, rfl, fun j v hv => by
        have hjl : j < x.length := by simpa using (List.getElem?_eq_some_iff.1 hv).1
        have hadd : (⟨bx, ox, none⟩ : Addr).add j = ⟨bx, ox + j, none⟩ := by unfold Addr.add; split <;> simp_all
        rw [hadd, HC1.out j (by omega)]
        rw [List.getElem?_map, List.getElem?_eq_getElem hjl] at hv
        rw [← hv]
        simp [List.getD, hjl]⟩
      have hfit1 : 0 + (x.map (Value.int .i64)).length ≤ (List.replicate (l' + more) (Value.int .i64 0)).length := by simp [hxl]
      have hone1 : ∀ v ∈ x.map (Value.int .i64), v.oneCell' = true := fun v hv => by obtain ⟨y, _, rfl⟩ := List.mem_map.1 hv; rfl
      have HN1 := Lib.hid hn1
      have HPOS1 := Lib.hid hpos1
      have HFIT1 := Lib.hid hfit1
      have HONE1 := Lib.hid hone1
      clear hn1 hpos1 hfit1 hone1
      go_wp2_with (refine wpList_copy_splice rfl (.tmp 21) (.tmp 22) 23 23 rfl 3 Try.underlying23 (by kernel_rfl) (some ⟨gr, 0, none⟩) (some ⟨bx, ox, none⟩) (l' + more) (l' + more) l' c' rfl rfl gr 0 (List.replicate (l' + more) (.int .i64 0)) 3 HBX.out (x.map (.int .i64)) HN1.out HPOS1.out HFIT1.out HONE1.out gr w1 (Below.refl _ _) (Nat.le_refl _) ?_)
      intro w2 hbx2 hb2
      have hspl : splice (List.replicate (l' + more) (Value.int .i64 0)) 0 (x.map (.int .i64)) = (x ++ List.replicate more 0).map (Value.int .i64) := by
        unfold splice
        rw [List.take_zero, List.nil_append, List.length_map, Nat.zero_add, List.drop_replicate, List.map_append, List.map_replicate, hxl, Nat.add_sub_cancel_left]
      have BX2 : Box w2 gr ((x ++ List.replicate more 0).map (Value.int .i64)).toArray 3 := by rw [← hspl]; exact hbx2.out
      have L2 := Lib.hid (L1.out.trans (hb2.mono hgB))
      have HB2 : Hid (Below gr wr w2) := by show Below _ _ _; rw [← hgr]; exact HB1.out.trans (by rw [hgr]; exact hb2)
      have HBX2 := Lib.hid BX2
      clear hbx2 hspl BX2 HBX HB1 L1 HC1 HN1 HPOS1 HFIT1 HONE1 hb2
      have hfin : ∀ (w3 : World), Box w3 gr ((besideRow x i more).map (Value.int .i64)).toArray 3 → Below gr wr w3 → Below B w w3 →
          (Nst w3 B ao i co (l' + more) bs ((besideM M more).take i) ∧ ∀ (a5 : Option Addr) (c5 : Nat) (w5 : World), Own w5 B 23 1 a5 (i + 1) c5 (bs.map (rowV (l' + more)) ++ [rowV (l' + more) gr]) → (w3.alloc (.cells #[rowV (l' + more) gr] 23)).grownBy w5 (Value.slice ao i co).ownBlock → Hid (Nst w5 B a5 (i + 1) c5 (l' + more) (bs ++ [gr]) ((besideM M more).take (i + 1))) ∧ Hid (Below B w w5)) := by
        intro w3 hb3 hwr hw
        have N3 := hO.out.below (show Below wr.heap.size wr w3 by rw [hgr]; exact hwr)
        refine ⟨N3, fun a5 c5 w5 ho hg => ?_⟩
        have LA : Below w3.heap.size w3 (w3.alloc (.cells #[rowV (l' + more) gr] 23)) := Below_alloc1 _
        have N4 := N3.below LA
        have hBs : B ≤ w3.heap.size := by have := hw.size; have := hB.out; omega
        have e : (besideM M more).take (i + 1) = (besideM M more).take i ++ [besideRow x i more] := hnext.out
        refine ⟨?_, N4.out.grown (hw.trans (LA.mono hBs)) (Nat.le_refl _) (by have := LA.size; omega) hg⟩
        show Nst _ _ _ _ _ _ _ _
        rw [e]
        exact N4.add (hb3.below LA hb3.lt) hgB (by rw [besideRow_length, hxl]) (besideRow_el hxe i more) (fun j hj e => by have := hold.out j hj; omega) ho hg
      have HFIN := Lib.hid hfin
      clear hfin
      have hrowlt : (Value.slice ao i co).ownBlock = (Value.slice ao i co).ownBlock := rfl
      by_cases h0 : more = 0
      · have BX3 : Box w2 gr ((besideRow x i more).map (Value.int .i64)).toArray 3 := by
          have := HBX2.out
          rw [h0, List.replicate_zero, List.append_nil] at this
          rw [h0]
          exact this
        have bm : decide ((0 : Int) < (more : Int)) = false := decide_eq_false (by omega)
        have bn : ¬ 0 < more := by omega
        have L3 := L2
        have HB3 := HB2
        obtain ⟨N3, HN⟩ := HFIN.out w2 BX3 HB2.out L2.out
        clear h0
        have HN3 := Lib.hid (N3.below (Below_alloc1 (.cells #[rowV (l' + more) gr] 23)))
        have HNN := Lib.hid HN
        have hB3 : B ≤ (w2.alloc (.cells #[rowV (l' + more) gr] 23)).heap.size := by have := L3.out.size; have := hB.out; simp; omega
        clear N3 HN BX3 HBX2 HB2 L2 HFIN hO L3 HB3
        go_wp2_with (at_builtin; refine wpList_append_any rfl (.tmp 32) (.tmp 34) 98 rfl B 23 _ 1 24 Try.underlying98 info_row rfl (by decide) ao i co (bs.map (rowV (l' + more))) rfl HN3.out.out (some ⟨w2.heap.size, 0, none⟩) 1 1 [rowV (l' + more) gr] rfl (vrow_one' _ _) (fun u hu => by obtain rfl := List.mem_singleton.1 hu; rfl) (by unfold maxLen; omega) (by omega) hB3 ?_)
        intro a5 c5 w5 ho hg
        obtain ⟨N5, L5⟩ := HNN.out a5 c5 w5 ho hg
        clear ho hg HN3 HNN
        go_wp2_with fail
        go_roundw
        case rel => exact ⟨i + 1, a5, c5, bs ++ [gr], by omega, by go_num, rfl, N5, L5⟩
        case measure => simp [intOf]; omega
      · have hmr : more = r := hmore.resolve_left h0
        have hlx : (l' : Int) + (i : Int) < (l' : Int) + (more : Int) := by omega
        have s2 : IntKind.i64.wrap ((l' : Int) + (i : Int)) = (l' : Int) + (i : Int) := IntWalk.i64_in _ (by omega)
        have s3 : (0 : Int) ≤ (l' : Int) + (i : Int) := by omega
        have s4 : ((l' : Int) + (i : Int)).toNat = l' + i := by omega
        have e2 : w2.cell? ⟨gr, l' + i, none⟩ = some (.int .i64 0) := by
          rw [HBX2.out.cell (l' + i)]
          simp [List.getElem?_append_right, hxl, List.getElem?_replicate]; omega
        have f2 : w2.frozen? ⟨gr, l' + i, none⟩ = false := HBX2.out.free _
        have bm : decide ((0 : Int) < (more : Int)) = true := decide_eq_true (by omega)
        have bn : 0 < more := by omega
        have BX3 : Box (w2.setCell ⟨gr, l' + i, none⟩ (.int .i64 1)) gr ((besideRow x i more).map (Value.int .i64)).toArray 3 := by
          have := HBX2.out.set (l' + i) (.int .i64 1)
          unfold besideRow
          rw [if_pos (by omega), List.map_set, hxl, ← List.setIfInBounds_toArray]
          exact this
        have HB3 : Hid (Below gr wr (w2.setCell ⟨gr, l' + i, none⟩ (.int .i64 1))) := HB2.out.setCell (p := ⟨gr, l' + i, none⟩) (Nat.le_refl _) _
        have L3 : Hid (Below B w (w2.setCell ⟨gr, l' + i, none⟩ (.int .i64 1))) := L2.out.setCell (p := ⟨gr, l' + i, none⟩) hgB _
        obtain ⟨N3, HN⟩ := HFIN.out _ BX3 HB3.out L3.out
        obtain ⟨w3, hw3⟩ : ∃ W, W = w2.setCell ⟨gr, l' + i, none⟩ (.int .i64 1) := ⟨_, rfl⟩
        rw [← hw3] at N3 HN L3
        have HW3 := Lib.hid hw3
        clear h0 hmr hw3
        have HN3 := Lib.hid (N3.below (Below_alloc1 (.cells #[rowV (l' + more) gr] 23)))
        have HNN := Lib.hid HN
        have hB3 : B ≤ (w3.alloc (.cells #[rowV (l' + more) gr] 23)).heap.size := by have := L3.out.size; have := hB.out; simp; omega
        clear N3 HN BX3 HBX2 HB2 L2 HFIN hO L3 HB3
        go_upto_region 9 with fail
        rw [← HW3.out]
        go_wp2_with (at_builtin; refine wpList_append_any rfl (.tmp 32) (.tmp 34) 98 rfl B 23 _ 1 24 Try.underlying98 info_row rfl (by decide) ao i co (bs.map (rowV (l' + more))) rfl HN3.out.out (some ⟨w3.heap.size, 0, none⟩) 1 1 [rowV (l' + more) gr] rfl (vrow_one' _ _) (fun u hu => by obtain rfl := List.mem_singleton.1 hu; rfl) (by unfold maxLen; omega) (by omega) hB3 ?_)
        intro a5 c5 w5 ho hg
        obtain ⟨N5, L5⟩ := HNN.out a5 c5 w5 ho hg
        clear ho hg HN3 HNN
        go_wp2_with fail
        go_roundw
        case rel => exact ⟨i + 1, a5, c5, bs ++ [gr], by omega, by go_num, rfl, N5, L5⟩
        case measure => simp [intOf]; omega
    · obtain rfl : i = r := by omega
      have hfin : (besideM M more).take i = besideM M more := List.take_of_length_le (by simp [besideM, hMl])
      rw [hfin] at hO
      go_wp2_with fail
      go_ret
      exact ⟨_, _, bs, rfl, by rw [hB.out]; exact hO.out, by rw [hB.out]; exact hL.out⟩
end Go.Proofs.Ytkjaddiagembaaa
/- Package mat: reduce. -/
namespace Go.Proofs.Ytkjaddiagembaaa
open Go.RowKit
set_option linter.unusedVariables false
set_option maxRecDepth 100000

theorem lead_some {M : List (List Int)} {r C : Nat} (h : Rect M r C) {rank c n : Nat} (hn : rank + n < r) (hz : ∀ j, j < n → (M.getD (rank + j) []).getD c 0 = 0) (hne : (M.getD (rank + n) []).getD c 0 ≠ 0) : leader M rank c = some n := by
  unfold leader
  rw [List.findIdx?_eq_some_iff_getElem]
  have hg : ∀ j, (hj : rank + j < r) → M.getD (rank + j) [] = M[rank + j]'(by rw [h.1]; exact hj) := fun j hj => by simp [List.getD, h.1, hj]
  refine ⟨by rw [List.length_drop, h.1]; omega, ?_, fun j hj => ?_⟩
  · rw [List.getElem_drop, ← hg n hn]; simp only [ne_eq, decide_not, Bool.not_eq_eq_eq_not, Bool.not_true, decide_eq_false_iff_not]; exact hne
  · rw [List.getElem_drop, ← hg j (by omega)]
    simp only [ne_eq, decide_not, Bool.not_eq_eq_eq_not, Bool.not_true, decide_eq_false_iff_not, Decidable.not_not]
    exact hz j hj
theorem lead_none {M : List (List Int)} {r C : Nat} (h : Rect M r C) {rank c : Nat} (hz : ∀ j, rank + j < r → (M.getD (rank + j) []).getD c 0 = 0) : leader M rank c = none := by
  unfold leader
  rw [List.findIdx?_eq_none_iff]
  intro x hx
  obtain ⟨j, hj, rfl⟩ := List.mem_iff_getElem.1 hx
  rw [List.length_drop, h.1] at hj
  rw [List.getElem_drop]
  have := hz j (by omega)
  rw [show M.getD (rank + j) [] = M[rank + j]'(by rw [h.1]; omega) by simp [List.getD]; rw [List.getElem?_eq_getElem (by rw [h.1]; omega)]; rfl] at this
  simp only [ne_eq, decide_not, Bool.not_eq_eq_eq_not, Bool.not_false, decide_eq_true_eq]
  exact this
set_option maxHeartbeats 1000000 in
theorem nonzero1 (b C c gc : Nat) (v : Int) (w : World) (hc : w.cell? ⟨gc, 0, none⟩ = some (.int .i64 c)) (hv : w.cell? ⟨b, c, none⟩ = some (.int .i64 v)) (hcC : c < C) (hC : C ≤ 16) :
    Calls Try.prog 64 #[.slice (some ⟨b, 0, none⟩) C C, .pointer (some ⟨gc, 0, none⟩)] w fun e w' => e = .returned (.bool (v != 0)) ∧ w = w' := by
  have i1 : (c : Int) < (C : Int) := by omega
  go_enter Try.func64, Try.ntmps64
  go_wp2_with fail
  go_ret
  first | exact ⟨rfl, rfl⟩ | exact ⟨rfl, trivial⟩
def leadI (x : Option Nat) : Int := match x with | none => -1 | some a => (a : Int)
set_option maxHeartbeats 2000000 in
theorem indexLead {B g r cap C : Nat} {bs : List Nat} {M : List (List Int)} (rank c gc : Nat) (w : World) (h : Nst w B (some ⟨g, 0, none⟩) r cap C bs M) (hc : w.cell? ⟨gc, 0, none⟩ = some (.int .i64 c)) (hcC : c < C) (hC : C ≤ 16) (hr : rank < r) (hr8 : r ≤ 8) :
    Calls Try.prog 63 #[.slice (some ⟨g, rank, none⟩) (r - rank) (cap - rank), .func (.func 64) #[] #[.pointer (some ⟨gc, 0, none⟩)]] w fun e w' => e = .returned (.int .i64 (leadI (leader M rank c))) ∧ w = w' := by
  obtain ⟨L, hL⟩ : ∃ L, Hid (leader M rank c = L) := ⟨_, rfl⟩
  rw [hL.out]
  obtain ⟨m, hm⟩ : ∃ m, r - rank = m := ⟨_, rfl⟩
  rw [hm]
  obtain ⟨cp, hcp⟩ : ∃ cp, cap - rank = cp := ⟨_, rfl⟩
  rw [hcp]
  have hle := h.out.row.hle
  have hmx := h.out.row.hmax
  unfold maxLen at hmx
  have HN := Lib.hid h
  clear h
  go_enter Try.func63, Try.ntmps63
  go_wp2_with fail
  go_loopw [8] (fun i wr => ∃ n : Nat, n ≤ m ∧ i = .int .i64 n ∧ Hid (∀ j, j < n → (M.getD (rank + j) []).getD c 0 = 0) ∧ w = wr) (fun i _ => m - (intOf i).toNat)
  case atStart => exact ⟨0, by omega, rfl, fun j hj => absurd hj (by omega), rfl⟩
  case round =>
    obtain ⟨n, hn, rfl, hz, rfl⟩ := hrel
    by_cases hlt : n < m
    · have e1 := HN.out.cell (rank + n) (by omega)
      have e2 := HN.out.at (rank + n) c (by omega) hcC
      obtain ⟨b, hb⟩ : ∃ b, bs.getD (rank + n) 0 = b := ⟨_, rfl⟩
      obtain ⟨v, hv⟩ : ∃ v, (M.getD (rank + n) []).getD c 0 = v := ⟨_, rfl⟩
      rw [hb] at e1 e2
      rw [hv] at e2
      have HV := Lib.hid hv
      have nm : (n : Int) < (m : Int) := by omega
      clear hb hv
      go_wp2_with fail
      refine (nonzero1 b C c gc v w hc e2 hcC hC).mono ?_
      rintro e w2 ⟨rfl, rfl⟩
      by_cases h0 : v = 0
      · have hb0 : (v != 0) = false := by simp [h0]
        have HZ : Hid (∀ j, j < n + 1 → (M.getD (rank + j) []).getD c 0 = 0) := fun j hj => by
          by_cases h : j < n
          · exact hz.out j h
          · obtain rfl : j = n := by omega
            rw [HV.out, h0]
        rw [hb0]
        clear hz h0
        go_wp2_with fail
        go_roundw
        case rel => first | exact ⟨n + 1, by omega, by go_num, HZ, rfl⟩ | exact ⟨n + 1, by omega, by go_num, HZ, trivial⟩
        case measure => simp [intOf]; omega
      · have hb0 : (v != 0) = true := by simp [h0]
        have HF : Hid (L = some n) := by
          show _ = _
          rw [← hL.out]
          exact lead_some HN.out.rect (by omega) hz.out (by rw [HV.out]; exact h0)
        rw [hb0]
        clear hz h0
        go_wp2_with fail
        go_ret
        first | exact ⟨by rw [HF.out]; rfl, rfl⟩ | exact ⟨by rw [HF.out]; rfl, trivial⟩
    · have HF : Hid (L = none) := by
        show _ = _
        rw [← hL.out]
        exact lead_none HN.out.rect (fun j hj => hz.out j (by omega))
      go_wp2_with fail
      go_ret
      first | exact ⟨by rw [HF.out]; rfl, rfl⟩ | exact ⟨by rw [HF.out]; rfl, trivial⟩
/-- What lies in memory while it is reduced: the matrix, and the column's number. -/
structure RS (w0 wr : World) (B g r cap C gc c : Nat) (bs : List Nat) (M : List (List Int)) : Prop where
  n : Nst wr B (some ⟨g, 0, none⟩) r cap C bs M
  bc : Box wr gc #[.int .i64 c] 3
  hgc : w0.heap.size ≤ gc
  gl : g < w0.heap.size
  lt : ∀ i, i < r → bs.getD i 0 < w0.heap.size
  bl : Below B w0 wr
theorem RS.below {w0 wr w' : World} {B g r cap C gc c : Nat} {bs : List Nat} {M : List (List Int)} (h : RS w0 wr B g r cap C gc c bs M) (hB : B ≤ w0.heap.size) (hb : Below wr.heap.size wr w') : RS w0 w' B g r cap C gc c bs M :=
  ⟨h.n.below hb, h.bc.below hb h.bc.lt, h.hgc, h.gl, h.lt, h.bl.trans (hb.mono (Nat.le_trans hB h.bl.size))⟩
theorem RS.put {w0 wr : World} {B g r cap C gc c : Nat} {bs : List Nat} {M : List (List Int)} (h : RS w0 wr B g r cap C gc c bs M) (i k : Nat) (hi : i < r) (hk : k < C) (v : Int) (hv : 0 ≤ v ∧ v ≤ 255) :
    RS w0 (wr.setCell ⟨bs.getD i 0, k, none⟩ (.int .i64 v)) B g r cap C gc c bs (M.set i ((M.getD i []).set k v)) :=
  ⟨h.n.put i k hi hk v hv, h.bc.other _ (by have := h.lt i hi; have := h.hgc; show bs.getD i 0 ≠ gc; omega) _, h.hgc, h.gl, h.lt, h.bl.setCell (p := ⟨bs.getD i 0, k, none⟩) (h.n.row i hi).2 _⟩
theorem RS.gB {w0 wr : World} {B g r cap C gc c : Nat} {bs : List Nat} {M : List (List Int)} (h : RS w0 wr B g r cap C gc c bs M) : B ≤ g := (World.ownsRow.lt h.n.out g rfl).1
theorem swapB_lt {bs : List Nat} {r p q : Nat} {N : Nat} (hl : bs.length = r) (hp : p < r) (hq : q < r) (h : ∀ i, i < r → bs.getD i 0 < N) : ∀ i, i < r → (swapB bs p q).getD i 0 < N := fun i hi => by
  rw [swapB_getD _ _ _ _ (by omega) (by omega)]
  exact h _ (sw_lt hp hq hi)
theorem RS.swap {w0 wr : World} {B g r cap C gc c : Nat} {bs : List Nat} {M : List (List Int)} (h : RS w0 wr B g r cap C gc c bs M) (p q : Nat) (hp : p < r) (hq : q < r) :
    RS w0 ((wr.setCell ⟨g, p, none⟩ (.slice (some ⟨bs.getD q 0, 0, none⟩) C C)).setCell ⟨g, q, none⟩ (.slice (some ⟨bs.getD p 0, 0, none⟩) C C)) B g r cap C gc c (swapB bs p q) (swapR M p q) := by
  have hne : g ≠ gc := by have := h.gl; have := h.hgc; omega
  exact ⟨h.n.swap p q hp hq, (h.bc.other ⟨g, p, none⟩ hne _).other ⟨g, q, none⟩ hne _, h.hgc, h.gl, swapB_lt h.n.lb hp hq h.lt, (h.bl.setCell (p := ⟨g, p, none⟩) h.gB _).setCell (p := ⟨g, q, none⟩) h.gB _⟩
theorem RS.swap' {w0 wr : World} {B g r cap C gc c : Nat} {bs : List Nat} {M : List (List Int)} (h : RS w0 wr B g r cap C gc c bs M) (p q : Nat) (hp : p < r) (hq : q < r) :
    RS w0 ((wr.setCell ⟨g, q, none⟩ (.slice (some ⟨bs.getD p 0, 0, none⟩) C C)).setCell ⟨g, p, none⟩ (.slice (some ⟨bs.getD q 0, 0, none⟩) C C)) B g r cap C gc c (swapB bs p q) (swapR M p q) := by
  have hne : g ≠ gc := by have := h.gl; have := h.hgc; omega
  exact ⟨h.n.swap' p q hp hq, (h.bc.other ⟨g, q, none⟩ hne _).other ⟨g, p, none⟩ hne _, h.hgc, h.gl, swapB_lt h.n.lb hp hq h.lt, (h.bl.setCell (p := ⟨g, q, none⟩) h.gB _).setCell (p := ⟨g, p, none⟩) h.gB _⟩
/-- The next column's number, in a new place. -/
theorem RS.next {w0 wr : World} {B g r cap C gc c : Nat} {bs : List Nat} {M : List (List Int)} (h : RS w0 wr B g r cap C gc c bs M) (hB : B ≤ w0.heap.size) :
    RS w0 (wr.alloc (.cells #[.int .i64 ((c : Int) + 1)] 3)) B g r cap C wr.heap.size (c + 1) bs M := by
  have hs := h.bl.size
  have hlow : Below wr.heap.size wr (wr.alloc (.cells #[.int .i64 ((c : Int) + 1)] 3)) := Below_alloc1 _
  exact ⟨h.n.below hlow, Box.new rfl, hs, h.gl, h.lt, h.bl.trans (hlow.mono (Nat.le_trans hB hs))⟩
/-- A cell of the outer slice, when another one has been written. -/
theorem Nst.again {w : World} {B g : Nat} {r cap C : Nat} {bs : List Nat} {M : List (List Int)} (h : Nst w B (some ⟨g, 0, none⟩) r cap C bs M) (p q : Nat) (v : Value) (hq : q < r) : ∃ u, (w.setCell ⟨g, p, none⟩ v).cell? ⟨g, q, none⟩ = some u := by
  have s1 := World.ownsRow.stored h.out p v
  refine ⟨((bs.map (rowV C)).set p v)[q]'(by rw [List.length_set, List.length_map, h.lb]; exact hq), ?_⟩
  rw [World.ownsRow.cellAt s1.1 q (by omega), List.getElem?_eq_getElem]
def cAt (w : World) (v : Value) : Nat := match v with
  | .pointer (some a) => (intOf ((w.cell? a).getD undef)).toNat
  | _ => 0
theorem cAt_eq {w : World} {a : Addr} {v : Int} (h : w.cell? a = some (.int .i64 v)) : cAt w (.pointer (some a)) = v.toNat := by
  show (intOf ((w.cell? a).getD undef)).toNat = _
  rw [h]; rfl
theorem elimN_at (M : List (List Int)) (rank c n : Nat) (hr : rank < M.length) : (elimN M rank c n).getD rank [] = M.getD rank [] := by
  rw [elimN_getD _ _ _ _ _ hr]
  split
  · unfold elimRow; rw [if_pos (.inl rfl)]
  · rfl
theorem set_getD (M : List (List Int)) (n : Nat) (hn : n < M.length) : M.set n (M.getD n []) = M := by
  apply List.ext_getElem (by simp)
  intro i h1 h2
  rw [List.getElem_set]
  split
  · rename_i e; subst e; simp [List.getD, hn]
  · rfl
theorem elimN_skip (M : List (List Int)) (rank c n : Nat) (hn : n < M.length) (h : n = rank ∨ at_ M n c = 0) : elimN M rank c (n + 1) = elimN M rank c n := by
  rw [← elimN_set M rank c n hn]
  have e1 : elimRow M rank c n = M.getD n [] := by unfold elimRow; rw [if_pos h]
  have e2 : (elimN M rank c n).getD n [] = M.getD n [] := by rw [elimN_getD _ _ _ _ _ hn, if_neg (by omega)]
  rw [e1, ← e2]
  exact set_getD _ n (by rw [elimN_length]; exact hn)
theorem set_set (M : List (List Int)) (i : Nat) (x y : List Int) : (M.set i x).set i y = M.set i y := by simp
theorem stepM_some {M : List (List Int)} {rank c a : Nat} (h : leader M rank c = some a) : stepM c (M, rank) = (elimN (scaled (swapR M rank (rank + a)) rank c) rank c (scaled (swapR M rank (rank + a)) rank c).length, rank + 1) := by
  unfold stepM; simp only [h]
theorem stepM_none {M : List (List Int)} {rank c : Nat} (h : leader M rank c = none) : stepM c (M, rank) = (M, rank) := by
  unfold stepM; simp only [h]
end Go.Proofs.Ytkjaddiagembaaa
