/- Package snap: the time of birth decides. -/
import Derived.Test.YthjjfmnipemakaaKpQ
namespace Go.Proofs.Ythjjfmnipemakaa
set_option linter.unusedVariables false

/-- Which snapshots are there, by their numbers. -/
def onOf (th : List Bool) (n : Nat) : List Nat := (List.range n).filter fun j => th.getD j false
def lastN (M : List Int) (th : List Bool) : Nat → Int
  | 0 => -1
  | n + 1 => if th.getD n false then M.getD n 0 else lastN M th n
theorem onOf_succ (th : List Bool) (n : Nat) : onOf th (n + 1) = onOf th n ++ (if th.getD n false then [n] else []) := by
  unfold onOf
  rw [List.range_succ, List.filter_append, List.filter_cons, List.filter_nil]
theorem lastN_eq (M : List Int) (th : List Bool) : ∀ n, lastN M th n = match (onOf th n).getLast? with | none => -1 | some j => M.getD j 0
  | 0 => rfl
  | n + 1 => by
    rw [lastN, onOf_succ]
    cases h : th.getD n false with
    | true => rw [if_pos rfl, if_pos rfl, List.getLast?_append]; rfl
    | false => rw [if_neg (by decide), if_neg (by decide), List.append_nil]; exact lastN_eq M th n
theorem onOf_set (th : List Bool) (n w : Nat) : onOf (th.set w false) n = (onOf th n).filter (fun j => decide (j ≠ w)) := by
  unfold onOf
  rw [List.filter_filter]
  congr 1
  funext j
  simp only [List.getD_eq_getElem?_getD, List.getElem?_set]
  by_cases h : w = j
  · subst h
    rw [if_pos rfl]
    split <;> simp
  · rw [if_neg h]
    simp; intro _ e; exact h e.symm
theorem onOf_app (th : List Bool) (b : Bool) (n : Nat) (h : n ≤ th.length) : onOf (th ++ [b]) n = onOf th n := by
  unfold onOf
  apply List.filter_congr
  intro j hj
  have := List.mem_range.1 hj
  simp only [List.getD_eq_getElem?_getD]
  rw [List.getElem?_append_left (by omega)]
theorem erase_filter : ∀ (l : List Nat) (i w : Nat), l.Pairwise (· < ·) → l[i]? = some w → l.eraseIdx i = l.filter (fun j => decide (j ≠ w))
  | [], i, w, _, h => by simp at h
  | x :: l, 0, w, hp, h => by
    obtain rfl : x = w := by simpa using h
    have hp' := List.pairwise_cons.1 hp
    rw [List.eraseIdx_cons_zero, List.filter_cons, if_neg (by simp), List.filter_eq_self.2]
    intro y hy
    have := hp'.1 y hy
    simp; omega
  | x :: l, i + 1, w, hp, h => by
    have hp' := List.pairwise_cons.1 hp
    have hw : l[i]? = some w := by simpa using h
    have := hp'.1 w (List.mem_of_getElem? hw)
    rw [List.eraseIdx_cons_succ, List.filter_cons, if_pos (by simp; omega), erase_filter l i w hp'.2 hw]
theorem onOf_inc (th : List Bool) (n : Nat) : (onOf th n).Pairwise (· < ·) := List.Pairwise.sublist List.filter_sublist List.pairwise_lt_range
theorem onOf_mem {th : List Bool} {n j : Nat} (h : j ∈ onOf th n) : j < n ∧ th.getD j false = true := by
  unfold onOf at h
  have := List.mem_filter.1 h
  exact ⟨List.mem_range.1 this.1, this.2⟩
/-- What the law keeps beside the keeper. -/
structure Births (s : Kp) (M : List Int) (th : List Bool) : Prop where
  ml : (M.length : Int) = s.kept
  tl : th.length = M.length
  on : s.shots.map (·.num) = (onOf th th.length).map (fun j : Nat => (j : Int))
  md : s.shots.map (·.made) = (onOf th th.length).map (fun j : Nat => M.getD j 0 + 1)
  b1 : ∀ x ∈ s.blocks, 1 ≤ x.1
theorem Births.start : Births kp0 [] [] := ⟨rfl, rfl, rfl, rfl, fun x hx => by simp [kp0] at hx⟩
theorem Births.last {s : Kp} {M : List Int} {th : List Bool} (h : Births s M th) : lastN M th M.length = match s.shots.getLast? with | none => -1 | some x => x.made - 1 := by
  rw [lastN_eq, ← h.tl]
  have h1 := congrArg List.getLast? h.md
  rw [List.getLast?_map, List.getLast?_map] at h1
  cases hs : s.shots.getLast? with
  | none =>
    rw [hs] at h1
    cases ho : (onOf th th.length).getLast? with
    | none => rfl
    | some j => rw [ho] at h1; simp at h1
  | some x =>
    rw [hs] at h1
    cases ho : (onOf th th.length).getLast? with
    | none => rw [ho] at h1; simp at h1
    | some j => rw [ho] at h1; simp at h1; show M.getD j 0 = x.made - 1; simp; omega
/-- What the law makes of its lists at a move that went. -/
def nextM (M : List Int) (k : Int) (i : Nat) : List Int := if k = 3 then M ++ [(i : Int)] else M
def nextT (th : List Bool) (k : Int) (w : Nat) : List Bool := if k = 3 then th ++ [true] else if k = 4 then th.set w false else th
theorem Births.step {s : Kp} {M : List Int} {th : List Bool} (h : Births s M th) {n : Nat} (hi : s.Inv n) (m : Int × Nat) (hm : MoveOk m) :
    ((s.step m).2.1 ≠ 0 → (s.step m).2.2 = [] ∧ Births (s.step m).1 M th) ∧
    ((s.step m).2.1 = 0 → Births (s.step m).1 (nextM M m.1 n) (nextT th m.1 m.2) ∧
      (m.1 = 4 → m.2 < th.length) ∧ (m.1 = 2 → m.2 < s.blocks.length ∧ (((s.step m).2.2 = [(m.2 : Int)] ∧ lastN M th M.length < s.born m.2 - 1) ∨ ((s.step m).2.2 = [] ∧ ¬ lastN M th M.length < s.born m.2 - 1)))) := by
  have hnow := hi.now
  rcases step_cases s m hm with ⟨h0, h1, h2⟩ | ⟨h0, hn, hg⟩
  · refine ⟨fun _ => ⟨h2, ?_⟩, fun e => absurd e h0⟩
    rw [h1]
    exact ⟨h.ml, h.tl, h.on, h.md, h.b1⟩
  · refine ⟨fun e => absurd h0 e, fun _ => ⟨?_, fun h4 => ?_, fun h2 => ?_⟩⟩
    · have b1' : ∀ x ∈ (s.step m).1.blocks, 1 ≤ x.1 := by
        intro x hx
        cases hg with
        | birth hk hb =>
          rw [hb] at hx
          rcases List.mem_append.1 hx with h' | h'
          · exact h.b1 x h'
          · obtain rfl := List.mem_singleton.1 h'; show 1 ≤ s.now + 1; omega
        | shot hk hb => rw [hb] at hx; exact h.b1 x hx
        | drop hk hb => rw [hb] at hx; exact h.b1 x hx
        | kill hk hw hl hb =>
          rw [hb] at hx
          rcases List.mem_or_eq_of_mem_set hx with h' | h'
          · exact h.b1 x h'
          · subst h'
            have hw' : m.2 < s.blocks.length := hw
            have := h.b1 _ (List.getElem_mem hw')
            have e : ({ s with now := s.now + 1 } : Kp).born m.2 = s.blocks[m.2].1 := by unfold Kp.born; simp [List.getD, hw']
            show 1 ≤ Kp.born _ _; rw [e]; exact this
      have tlk : (th.length : Int) = s.kept := by rw [h.tl]; exact h.ml
      rcases hg.nums with ⟨a1, a2, a3, a4, a5⟩ | ⟨a0, a1, a2, a3⟩ | ⟨a0, a3, i, ai, a1, a2⟩
      · have e1 : nextM M m.1 n = M := by unfold nextM; rw [if_neg a4]
        have e2 : nextT th m.1 m.2 = th := by unfold nextT; rw [if_neg a4, if_neg a5]
        rw [e1, e2]
        exact ⟨by rw [a3]; exact h.ml, h.tl, by rw [a1]; exact h.on, by rw [a2]; exact h.md, b1'⟩
      · have e1 : nextM M m.1 n = M ++ [(n : Int)] := by unfold nextM; rw [if_pos a0]
        have e2 : nextT th m.1 m.2 = th ++ [true] := by unfold nextT; rw [if_pos a0]
        rw [e1, e2]
        have eon : onOf (th ++ [true]) (th ++ [true]).length = onOf th th.length ++ [th.length] := by
          rw [List.length_append, List.length_singleton, onOf_succ, onOf_app _ _ _ (Nat.le_refl _), if_pos (by simp [List.getD])]
        refine ⟨by rw [a3, List.length_append]; have := h.ml; show ((M.length + 1 : Nat) : Int) = s.kept + 1; omega, by rw [List.length_append, List.length_append, h.tl]; rfl, ?_, ?_, b1'⟩
        · rw [a1, eon, List.map_append]
          congr 1
          · exact h.on
          · show [s.kept] = [(th.length : Int)]; rw [tlk]
        · rw [a2, eon, List.map_append]
          have hA : s.shots.map (·.made) = (onOf th th.length).map (fun j : Nat => (M ++ [(n : Int)]).getD j 0 + 1) := by
            rw [h.md]
            apply List.map_congr_left
            intro j hj
            have := (onOf_mem hj).1
            rw [List.getD_eq_getElem?_getD, List.getD_eq_getElem?_getD, List.getElem?_append_left (by rw [← h.tl]; exact this)]
          have hB : [({ s with now := s.now + 1 } : Kp).now] = [th.length].map (fun j : Nat => (M ++ [(n : Int)]).getD j 0 + 1) := by
            have e : (M ++ [(n : Int)]).getD th.length 0 = n := by rw [h.tl]; simp [List.getD]
            show [s.now + 1] = [(M ++ [(n : Int)]).getD th.length 0 + 1]
            rw [e, hnow]
          rw [← hA, ← hB]
      · have e1 : nextM M m.1 n = M := by unfold nextM; rw [if_neg (by omega)]
        have e2 : nextT th m.1 m.2 = th.set m.2 false := by unfold nextT; rw [if_neg (by omega), if_pos a0]
        rw [e1, e2]
        have ai' : (onOf th th.length)[i]? = some m.2 := by
          have hai : (s.shots.map (·.num))[i]? = some (m.2 : Int) := ai
          rw [h.on, List.getElem?_map] at hai
          cases hq : (onOf th th.length)[i]? with
          | none => rw [hq] at hai; simp at hai
          | some j => rw [hq] at hai; simp at hai; congr 1; omega
        have eon : onOf (th.set m.2 false) (th.set m.2 false).length = (onOf th th.length).eraseIdx i := by
          rw [List.length_set, onOf_set, erase_filter _ i m.2 (onOf_inc _ _) ai']
        refine ⟨by rw [a3]; exact h.ml, by rw [List.length_set]; exact h.tl, ?_, ?_, b1'⟩
        · rw [a1, eon, map_eraseIdxP]; show List.eraseIdx (s.shots.map (·.num)) i = _; rw [h.on]
        · rw [a2, eon, map_eraseIdxP]; show List.eraseIdx (s.shots.map (·.made)) i = _; rw [h.md]
    · rcases hg.nums with ⟨_, _, _, _, a5⟩ | ⟨a0, _⟩ | ⟨_, _, i, ai, _⟩
      · exact absurd h4 a5
      · omega
      · have hai : (s.shots.map (·.num))[i]? = some (m.2 : Int) := ai
        rw [h.on] at hai
        obtain ⟨j, hj, hjm⟩ := List.mem_map.1 (List.mem_of_getElem? hai)
        have := (onOf_mem hj).1
        omega
    · rw [h.last]
      cases hg with
      | birth hk => omega
      | shot hk => omega
      | drop hk => omega
      | kill hk hw hl hb hp hs =>
        have hw' : m.2 < s.blocks.length := hw
        have hbn : 1 ≤ s.born m.2 := by
          have e : s.born m.2 = s.blocks[m.2].1 := by unfold Kp.born; simp [List.getD, hw']
          rw [e]; exact h.b1 _ (List.getElem_mem hw')
        refine ⟨hw', ?_⟩
        rcases hs with ⟨g1, _, g3⟩ | ⟨g1, x, hx, g3, _⟩
        · refine .inl ⟨g1, ?_⟩
          cases hq : s.shots.getLast? with
          | none => show (-1 : Int) < _; omega
          | some x =>
            have : x.made < s.born m.2 := g3 x hq
            show x.made - 1 < _; omega
        · refine .inr ⟨g1, ?_⟩
          have hx' : s.shots.getLast? = some x := hx
          rw [hx']
          have : s.born m.2 ≤ x.made := g3
          show ¬ x.made - 1 < _; omega
/-- The law's lists behind n moves. -/
def bM (ms : List (Int × Nat)) : Nat → List Int
  | 0 => []
  | n + 1 => match ms[n]? with
    | none => bM ms n
    | some m => if ((kp0.fin (ms.take n)).step m).2.1 = 0 then nextM (bM ms n) m.1 n else bM ms n
def bT (ms : List (Int × Nat)) : Nat → List Bool
  | 0 => []
  | n + 1 => match ms[n]? with
    | none => bT ms n
    | some m => if ((kp0.fin (ms.take n)).step m).2.1 = 0 then nextT (bT ms n) m.1 m.2 else bT ms n
theorem births {ms : List (Int × Nat)} (hm : ∀ m ∈ ms, MoveOk m) : ∀ n, n ≤ ms.length → Births (kp0.fin (ms.take n)) (bM ms n) (bT ms n)
  | 0, _ => Births.start
  | n + 1, h => by
    have ih := births hm n (by omega)
    have hx := List.getElem?_eq_getElem (show n < ms.length by omega)
    have hs := ih.step (Kp.Inv.take hm n (by omega)) _ (hm _ (List.getElem_mem (show n < ms.length by omega)))
    rw [fin_take_succ kp0 ms n _ hx, bM, bT, hx]
    by_cases hc : ((kp0.fin (ms.take n)).step ms[n]).2.1 = 0
    · show Births _ (if _ then _ else _) (if _ then _ else _)
      rw [if_pos hc, if_pos hc]
      exact (hs.2 hc).1
    · show Births _ (if _ then _ else _) (if _ then _ else _)
      rw [if_neg hc, if_neg hc]
      exact (hs.1 hc).2
def bB (s : Kp) : List Int := s.blocks.map fun x => x.1 - 1
theorem bB_step {s : Kp} {n : Nat} (hi : s.Inv n) (m : Int × Nat) (hm : MoveOk m) : bB (s.step m).1 = if (s.step m).2.1 = 0 ∧ m.1 = 1 then bB s ++ [(n : Int)] else bB s := by
  rcases step_cases s m hm with ⟨h0, h1, _⟩ | ⟨h0, _, hg⟩
  · rw [if_neg (fun e => h0 e.1), h1]; rfl
  · cases hg with
    | birth hk hb =>
      rw [if_pos ⟨h0, hk⟩]
      unfold bB
      rw [hb, List.map_append]
      congr 1
      show [s.now + 1 - 1] = [(n : Int)]
      rw [hi.now]; simp
    | shot hk hb => rw [if_neg (by omega)]; unfold bB; rw [hb]
    | drop hk hb => rw [if_neg (by omega)]; unfold bB; rw [hb]
    | kill hk hw hl hb =>
      rw [if_neg (by omega)]; unfold bB; rw [hb, List.map_set]
      have hw' : m.2 < s.blocks.length := hw
      have e : ({ s with now := s.now + 1 } : Kp).born m.2 = s.blocks[m.2].1 := by unfold Kp.born; simp [List.getD, hw']
      show List.set _ _ (Kp.born _ _ - 1) = _
      rw [e, ← List.getElem_map (f := fun x : Int × Bool => x.1 - 1) (h := by simpa using hw'), List.set_getElem_self]
theorem bB_at (s : Kp) (w : Nat) (h : w < s.blocks.length) : (bB s).getD w 0 = s.born w - 1 := by
  unfold bB Kp.born
  simp [List.getD, h]
theorem lastN_range (M : List Int) (th : List Bool) (hM : ∀ x ∈ M, -1000000 ≤ x ∧ x ≤ 1000000) : ∀ n, -1000000 ≤ lastN M th n ∧ lastN M th n ≤ 1000000
  | 0 => by show (-1000000 : Int) ≤ -1 ∧ (-1 : Int) ≤ 1000000; omega
  | n + 1 => by
    rw [lastN]
    split
    · rw [List.getD_eq_getElem?_getD]
      cases hq : M[n]? with
      | none => exact ⟨by decide, by decide⟩
      | some x => exact hM x (List.mem_of_getElem? hq)
    · exact lastN_range M th hM n
end Go.Proofs.Ythjjfmnipemakaa
