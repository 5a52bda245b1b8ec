/- All given back, plainly. No program here. -/
import Derived.Test.YteidmdakglkkfaaSpV
namespace Go.Proofs.Yteidmdakglkkfaa
open Go.RowKit
set_option linter.unusedVariables false

/-- what is taken is given back, unit by unit: the first k units -/
def gives (us : List Nat) (k : Nat) : List Deed := ((List.range k).filter fun j => us.getD j 0 == 1).map fun j : Nat => (⟨2, (j : Int), 1⟩ : Deed)
theorem gives_succ (us : List Nat) (k : Nat) : gives us (k + 1) = gives us k ++ if us.getD k 0 == 1 then [⟨2, (k : Int), 1⟩] else [] := by
  unfold gives
  rw [List.range_succ, List.filter_append, List.map_append]
  congr 1
  by_cases h : (us.getD k 0 == 1) = true
  · rw [if_pos h]; simp only [List.filter_cons, h]; rfl
  · rw [if_neg h]
    have h2 : (us.getD k 0 == 1) = false := by simpa using h
    simp only [List.filter_cons, h2]; rfl
theorem gives_length (us : List Nat) (k : Nat) : (gives us k).length ≤ k := by
  unfold gives
  rw [List.length_map]
  have := List.length_filter_le (fun j => us.getD j 0 == 1) (List.range k)
  rwa [List.length_range] at this
theorem gives_is (us : List Nat) (k : Nat) (hk : k ≤ 100) : ∀ d ∈ gives us k, DeedIs d := by
  intro d hd
  unfold gives at hd
  obtain ⟨j, hj, rfl⟩ := List.mem_map.1 hd
  have := (List.mem_filter.1 hj).1
  rw [List.mem_range] at this
  refine .inr (.inl ⟨rfl, ?_, ?_, ?_, ?_⟩) <;> simp <;> omega
def back (u : Nat) : Nat := if u = 1 then 2 else u
theorem play_gives {n : Nat} {s : Sp} (hok : s.Ok n) : ∀ k, k ≤ n → (s.play (gives s.us k)).1.us = mapTo back s.us k
  | 0, _ => by rw [mapTo_zero]; rfl
  | k + 1, hk => by
    have ih := play_gives hok k (by omega)
    have hl := hok.len
    have hks : k < s.us.length := by omega
    rw [gives_succ]
    by_cases h : (s.us.getD k 0 == 1) = true
    · have h1 : s.us.getD k 0 = 1 := by simpa using h
      rw [if_pos h, play_append]
      have hlk : (s.play (gives s.us k)).1.us.length = n := (Sp.Ok.play _ hok).len
      obtain ⟨t, ht⟩ : ∃ t, (s.play (gives s.us k)).1 = t := ⟨_, rfl⟩
      rw [ht] at ih hlk ⊢
      have htk : t.us.getD k 0 = 1 := by rw [ih, mapTo_getD _ _ _ _ hks, if_neg (by omega), h1]
      have hgive : t.give k 1 = ({ t with us := setR t.us k (k + 1) 2 }, 0) := by
        rcases give_cases t (k : Int) 1 with ⟨code, hc, e⟩ | ⟨fn, cn, e1, e2, _, _, _, e⟩
        · exfalso
          have ha : allR t.us k (k + 1) 1 = true := by
            unfold allR
            rw [List.all_eq_true]
            intro x hx
            rw [List.mem_range'_1] at hx
            obtain rfl : x = k := by omega
            rw [htk]; rfl
          unfold Sp.give at e
          rw [if_neg (by omega), show ((k : Int) + 1).toNat = k + 1 by omega, Int.toNat_natCast, if_pos ha] at e
          exact hc (by injection e with _ e; exact e.symm)
        · obtain rfl : k = fn := by omega
          obtain rfl : cn = 1 := by omega
          exact e
      show ((t.step ⟨2, k, 1⟩).1).us = _
      have e : (t.step ⟨2, k, 1⟩).1 = (t.give k 1).1 := by
        show (t.do_ _).1 = _
        unfold Sp.do_
        rw [if_neg (by show ¬ (2 : Int) = 1; omega), if_pos rfl]
      rw [e, hgive]
      show setR t.us k (k + 1) 2 = _
      rw [setR_step _ _ _ _ (Nat.le_refl _) (by omega), setR_nil, ih, mapTo_step _ _ _ hks, h1]; rfl
    · have h1 : ¬ s.us.getD k 0 = 1 := by simpa using h
      rw [if_neg h, List.append_nil, ih, mapTo_keep _ _ _ hks (by unfold back; rw [if_neg h1])]
theorem step_commit (s : Sp) : (s.step ⟨3, 0, 0⟩).1 = s.commit := by
  show (s.do_ _).1 = _
  unfold Sp.do_
  rw [if_neg (by show ¬ (3 : Int) = 1; omega), if_neg (by show ¬ (3 : Int) = 2; omega), if_pos rfl]
theorem all_back {n : Nat} {s : Sp} (hok : s.Ok n) : ∀ j, (s.play (gives s.us n ++ [⟨3, 0, 0⟩, ⟨3, 0, 0⟩])).1.us.getD j 0 = 0 := by
  intro j
  have hg := play_gives hok n (Nat.le_refl _)
  have hokg := Sp.Ok.play (gives s.us n) hok
  rw [play_append]
  obtain ⟨t, ht⟩ : ∃ t, (s.play (gives s.us n)).1 = t := ⟨_, rfl⟩
  rw [ht] at hg hokg ⊢
  show (((t.step ⟨3, 0, 0⟩).1.step ⟨3, 0, 0⟩).1).us.getD j 0 = 0
  rw [step_commit, step_commit, commit_is, commit_is]
  show ((t.us.map later).map later).getD j 0 = 0
  have hl := hok.len
  have hlg := hokg.len
  by_cases hj : j < n
  · rw [getD_map _ _ _ (by rw [List.length_map]; omega), getD_map _ _ _ (by omega), hg, mapTo_all _ _ _ (by omega), getD_map _ _ _ (by omega)]
    have := hok.low j
    have h4 : s.us.getD j 0 = 0 ∨ s.us.getD j 0 = 1 ∨ s.us.getD j 0 = 2 ∨ s.us.getD j 0 = 3 := by omega
    rcases h4 with h | h | h | h <;> rw [h] <;> rfl
  · have e : ((t.us.map later).map later)[j]? = none := List.getElem?_eq_none (by simp; omega)
    unfold List.getD
    rw [e]; rfl
theorem zeros_left {n : Nat} {s : Sp} (hok : s.Ok n) (hz : ∀ j, s.us.getD j 0 = 0) : s.left = n ∧ condensed (s.us.map tk) = [] := by
  have hall : ∀ u ∈ s.us, u = 0 := by
    intro u hu
    obtain ⟨i, hi, rfl⟩ := List.mem_iff_getElem.1 hu
    have := hz i
    simpa [List.getD, hi] using this
  constructor
  · rw [hok.left, ← hok.len]
    congr 1
    unfold cnt
    rw [List.countP_eq_length]
    intro u hu
    rw [hall u hu]; rfl
  · unfold condensed
    have : (runs (· == 1) (s.us.map tk)).length ≤ 0 := by
      refine Nat.le_trans (runs_few _ _) ?_
      unfold cnt
      rw [Nat.le_zero, List.countP_eq_zero]
      intro u hu
      obtain ⟨x, hx, rfl⟩ := List.mem_map.1 hu
      rw [hall x hx]; decide
    rw [List.eq_nil_of_length_eq_zero (by omega : (runs (· == 1) (s.us.map tk)).length = 0)]; rfl
end Go.Proofs.Yteidmdakglkkfaa
