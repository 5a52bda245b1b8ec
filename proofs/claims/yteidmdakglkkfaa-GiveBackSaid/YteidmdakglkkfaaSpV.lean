/- The first place with room, found two ways: plainly. No program here. -/
import Derived.Test.YteidmdakglkkfaaSpU
namespace Go.Proofs.Yteidmdakglkkfaa
open Go.RowKit
set_option linter.unusedVariables false

theorem ApartFrom.strict : ∀ {rs : List (Nat × Nat)} {b : Nat}, ApartFrom b rs → rs.Pairwise (fun a b => a.2 < b.1 ∧ a.1 < a.2 ∧ b.1 < b.2)
  | [], _, _ => List.Pairwise.nil
  | r :: rs, b, h => List.Pairwise.cons (fun q hq => by
      have h1 := h.2.2.ge q hq
      have h2 : q.1 < q.2 := by
        have := h.2.2
        clear h1 h
        revert this
        generalize r.2 + 1 = c
        intro h
        induction rs generalizing c with
        | nil => simp at hq
        | cons x xs ih =>
          rcases List.mem_cons.1 hq with rfl | hq
          · exact h.2.1
          · exact ih hq _ h.2.2
      exact ⟨by omega, h.2.1, h2⟩) h.2.2.strict
theorem firstFit_of (k : Nat) : ∀ (rs : List (Nat × Nat)), rs.Pairwise (fun a b => a.2 < b.1 ∧ a.1 < a.2 ∧ b.1 < b.2) → ∀ r ∈ rs, k ≤ r.2 - r.1 → (∀ q ∈ rs, k ≤ q.2 - q.1 → r.1 ≤ q.1) → firstFit k rs = some r.1
  | h :: rs, hp, r, hr, hk, hm => by
    have hp' := List.pairwise_cons.1 hp
    rw [firstFit]
    by_cases hc : k ≤ h.2 - h.1
    · rw [if_pos hc]
      have h1 := hm h (List.mem_cons_self ..) hc
      rcases List.mem_cons.1 hr with rfl | hr
      · rfl
      · have := hp'.1 r hr; omega
    · rw [if_neg hc]
      rcases List.mem_cons.1 hr with rfl | hr
      · exact absurd hk hc
      · exact firstFit_of k rs hp'.2 r hr hk (fun q hq h2 => hm q (List.mem_cons_of_mem _ hq) h2)
theorem firstFit_none (k : Nat) : ∀ (rs : List (Nat × Nat)), (∀ q ∈ rs, ¬ k ≤ q.2 - q.1) → firstFit k rs = none
  | [], _ => rfl
  | h :: rs, hn => by rw [firstFit, if_neg (hn h (List.mem_cons_self ..)), firstFit_none k rs (fun q hq => hn q (List.mem_cons_of_mem _ hq))]
theorem pair_apart {rs : List (Nat × Nat)} (hp : rs.Pairwise (fun a b => a.2 < b.1 ∧ a.1 < a.2 ∧ b.1 < b.2)) {r q : Nat × Nat} (hr : r ∈ rs) (hq : q ∈ rs) : r = q ∨ r.2 < q.1 ∨ q.2 < r.1 := by
  induction rs with
  | nil => simp at hr
  | cons h rs ih =>
    have hp' := List.pairwise_cons.1 hp
    rcases List.mem_cons.1 hr with e1 | hr' <;> rcases List.mem_cons.1 hq with e2 | hq'
    · exact .inl (by rw [e1, e2])
    · rw [e1]; exact .inr (.inl (hp'.1 q hq').1)
    · rw [e2]; exact .inr (.inr (hp'.1 r hr').1)
    · exact ih hp'.2 hr' hq'
theorem zero_iff (us : List Nat) (j : Nat) : (j < us.length ∧ us.getD j 0 = 0) ↔ ∃ r ∈ runs (· == 0) (us.map tk), r.1 ≤ j ∧ j < r.2 := by
  rw [mem_runs, List.length_map, tk_getD]
  constructor
  · rintro ⟨h1, h2⟩; exact ⟨h1, by rw [h2]; rfl⟩
  · rintro ⟨h1, h2⟩
    refine ⟨h1, ?_⟩
    unfold tk at h2
    split at h2
    · assumption
    · simp at h2
theorem fit (us : List Nat) (k : Nat) (hk : 1 ≤ k) : firstFit k (runs (· == 0) (us.map tk)) = findRow k 0 0 us := by
  have hp := (runs_apart (· == 0) (us.map tk)).strict
  have hin := runs_in (· == 0) (us.map tk)
  rw [List.length_map] at hin
  have hrun : ∀ r ∈ runs (· == 0) (us.map tk), ∀ j, r.1 ≤ j → j < r.2 → us.getD j 0 = 0 := fun r hr j h1 h2 => ((zero_iff us j).2 ⟨r, hr, h1, h2⟩).2
  have hf := findRow_is us k hk
  revert hf
  cases findRow k 0 0 us with
  | none =>
    intro hf
    refine firstFit_none _ _ (fun r hr hc => ?_)
    have h0 := hin r hr
    obtain ⟨j, h1, h2, h3⟩ := hf r.1 (by omega)
    exact h3 (hrun r hr j h1 (by omega))
  | some f =>
    rintro ⟨h1, h2, h3⟩
    obtain ⟨r, hr, hr1, hr2⟩ := (zero_iff us f).1 ⟨by omega, h2 f (by omega) (by omega)⟩
    have hend : f + k ≤ r.2 := by
      apply Classical.byContradiction
      intro hn
      obtain ⟨q, hq, hq1, hq2⟩ := (zero_iff us r.2).1 ⟨by omega, h2 r.2 (by omega) (by omega)⟩
      rcases pair_apart hp hr hq with rfl | h | h <;> omega
    have hfr : r.1 = f := by
      apply Classical.byContradiction
      intro hn
      obtain ⟨j, a, b, c⟩ := h3 r.1 (by omega)
      exact c (hrun r hr j a (by omega))
    rw [← hfr]
    refine firstFit_of k _ hp r hr (by omega) (fun q hq hc => ?_)
    apply Classical.byContradiction
    intro hn
    have h0 := hin q hq
    obtain ⟨j, a, b, c⟩ := h3 q.1 (by omega)
    exact c (hrun q hq j a (by omega))
/-- what a take finds -/
theorem take_finds (s : Sp) (k : Nat) (h1 : 1 ≤ k) (h2 : k ≤ s.us.length) : (s.step ⟨1, 0, k⟩).2.code = (match findRow k 0 0 s.us with | none => 8 | some _ => 0) ∧ (s.step ⟨1, 0, k⟩).2.from_ = (match findRow k 0 0 s.us with | none => 0 | some f => f) := by
  have e : s.do_ ⟨1, 0, k⟩ = s.take k := by unfold Sp.do_; rw [if_pos rfl]
  have e1 : (s.step ⟨1, 0, k⟩).2.code = (s.take k).2.1 := by show (s.do_ _).2.1 = _; rw [e]
  have e2 : (s.step ⟨1, 0, k⟩).2.from_ = (s.take k).2.2 := by show (s.do_ _).2.2 = _; rw [e]
  rw [e1, e2, take_else h1 h2]
  cases findRow k 0 0 s.us <;> exact ⟨rfl, rfl⟩
end Go.Proofs.Yteidmdakglkkfaa
