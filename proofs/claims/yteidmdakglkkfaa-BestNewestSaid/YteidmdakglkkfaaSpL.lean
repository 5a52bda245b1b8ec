/- Spaces, plainly: what stays true from deed to deed. No program here. -/
import Derived.Test.YteidmdakglkkfaaSpC
namespace Go.Proofs.Yteidmdakglkkfaa
open Go.RowKit
set_option linter.unusedVariables false

def cnt (p : Nat → Bool) (us : List Nat) : Nat := us.countP p
theorem mem_runsGo (p : Nat → Bool) (j : Nat) : ∀ (us : List Nat) (i : Nat) (fo : Option Nat), (∀ f, fo = some f → f ≤ i) →
    ((∃ r ∈ runsGo p i fo us, r.1 ≤ j ∧ j < r.2) ↔ ((∃ f, fo = some f ∧ f ≤ j ∧ j < i) ∨ (i ≤ j ∧ j < i + us.length ∧ p (us.getD (j - i) 0) = true)))
  | [], i, none, _ => by simp [runsGo]; omega
  | [], i, some f, _ => by simp [runsGo]; omega
  | u :: us, i, none, h => by
    rw [runsGo]
    by_cases hp : p u = true
    · rw [if_pos hp, mem_runsGo p j us (i + 1) (some i) (fun f hf => by injection hf; omega)]
      constructor
      · rintro (⟨f, hf, h1, h2⟩ | ⟨h1, h2, h3⟩)
        · injection hf with hf
          obtain rfl : j = i := by omega
          exact .inr ⟨by omega, by simp, by simpa using hp⟩
        · refine .inr ⟨by omega, by simp; omega, ?_⟩
          rw [show j - i = (j - (i + 1)) + 1 by omega]; simpa using h3
      · rintro (⟨f, hf, _⟩ | ⟨h1, h2, h3⟩)
        · cases hf
        · by_cases hj : j = i
          · exact .inl ⟨i, rfl, by omega, by omega⟩
          · refine .inr ⟨by omega, by simp at h2; omega, ?_⟩
            rw [show j - i = (j - (i + 1)) + 1 by omega] at h3; simpa using h3
    · rw [if_neg hp, mem_runsGo p j us (i + 1) none (fun f hf => by cases hf)]
      constructor
      · rintro (⟨f, hf, _⟩ | ⟨h1, h2, h3⟩)
        · cases hf
        · refine .inr ⟨by omega, by simp; omega, ?_⟩
          rw [show j - i = (j - (i + 1)) + 1 by omega]; simpa using h3
      · rintro (⟨f, hf, _⟩ | ⟨h1, h2, h3⟩)
        · cases hf
        · by_cases hj : j = i
          · subst hj; rw [Nat.sub_self] at h3; exact absurd (by simpa using h3) hp
          · refine .inr ⟨by omega, by simp at h2; omega, ?_⟩
            rw [show j - i = (j - (i + 1)) + 1 by omega] at h3; simpa using h3
  | u :: us, i, some f, h => by
    have hf := h f rfl
    rw [runsGo]
    by_cases hp : p u = true
    · rw [if_pos hp, mem_runsGo p j us (i + 1) (some f) (fun f' hf' => by injection hf'; omega)]
      constructor
      · rintro (⟨f', hf', h1, h2⟩ | ⟨h1, h2, h3⟩)
        · injection hf' with hf'
          subst hf'
          by_cases hj : j = i
          · subst hj; exact .inr ⟨by omega, by simp, by simpa using hp⟩
          · exact .inl ⟨f, rfl, h1, by omega⟩
        · refine .inr ⟨by omega, by simp; omega, ?_⟩
          rw [show j - i = (j - (i + 1)) + 1 by omega]; simpa using h3
      · rintro (⟨f', hf', h1, h2⟩ | ⟨h1, h2, h3⟩)
        · injection hf' with hf'
          subst hf'
          exact .inl ⟨f, rfl, h1, by omega⟩
        · by_cases hj : j = i
          · exact .inl ⟨f, rfl, by omega, by omega⟩
          · refine .inr ⟨by omega, by simp at h2; omega, ?_⟩
            rw [show j - i = (j - (i + 1)) + 1 by omega] at h3; simpa using h3
    · rw [if_neg hp]
      have ih := mem_runsGo p j us (i + 1) none (fun f hf => by cases hf)
      constructor
      · rintro ⟨r, hr, h1, h2⟩
        rcases List.mem_cons.1 hr with rfl | hr
        · exact .inl ⟨f, rfl, h1, h2⟩
        · rcases ih.1 ⟨r, hr, h1, h2⟩ with ⟨_, hf', _⟩ | ⟨h1, h2, h3⟩
          · cases hf'
          · refine .inr ⟨by omega, by simp; omega, ?_⟩
            rw [show j - i = (j - (i + 1)) + 1 by omega]; simpa using h3
      · rintro (⟨f', hf', h1, h2⟩ | ⟨h1, h2, h3⟩)
        · injection hf' with hf'
          subst hf'
          exact ⟨(f, i), List.mem_cons_self .., h1, h2⟩
        · by_cases hj : j = i
          · subst hj; rw [Nat.sub_self] at h3; exact absurd (by simpa using h3) hp
          · obtain ⟨r, hr, h4⟩ := ih.2 (.inr ⟨by omega, by simp at h2; omega, by rw [show j - i = (j - (i + 1)) + 1 by omega] at h3; simpa using h3⟩)
            exact ⟨r, List.mem_cons_of_mem _ hr, h4⟩
theorem mem_runs (p : Nat → Bool) (us : List Nat) (j : Nat) : (∃ r ∈ runs p us, r.1 ≤ j ∧ j < r.2) ↔ (j < us.length ∧ p (us.getD j 0) = true) := by
  rw [runs, mem_runsGo p j us 0 none (fun f hf => by cases hf)]
  simp
/-- the units of the ranges are counted -/
def spanOf (rs : List (Nat × Nat)) : Int := (rs.map fun r => (r.2 : Int) - r.1).sum
theorem span_runsGo (p : Nat → Bool) : ∀ (us : List Nat) (i : Nat) (fo : Option Nat), spanOf (runsGo p i fo us) = (match fo with | none => 0 | some f => (i : Int) - f) + (cnt p us : Nat)
  | [], i, none => by simp [runsGo, spanOf, cnt]
  | [], i, some f => by simp [runsGo, spanOf, cnt]
  | u :: us, i, none => by
    rw [runsGo, cnt, List.countP_cons]
    by_cases hp : p u = true
    · rw [if_pos hp, span_runsGo p us (i + 1) (some i), if_pos hp, cnt]; simp; omega
    · rw [if_neg hp, span_runsGo p us (i + 1) none, if_neg hp, cnt]; simp
  | u :: us, i, some f => by
    rw [runsGo, cnt, List.countP_cons]
    by_cases hp : p u = true
    · rw [if_pos hp, span_runsGo p us (i + 1) (some f), if_pos hp, cnt]; simp; omega
    · have ih := span_runsGo p us (i + 1) none
      rw [if_neg hp, if_neg hp, spanOf, List.map_cons, List.sum_cons]
      simp only [spanOf] at ih
      rw [ih, cnt]; simp
theorem span_runs (p : Nat → Bool) (us : List Nat) : spanOf (runs p us) = (cnt p us : Nat) := by rw [runs, span_runsGo]; simp

theorem freeRuns_us (n : Nat) : ∀ (rs : List (Nat × Nat)) (s : Sp), RunsIn n rs → s.us.length = n →
    (rs.foldl freeRun s).us.length = n ∧ (∀ j, (rs.foldl freeRun s).us.getD j 0 = if (∃ r ∈ rs, r.1 ≤ j ∧ j < r.2) then 0 else s.us.getD j 0) ∧ (rs.foldl freeRun s).left = s.left + spanOf rs ∧ (rs.foldl freeRun s).log = s.log ++ rs.map (fun r => (true, r.1, r.2))
  | [], s, _, h => ⟨h, fun j => by simp, by simp [spanOf], by simp⟩
  | r :: rs, s, hr, h => by
    have h0 := hr r (List.mem_cons_self ..)
    have h1 : (freeRun s r).us.length = n := by show (setR _ _ _ _).length = n; rw [setR_length _ _ _ _ (by omega) (by omega)]; exact h
    obtain ⟨i1, i2, i3, i4⟩ := freeRuns_us n rs (freeRun s r) (fun q hq => hr q (List.mem_cons_of_mem _ hq)) h1
    refine ⟨i1, fun j => ?_, ?_, ?_⟩
    · rw [List.foldl_cons, i2 j]
      have hj : (freeRun s r).us.getD j 0 = if r.1 ≤ j ∧ j < r.2 then 0 else s.us.getD j 0 := setR_getD _ _ _ _ (by omega) (by omega) j
      by_cases ha : ∃ q ∈ rs, q.1 ≤ j ∧ j < q.2
      · obtain ⟨q, hq, h2⟩ := ha
        rw [if_pos ⟨q, hq, h2⟩, if_pos ⟨q, List.mem_cons_of_mem _ hq, h2⟩]
      · rw [if_neg ha, hj]
        by_cases hb : r.1 ≤ j ∧ j < r.2
        · rw [if_pos hb, if_pos ⟨r, List.mem_cons_self .., hb⟩]
        · rw [if_neg hb, if_neg]
          rintro ⟨q, hq, h2⟩
          rcases List.mem_cons.1 hq with rfl | hq
          · exact hb h2
          · exact ha ⟨q, hq, h2⟩
    · rw [List.foldl_cons, i3]
      show s.left + _ + _ = s.left + spanOf (r :: rs)
      simp only [spanOf, List.map_cons, List.sum_cons]; omega
    · rw [List.foldl_cons, i4]
      show s.log ++ [_] ++ _ = _
      simp
/-- a commit: what rested is free, what was given back rests -/
def later (u : Nat) : Nat := if u = 3 then 0 else if u = 2 then 3 else u
theorem commit_is (s : Sp) : s.commit = ⟨s.us.map later, s.left + (cnt (· == 3) s.us : Nat), s.log ++ (runs (· == 3) s.us).map (fun r => (true, r.1, r.2))⟩ := by
  obtain ⟨i1, i2, i3, i4⟩ := freeRuns_us s.us.length (runs (· == 3) s.us) s (runs_in _ _) rfl
  have e : s.freed.us.map (fun u => if u = 2 then 3 else u) = s.us.map later := by
    apply list_ext (by rw [List.length_map, List.length_map]; exact i1)
    intro j hj
    rw [List.length_map] at hj
    have hj' : j < s.us.length := by rw [show s.freed.us.length = s.us.length from i1] at hj; exact hj
    have g1 : ∀ (f : Nat → Nat) (l : List Nat), j < l.length → (l.map f).getD j 0 = f (l.getD j 0) := fun f l hl => by simp [List.getD, hl]
    rw [g1 _ _ hj, g1 _ _ hj']
    by_cases h3 : s.us.getD j 0 = 3
    · have hv : s.freed.us.getD j 0 = 0 := by
        rw [show s.freed.us.getD j 0 = _ from i2 j, if_pos ((mem_runs _ _ _).2 ⟨hj', by rw [h3]; rfl⟩)]
      rw [hv, h3]; rfl
    · have hv : s.freed.us.getD j 0 = s.us.getD j 0 := by
        rw [show s.freed.us.getD j 0 = _ from i2 j, if_neg (fun h => h3 (by have := ((mem_runs _ _ _).1 h).2; simpa using this))]
      rw [hv, later, if_neg h3]
  unfold Sp.commit
  rw [e]
  show Sp.mk _ s.freed.left s.freed.log = _
  rw [show s.freed.left = _ from i3, show s.freed.log = _ from i4, span_runs]

theorem cnt_setR (p : Nat → Bool) (us : List Nat) (f t v : Nat) (h : f ≤ t) (ht : t ≤ us.length) : cnt p (setR us f t v) + cnt p ((us.drop f).take (t - f)) = cnt p us + if p v then t - f else 0 := by
  have e : us = us.take f ++ ((us.drop f).take (t - f) ++ us.drop t) := by
    have : us.drop t = (us.drop f).drop (t - f) := by rw [List.drop_drop]; congr 1; omega
    rw [this, List.take_append_drop, List.take_append_drop]
  have h1 : cnt p us = cnt p (us.take f) + (cnt p ((us.drop f).take (t - f)) + cnt p (us.drop t)) := by
    conv => lhs; rw [e]
    simp [cnt, List.countP_append]
  have h2 : cnt p (setR us f t v) = cnt p (us.take f) + (if p v then t - f else 0) + cnt p (us.drop t) := by
    simp only [cnt, setR, List.countP_append, List.countP_replicate]
  omega
theorem cnt_none (p : Nat → Bool) (us : List Nat) (f t : Nat) (h : f ≤ t) (ht : t ≤ us.length) (hp : ∀ i, f ≤ i → i < t → p (us.getD i 0) = false) : cnt p ((us.drop f).take (t - f)) = 0 := by
  unfold cnt
  rw [List.countP_eq_zero]
  intro x hx
  obtain ⟨i, hi, rfl⟩ := List.mem_iff_getElem.1 hx
  simp at hi
  have := hp (f + i) (by omega) (by omega)
  simp [List.getD, show f + i < us.length by omega] at this
  simp [this]
theorem cnt_all (p : Nat → Bool) (us : List Nat) (f t : Nat) (h : f ≤ t) (ht : t ≤ us.length) (hp : ∀ i, f ≤ i → i < t → p (us.getD i 0) = true) : cnt p ((us.drop f).take (t - f)) = t - f := by
  unfold cnt
  have hl : ((us.drop f).take (t - f)).length = t - f := by simp; omega
  rw [List.countP_eq_length.2 ?_, hl]
  intro x hx
  obtain ⟨i, hi, rfl⟩ := List.mem_iff_getElem.1 hx
  simp at hi
  have := hp (f + i) (by omega) (by omega)
  simp [List.getD, show f + i < us.length by omega] at this
  simp [this]
/-- where the first row of free units is found -/
theorem findRow_spec (us : List Nat) (cn : Nat) (hc : 1 ≤ cn) : ∀ (d k row : Nat), d = us.length - k → k ≤ us.length → row ≤ k → row < cn → (∀ j, k - row ≤ j → j < k → us.getD j 0 = 0) →
    (∀ g, g + cn ≤ k → ∃ j, g ≤ j ∧ j < g + cn ∧ us.getD j 0 ≠ 0) → (row = k ∨ us.getD (k - row - 1) 0 ≠ 0) →
    match findRow cn k row (us.drop k) with
    | none => ∀ g, g + cn ≤ us.length → ∃ j, g ≤ j ∧ j < g + cn ∧ us.getD j 0 ≠ 0
    | some f => f + cn ≤ us.length ∧ (∀ j, f ≤ j → j < f + cn → us.getD j 0 = 0) ∧ ∀ g, g < f → ∃ j, g ≤ j ∧ j < g + cn ∧ us.getD j 0 ≠ 0
  | 0, k, row, hd, hk, hr, hrc, hz, hn, hp => by
    rw [List.drop_of_length_le (by omega)]
    show ∀ g, _
    intro g hg
    exact hn g (by omega)
  | d + 1, k, row, hd, hk, hr, hrc, hz, hn, hp => by
    rw [drop_cons (show k < us.length by omega), findRow]
    by_cases h0 : us.getD k 0 = 0
    · rw [if_pos h0]
      by_cases hcn : row + 1 = cn
      · rw [if_pos hcn]
        refine ⟨by omega, fun j h1 h2 => ?_, fun g hg => ?_⟩
        · by_cases hj : j = k
          · rw [hj]; exact h0
          · exact hz j (by omega) (by omega)
        · by_cases hgk : g + cn ≤ k
          · exact hn g hgk
          · exact ⟨k - row - 1, by omega, by omega, by rcases hp with hp | hp; omega; exact hp⟩
      · rw [if_neg hcn]
        refine findRow_spec us cn hc d (k + 1) (row + 1) (by omega) (by omega) (by omega) (by omega) (fun j h1 h2 => ?_) (fun g hg => ?_) ?_
        · by_cases hj : j = k
          · rw [hj]; exact h0
          · exact hz j (by omega) (by omega)
        · by_cases hgk : g + cn ≤ k
          · exact hn g hgk
          · exact ⟨k - row - 1, by omega, by omega, by rcases hp with hp | hp; omega; exact hp⟩
        · rcases hp with hp | hp
          · left; omega
          · right; rw [show k + 1 - (row + 1) - 1 = k - row - 1 by omega]; exact hp
    · rw [if_neg h0, if_neg (by omega)]
      refine findRow_spec us cn hc d (k + 1) 0 (by omega) (by omega) (by omega) (by omega) (fun j h1 h2 => by omega) (fun g hg => ?_) ?_
      · by_cases hgk : g + cn ≤ k
        · exact hn g hgk
        · exact ⟨k, by omega, by omega, h0⟩
      · right; rw [show k + 1 - 0 - 1 = k by omega]; exact h0
theorem findRow_is (us : List Nat) (cn : Nat) (hc : 1 ≤ cn) : match findRow cn 0 0 us with
    | none => ∀ g, g + cn ≤ us.length → ∃ j, g ≤ j ∧ j < g + cn ∧ us.getD j 0 ≠ 0
    | some f => f + cn ≤ us.length ∧ (∀ j, f ≤ j → j < f + cn → us.getD j 0 = 0) ∧ ∀ g, g < f → ∃ j, g ≤ j ∧ j < g + cn ∧ us.getD j 0 ≠ 0 := by
  have := findRow_spec us cn hc us.length 0 0 (by omega) (by omega) (by omega) (by omega) (fun j h1 h2 => by omega) (fun g hg => by omega) (.inl rfl)
  simpa using this

/-- what is true of a space at all times -/
structure Sp.Ok (n : Nat) (s : Sp) : Prop where
  len : s.us.length = n
  left : s.left = (cnt (· == 0) s.us : Nat)
  low : ∀ i, s.us.getD i 0 ≤ 3
theorem Sp.Ok.new (n : Nat) : (Sp.new n).Ok n := ⟨by simp [Sp.new], by simp [Sp.new, cnt, List.countP_replicate], fun i => by
  simp [Sp.new, List.getD, List.getElem?_replicate]; split <;> simp⟩
theorem Sp.Ok.bound {n : Nat} {s : Sp} (h : s.Ok n) : 0 ≤ s.left ∧ s.left ≤ n := by
  have := h.left
  have h2 : cnt (· == 0) s.us ≤ s.us.length := List.countP_le_length
  have := h.len
  omega
theorem take_none {s : Sp} {c : Int} (h : c < 1 ∨ (s.us.length : Int) < c) : s.take c = (s, 2, 0) := by unfold Sp.take; rw [if_pos h]
theorem take_else {s : Sp} {c : Nat} (h1 : 1 ≤ c) (h2 : c ≤ s.us.length) : s.take c = match findRow c 0 0 s.us with
    | none => (s, 8, 0)
    | some f => ({ us := setR s.us f (f + c) 1, left := s.left - c, log := s.log ++ [(false, f, f + c)] }, 0, f) := by
  unfold Sp.take; rw [if_neg (by omega), Int.toNat_natCast]; rfl
/-- what a take comes to -/
theorem take_cases (s : Sp) (c : Int) :
    (s.take c = (s, 2, 0) ∧ (c < 1 ∨ (s.us.length : Int) < c)) ∨
    (∃ cn : Nat, c = cn ∧ 1 ≤ cn ∧ cn ≤ s.us.length ∧ s.take c = (s, 8, 0) ∧ ∀ g, g + cn ≤ s.us.length → ∃ j, g ≤ j ∧ j < g + cn ∧ s.us.getD j 0 ≠ 0) ∨
    (∃ cn f : Nat, c = cn ∧ 1 ≤ cn ∧ f + cn ≤ s.us.length ∧ (∀ j, f ≤ j → j < f + cn → s.us.getD j 0 = 0) ∧ (∀ g, g < f → ∃ j, g ≤ j ∧ j < g + cn ∧ s.us.getD j 0 ≠ 0) ∧
      s.take c = (⟨setR s.us f (f + cn) 1, s.left - cn, s.log ++ [(false, f, f + cn)]⟩, 0, f)) := by
  by_cases h : c < 1 ∨ (s.us.length : Int) < c
  · exact .inl ⟨take_none h, h⟩
  · obtain ⟨cn, rfl⟩ := Int.eq_ofNat_of_zero_le (show 0 ≤ c by omega)
    have h1 : 1 ≤ cn := by omega
    have h2 : cn ≤ s.us.length := by omega
    have hf := findRow_is s.us cn h1
    have ht := take_else h1 h2
    revert hf ht
    cases findRow cn 0 0 s.us with
    | none => intro hf ht; exact .inr (.inl ⟨cn, rfl, h1, h2, ht, hf⟩)
    | some f => intro hf ht; exact .inr (.inr ⟨cn, f, rfl, h1, hf.1, hf.2.1, hf.2.2, ht⟩)
/-- what a give comes to -/
theorem give_cases (s : Sp) (f c : Int) :
    (∃ code : Nat, code ≠ 0 ∧ s.give f c = (s, code)) ∨
    (∃ fn cn : Nat, f = fn ∧ c = cn ∧ 1 ≤ cn ∧ fn + cn ≤ s.us.length ∧ (∀ j, fn ≤ j → j < fn + cn → s.us.getD j 0 = 1) ∧ s.give f c = ({ s with us := setR s.us fn (fn + cn) 2 }, 0)) := by
  unfold Sp.give
  by_cases h : f < 0 ∨ c < 1 ∨ (s.us.length : Int) < c ∨ (s.us.length : Int) - c < f
  · rw [if_pos h]; exact .inl ⟨2, by decide, rfl⟩
  · rw [if_neg h]
    by_cases ha : allR s.us f.toNat (f + c).toNat 1 = true
    · rw [if_pos ha]
      obtain ⟨fn, rfl⟩ := Int.eq_ofNat_of_zero_le (show 0 ≤ f by omega)
      obtain ⟨cn, rfl⟩ := Int.eq_ofNat_of_zero_le (show 0 ≤ c by omega)
      have e : ((fn : Int) + (cn : Int)).toNat = fn + cn := by omega
      rw [Int.toNat_natCast, e] at ha ⊢
      refine .inr ⟨fn, cn, rfl, rfl, by omega, by omega, fun j h1 h2 => ?_, rfl⟩
      unfold allR at ha
      rw [List.all_eq_true] at ha
      have := ha j (by rw [List.mem_range'_1]; omega)
      simpa using this
    · rw [if_neg ha]; exact .inl ⟨6, by decide, rfl⟩
theorem Sp.Ok.take {n : Nat} {s : Sp} (h : s.Ok n) (c : Int) : (s.take c).1.Ok n := by
  rcases take_cases s c with ⟨e, _⟩ | ⟨cn, _, _, _, e, _⟩ | ⟨cn, f, rfl, h1, h2, hz, _, e⟩
  · rw [e]; exact h
  · rw [e]; exact h
  · rw [e]
    refine ⟨by show (setR _ _ _ _).length = n; rw [setR_length _ _ _ _ (by omega) h2]; exact h.len, ?_, fun i => ?_⟩
    · show s.left - cn = ((cnt (· == 0) (setR s.us f (f + cn) 1) : Nat) : Int)
      have h3 := cnt_setR (· == 0) s.us f (f + cn) 1 (by omega) h2
      have h4 := cnt_all (· == 0) s.us f (f + cn) (by omega) h2 (fun i a b => by rw [hz i a b]; rfl)
      have h5 := h.left
      rw [h4] at h3
      simp at h3
      omega
    · show (setR _ _ _ _).getD i 0 ≤ 3
      rw [setR_getD _ _ _ _ (by omega) h2]
      have := h.low i
      split <;> omega
theorem Sp.Ok.give {n : Nat} {s : Sp} (h : s.Ok n) (f c : Int) : (s.give f c).1.Ok n := by
  rcases give_cases s f c with ⟨code, _, e⟩ | ⟨fn, cn, rfl, rfl, h1, h2, hz, e⟩
  · rw [e]; exact h
  · rw [e]
    refine ⟨by show (setR _ _ _ _).length = n; rw [setR_length _ _ _ _ (by omega) h2]; exact h.len, ?_, fun i => ?_⟩
    · show s.left = _
      have h3 := cnt_setR (· == 0) s.us fn (fn + cn) 2 (by omega) h2
      have h4 := cnt_none (· == 0) s.us fn (fn + cn) (by omega) h2 (fun i a b => by rw [hz i a b]; rfl)
      have h5 := h.left
      rw [h4] at h3
      simp at h3
      rw [h3]; exact h5
    · show (setR _ _ _ _).getD i 0 ≤ 3
      rw [setR_getD _ _ _ _ (by omega) h2]
      have := h.low i
      split <;> omega
theorem getD_map (f : Nat → Nat) (l : List Nat) (i : Nat) (h : i < l.length) : (l.map f).getD i 0 = f (l.getD i 0) := by simp [List.getD, h]
theorem cnt_later : ∀ us : List Nat, (∀ u ∈ us, u ≤ 3) → cnt (· == 0) (us.map later) = cnt (· == 0) us + cnt (· == 3) us
  | [], _ => rfl
  | u :: us, h => by
    have ih := cnt_later us (fun v hv => h v (List.mem_cons_of_mem _ hv))
    have hu := h u (List.mem_cons_self ..)
    simp only [cnt, List.map_cons, List.countP_cons] at ih ⊢
    rw [ih]
    have : u = 0 ∨ u = 1 ∨ u = 2 ∨ u = 3 := by omega
    rcases this with rfl | rfl | rfl | rfl <;> simp [later] <;> omega
theorem Sp.Ok.mem {n : Nat} {s : Sp} (h : s.Ok n) : ∀ u ∈ s.us, u ≤ 3 := by
  intro u hu
  obtain ⟨i, hi, rfl⟩ := List.mem_iff_getElem.1 hu
  have := h.low i
  simpa [List.getD, hi] using this
theorem Sp.Ok.commit {n : Nat} {s : Sp} (h : s.Ok n) : s.commit.Ok n := by
  rw [commit_is]
  refine ⟨by rw [List.length_map]; exact h.len, ?_, fun i => ?_⟩
  · show s.left + _ = _
    rw [cnt_later _ h.mem, h.left]; omega
  · by_cases hi : i < s.us.length
    · rw [getD_map _ _ _ hi]
      have := h.low i
      unfold later
      split <;> (try split) <;> omega
    · simp [List.getD, List.getElem?_eq_none (by rw [List.length_map]; omega : (s.us.map later).length ≤ i)]
theorem Sp.Ok.do_ {n : Nat} {s : Sp} (h : s.Ok n) (d : Deed) : (s.do_ d).1.Ok n := by
  unfold Sp.do_
  split
  · exact h.take _
  · split
    · exact h.give _ _
    · split
      · exact h.commit
      · exact h
theorem Sp.Ok.step {n : Nat} {s : Sp} (h : s.Ok n) (d : Deed) : (s.step d).1.Ok n := h.do_ d
theorem Sp.Ok.play {n : Nat} : ∀ (ds : List Deed) {s : Sp}, s.Ok n → (s.play ds).1.Ok n
  | [], _, h => h
  | d :: ds, _, h => Sp.Ok.play ds (h.step d)
theorem runs_length_le (p : Nat → Bool) (us : List Nat) : (runs p us).length ≤ us.length + 1 := runs_length p us
theorem step_log {n : Nat} {s : Sp} (h : s.Ok n) (d : Deed) : (s.step d).1.log.length ≤ s.log.length + (n + 1) := by
  show (s.do_ d).1.log.length ≤ _
  unfold Sp.do_
  split
  · rcases take_cases s d.count with ⟨e, _⟩ | ⟨cn, _, _, _, e, _⟩ | ⟨cn, f, _, h1, h2, hz, _, e⟩
    · rw [e]; show s.log.length ≤ _; omega
    · rw [e]; show s.log.length ≤ _; omega
    · rw [e]; show (s.log ++ [_]).length ≤ _; simp
  · split
    · rcases give_cases s d.from_ d.count with ⟨code, _, e⟩ | ⟨fn, cn, _, _, _, _, _, e⟩
      · rw [e]; show s.log.length ≤ _; omega
      · rw [e]; show s.log.length ≤ _; omega
    · split
      · rw [commit_is]
        have := runs_length (· == 3) s.us
        rw [h.len] at this
        simp; omega
      · show s.log.length ≤ _; omega
theorem play_log {n : Nat} : ∀ (ds : List Deed) {s : Sp}, s.Ok n → (s.play ds).1.log.length ≤ s.log.length + ds.length * (n + 1)
  | [], s, h => by show s.log.length ≤ _; simp
  | d :: ds, s, h => by
    have h1 := step_log h d
    have h2 := play_log ds (h.step d)
    show ((s.step d).1.play ds).1.log.length ≤ _
    rw [List.length_cons, Nat.add_mul]; omega
theorem step_found_left (s : Sp) (d : Deed) : (s.step d).2.left = (s.step d).1.left := rfl
end Go.Proofs.Yteidmdakglkkfaa
