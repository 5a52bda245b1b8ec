/- Logs of spaces, plainly: what replaying them comes to. No program here. -/
import Derived.Test.YteidmdakglkkfaaSpO
namespace Go.Proofs.Yteidmdakglkkfaa
open Go.RowKit
set_option linter.unusedVariables false

/-- as the log sees a unit: 0 free, 1 not -/
def tk (u : Nat) : Nat := if u = 0 then 0 else 1
theorem tk_getD (us : List Nat) (i : Nat) : (us.map tk).getD i 0 = tk (us.getD i 0) := by
  by_cases h : i < us.length
  · exact getD_map _ _ _ h
  · have h1 : us.getD i 0 = 0 := by simp [List.getD, List.getElem?_eq_none (by omega : us.length ≤ i)]
    have h2 : (us.map tk).getD i 0 = 0 := by simp [List.getD, List.getElem?_eq_none (by rw [List.length_map]; omega : (us.map tk).length ≤ i)]
    rw [h1, h2]; rfl
/-- what is true of a space's log -/
structure Sp.Told (n : Nat) (s : Sp) : Prop where
  ok : RplOk n (noughts n) s.log
  is : rpl (noughts n) s.log = s.us.map tk
theorem told_new (n : Nat) : (Sp.new n).Told n := ⟨trivial, by simp [Sp.new, rpl, noughts, tk]⟩
theorem map_tk_setR (us : List Nat) (f t v : Nat) (h : f ≤ t) (ht : t ≤ us.length) : (setR us f t v).map tk = setR (us.map tk) f t (tk v) := by simp [setR, List.map_take, List.map_drop]
theorem frees_ok (n : Nat) : ∀ (rs : List (Nat × Nat)) (us : List Nat), us.length = n → RunsIn n rs → (∀ r ∈ rs, ∀ j, r.1 ≤ j → j < r.2 → us.getD j 0 = 1) → rs.Pairwise (fun a b => a.2 ≤ b.1) →
    RplOk n us (rs.map fun r => (true, r.1, r.2)) ∧ (rpl us (rs.map fun r => (true, r.1, r.2))).length = n ∧ ∀ j, (rpl us (rs.map fun r => (true, r.1, r.2))).getD j 0 = if ∃ r ∈ rs, r.1 ≤ j ∧ j < r.2 then 0 else us.getD j 0
  | [], us, hl, _, _, _ => ⟨trivial, hl, fun j => by simp [rpl]⟩
  | r :: rs, us, hl, hr, h1, hp => by
    have h0 := hr r (List.mem_cons_self ..)
    have hp' := List.pairwise_cons.1 hp
    have hl' : (setR us r.1 r.2 0).length = n := by rw [setR_length _ _ _ _ (by omega) (by omega)]; exact hl
    obtain ⟨i1, i2, i3⟩ := frees_ok n rs (setR us r.1 r.2 0) hl' (fun q hq => hr q (List.mem_cons_of_mem _ hq)) (fun q hq j hj1 hj2 => by
      have := hp'.1 q hq
      rw [setR_getD _ _ _ _ (by omega) (by omega), if_neg (by omega)]
      exact h1 q (List.mem_cons_of_mem _ hq) j hj1 hj2) hp'.2
    refine ⟨⟨h0.1, h0.2, fun j a b => h1 r (List.mem_cons_self ..) j a b, i1⟩, i2, fun j => ?_⟩
    show (rpl (setR us r.1 r.2 0) _).getD j 0 = _
    rw [i3 j, setR_getD _ _ _ _ (by omega) (by omega)]
    by_cases ha : ∃ q ∈ rs, q.1 ≤ j ∧ j < q.2
    · obtain ⟨q, hq, h2⟩ := ha
      rw [if_pos ⟨q, hq, h2⟩, if_pos ⟨q, List.mem_cons_of_mem _ hq, h2⟩]
    · rw [if_neg ha]
      by_cases hb : r.1 ≤ j ∧ j < r.2
      · rw [if_pos hb, if_pos ⟨r, List.mem_cons_self .., hb⟩]
      · rw [if_neg hb, if_neg]
        rintro ⟨q, hq, h2⟩
        rcases List.mem_cons.1 hq with rfl | hq
        · exact hb h2
        · exact ha ⟨q, hq, h2⟩
/-- ranges of a list of units lie apart: there is a unit that is not so between them -/
def ApartFrom : Nat → List (Nat × Nat) → Prop
  | _, [] => True
  | b, r :: rs => b ≤ r.1 ∧ r.1 < r.2 ∧ ApartFrom (r.2 + 1) rs
theorem ApartFrom.mono {b b' : Nat} (h : b' ≤ b) : ∀ {rs : List (Nat × Nat)}, ApartFrom b rs → ApartFrom b' rs
  | [], _ => trivial
  | r :: rs, hr => ⟨Nat.le_trans h hr.1, hr.2⟩
theorem runsGo_apart (p : Nat → Bool) : ∀ (us : List Nat) (i : Nat) (fo : Option Nat) (b : Nat), b ≤ i → (∀ f, fo = some f → b ≤ f ∧ f < i) → ApartFrom b (runsGo p i fo us)
  | [], i, none, b, hb, _ => trivial
  | [], i, some f, b, hb, h => ⟨(h f rfl).1, (h f rfl).2, trivial⟩
  | u :: us, i, none, b, hb, h => by
    rw [runsGo]
    split
    · exact runsGo_apart p us (i + 1) (some i) b (by omega) (fun f hf => by injection hf; omega)
    · exact runsGo_apart p us (i + 1) none b (by omega) (fun f hf => by cases hf)
  | u :: us, i, some f, b, hb, h => by
    have h0 := h f rfl
    rw [runsGo]
    split
    · exact runsGo_apart p us (i + 1) (some f) b (by omega) (fun f' hf => by injection hf with hf; subst hf; omega)
    · exact ⟨h0.1, h0.2, runsGo_apart p us (i + 1) none (i + 1) (by omega) (fun f hf => by cases hf)⟩
theorem runs_apart (p : Nat → Bool) (us : List Nat) : ApartFrom 0 (runs p us) := runsGo_apart p us 0 none 0 (by omega) (fun f hf => by cases hf)
theorem ApartFrom.ge {b : Nat} : ∀ {rs : List (Nat × Nat)}, ApartFrom b rs → ∀ r ∈ rs, b ≤ r.1
  | r :: rs, h, q, hq => by
    rcases List.mem_cons.1 hq with rfl | hq
    · exact h.1
    · have := h.2.2.ge q hq; have := h.1; have := h.2.1; omega
theorem ApartFrom.pairwise : ∀ {rs : List (Nat × Nat)} {b : Nat}, ApartFrom b rs → rs.Pairwise (fun a b => a.2 ≤ b.1)
  | [], _, _ => List.Pairwise.nil
  | r :: rs, b, h => List.Pairwise.cons (fun q hq => by have := h.2.2.ge q hq; omega) h.2.2.pairwise
theorem ApartFrom.span {b n : Nat} : ∀ {rs : List (Nat × Nat)}, ApartFrom b rs → RunsIn n rs → (rs.length : Int) ≤ spanOf rs
  | [], _, _ => by simp [spanOf]
  | r :: rs, h, hr => by
    have ih := h.2.2.span (fun q hq => hr q (List.mem_cons_of_mem _ hq))
    have := h.2.1
    simp only [spanOf, List.map_cons, List.sum_cons, List.length_cons] at ih ⊢
    omega
theorem ApartFrom.half {b n : Nat} : ∀ {rs : List (Nat × Nat)}, ApartFrom b rs → RunsIn n rs → b ≤ n + 1 → 2 * rs.length + b ≤ n + 1
  | [], _, _, hb => by simpa using hb
  | r :: rs, h, hr, hb => by
    have h0 := hr r (List.mem_cons_self ..)
    have ih := h.2.2.half (fun q hq => hr q (List.mem_cons_of_mem _ hq)) (by omega)
    have := h.1
    have := h.2.1
    simp only [List.length_cons]
    omega
theorem runs_half (p : Nat → Bool) (us : List Nat) : 2 * (runs p us).length ≤ us.length + 1 := by
  have := (runs_apart p us).half (runs_in p us) (by omega)
  omega
theorem runs_few (p : Nat → Bool) (us : List Nat) : (runs p us).length ≤ cnt p us := by
  have h1 := (runs_apart p us).span (runs_in p us)
  rw [span_runs] at h1
  omega
theorem told_step {n : Nat} {s : Sp} (h : s.Told n) (hok : s.Ok n) (d : Deed) : (s.step d).1.Told n := by
  show (s.do_ d).1.Told n
  unfold Sp.do_
  have hlen := hok.len
  split
  · rcases take_cases s d.count with ⟨e, _⟩ | ⟨cn, _, _, _, e, _⟩ | ⟨cn, f, _, h1, h2, hz, _, e⟩
    · rw [e]; exact h
    · rw [e]; exact h
    · rw [e]
      refine ⟨h.ok.append ⟨by show f < f + cn; omega, by show f + cn ≤ n; omega, fun j a b => ?_, trivial⟩, ?_⟩
      · rw [h.is, tk_getD, hz j a b]; rfl
      · show rpl _ (s.log ++ [(false, f, f + cn)]) = (setR s.us f (f + cn) 1).map tk
        rw [rpl_append, h.is, map_tk_setR _ _ _ _ (by omega) h2]; rfl
  · split
    · rcases give_cases s d.from_ d.count with ⟨code, _, e⟩ | ⟨fn, cn, _, _, h1, h2, hz, e⟩
      · rw [e]; exact h
      · rw [e]
        refine ⟨h.ok, ?_⟩
        show rpl _ s.log = (setR s.us fn (fn + cn) 2).map tk
        rw [h.is]
        apply list_ext (by rw [List.length_map, List.length_map, setR_length _ _ _ _ (by omega) h2])
        intro j hj
        rw [tk_getD, tk_getD, setR_getD _ _ _ _ (by omega) h2]
        split
        · rename_i hj2; rw [hz j hj2.1 hj2.2]; rfl
        · rfl
    · split
      · rw [commit_is]
        obtain ⟨i1, i2, i3⟩ := frees_ok n (runs (· == 3) s.us) (s.us.map tk) (by rw [List.length_map]; exact hlen) (by rw [← hlen]; exact runs_in _ _) (fun r hr j a b => by
          have := ((mem_runs (· == 3) s.us j).1 ⟨r, hr, a, b⟩).2
          have h3 : s.us.getD j 0 = 3 := by simpa using this
          rw [tk_getD, h3]; rfl) (runs_apart _ _).pairwise
        refine ⟨h.ok.append (by rw [h.is]; exact i1), ?_⟩
        show rpl _ (s.log ++ _) = (s.us.map later).map tk
        rw [rpl_append, h.is]
        apply list_ext (by rw [i2, List.length_map, List.length_map]; exact hlen.symm)
        intro j hj
        rw [i2] at hj
        have hj' : j < s.us.length := by omega
        rw [i3 j, tk_getD, tk_getD, getD_map _ _ _ hj']
        have hlow := hok.low j
        by_cases h3 : s.us.getD j 0 = 3
        · rw [if_pos ((mem_runs _ _ _).2 ⟨hj', by rw [h3]; rfl⟩), h3]; rfl
        · rw [if_neg (fun hh => h3 (by have := ((mem_runs _ _ _).1 hh).2; simpa using this))]
          unfold later tk
          rw [if_neg h3]
          split
          · rename_i h0; rw [h0]; rfl
          · rename_i h0
            split
            · rfl
            · first | rfl | rw [if_neg h0]
      · exact h
theorem told_play {n : Nat} : ∀ (ds : List Deed) {s : Sp}, s.Told n → s.Ok n → (s.play ds).1.Told n
  | [], _, h, _ => h
  | d :: ds, _, h, hok => told_play ds (told_step h hok d) (hok.step d)
/-- the records and the units that are not free: how many more a deed makes -/
theorem step_few {n : Nat} {s : Sp} (hok : s.Ok n) (d : Deed) (hd : d.kind = 1 → d.count ≤ 100) : ((s.step d).1.log.length : Int) + ((n : Int) - (s.step d).1.left) ≤ (s.log.length : Int) + ((n : Int) - s.left) + (if d.kind = 1 then (if d.count ≤ 12 then 13 else 101) else 0) := by
  show ((s.do_ d).1.log.length : Int) + ((n : Int) - (s.do_ d).1.left) ≤ _
  unfold Sp.do_
  by_cases h1 : d.kind = 1
  · rw [if_pos h1, if_pos h1]
    have hd1 := hd h1
    rcases take_cases s d.count with ⟨e, _⟩ | ⟨cn, _, _, _, e, _⟩ | ⟨cn, f, hc, h1, h2, hz, _, e⟩
    · rw [e]; show (s.log.length : Int) + ((n : Int) - s.left) ≤ _; split <;> omega
    · rw [e]; show (s.log.length : Int) + ((n : Int) - s.left) ≤ _; split <;> omega
    · rw [e]; show ((s.log ++ [_]).length : Int) + ((n : Int) - (s.left - cn)) ≤ _
      rw [List.length_append, List.length_singleton]
      split <;> omega
  · rw [if_neg h1, if_neg h1]
    by_cases h2 : d.kind = 2
    · rw [if_pos h2]
      rcases give_cases s d.from_ d.count with ⟨code, _, e⟩ | ⟨fn, cn, _, _, _, _, _, e⟩
      · rw [e]; show (s.log.length : Int) + ((n : Int) - s.left) ≤ _; omega
      · rw [e]; show (s.log.length : Int) + ((n : Int) - s.left) ≤ _; omega
    · rw [if_neg h2]
      by_cases h3 : d.kind = 3
      · rw [if_pos h3, commit_is]
        have := runs_few (· == 3) s.us
        show ((s.log ++ (runs (· == 3) s.us).map _).length : Int) + ((n : Int) - (s.left + _)) ≤ _
        rw [List.length_append, List.length_map]
        omega
      · rw [if_neg h3]; show (s.log.length : Int) + ((n : Int) - s.left) ≤ _; omega
theorem play_few {n : Nat} : ∀ (ds : List Deed) {s : Sp}, s.Ok n → (∀ d ∈ ds, DeedIs d) → ((s.play ds).1.log.length : Int) + ((n : Int) - (s.play ds).1.left) ≤ (s.log.length : Int) + ((n : Int) - s.left) + 13 * ds.length
  | [], s, h, _ => by show (s.log.length : Int) + ((n : Int) - s.left) ≤ _; simp
  | d :: ds, s, h, hd => by
    have hdi := hd d (List.mem_cons_self ..)
    have h1 := step_few h d (fun hk => by rcases hdi with ⟨_, _, _, h⟩ | ⟨h, _⟩ | ⟨h, _⟩ <;> omega)
    have h2 := play_few ds (h.step d) (fun e he => hd e (List.mem_cons_of_mem _ he))
    have h3 : (if d.kind = 1 then (if d.count ≤ 12 then (13 : Int) else 101) else 0) ≤ 13 := by
      rcases hdi with ⟨hk, _, _, h⟩ | ⟨hk, _⟩ | ⟨hk, _⟩
      · rw [if_pos hk, if_pos h]; omega
      · rw [if_neg (by omega)]; omega
      · rw [if_neg (by omega)]; omega
    show (((s.step d).1.play ds).1.log.length : Int) + ((n : Int) - ((s.step d).1.play ds).1.left) ≤ _
    rw [List.length_cons]
    omega
theorem new_few {n : Nat} (ds : List Deed) (hd : ∀ d ∈ ds, DeedIs d) : (((Sp.new n).play ds).1.log.length : Int) ≤ 13 * ds.length := by
  have h1 := play_few ds (Sp.Ok.new n) hd
  have h2 := (Sp.Ok.play ds (Sp.Ok.new n)).bound
  have h3 : (Sp.new n).left = (n : Int) := rfl
  have h4 : (Sp.new n).log.length = 0 := rfl
  omega
end Go.Proofs.Yteidmdakglkkfaa
