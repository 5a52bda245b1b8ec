/- Package span, plain: what a sweep over the edges of two sets comes to. -/
import Derived.Test.YtddjkcogfpihpaaSnW
namespace Go.Proofs.Ytddjkcogfpihpaa
open Go.RowKit Go.Sort
set_option linter.unusedVariables false

theorem edges_by {l m : List Rg} {b c : Int} (hb : b = 1 ∨ b = -1) (hc : c = 1 ∨ c = -1) : ∀ e ∈ edgesN l b ++ edgesN m c, e.2 = 1 ∨ e.2 = -1 := by
  have one : ∀ (l : List Rg) (b : Int), (b = 1 ∨ b = -1) → ∀ e ∈ edgesN l b, e.2 = 1 ∨ e.2 = -1 := by
    intro l b hb
    induction l with
    | nil => intro e he; cases he
    | cons r l ih =>
      intro e he
      rw [edgesN_cons] at he
      rcases List.mem_append.1 he with he | he
      · rcases List.mem_cons.1 he with rfl | he
        · exact hb
        · rw [List.mem_singleton.1 he]; rcases hb with rfl | rfl <;> simp
      · exact ih e he
  intro e he
  rcases List.mem_append.1 he with he | he
  · exact one l b hb e he
  · exact one m c hc e he
theorem edges_low {l m : List Rg} {b c M : Int} (hl : ∀ q ∈ l, 0 ≤ q.1 ∧ q.1 < q.2 ∧ q.2 ≤ M) (hm : ∀ q ∈ m, 0 ≤ q.1 ∧ q.1 < q.2 ∧ q.2 ≤ M) : ∀ e ∈ edgesN l b ++ edgesN m c, 0 ≤ e.1 ∧ e.1 ≤ M := by
  intro e he
  rcases List.mem_append.1 he with he | he
  · obtain ⟨r, hr, h⟩ := edgesN_mem l b e he
    have := hl r hr; omega
  · obtain ⟨r, hr, h⟩ := edgesN_mem m c e he
    have := hm r hr; omega
theorem edges_sum (l m : List Rg) (b c : Int) : sumB (edgesN l b ++ edgesN m c) = 0 := by rw [sumB_append, edgesN_sum, edgesN_sum]; rfl
theorem res_good {l m out : List Rg} {b c M : Int} {want : Int → Bool} (h : Res want (edgesN l b ++ edgesN m c) out) (hl : ∀ q ∈ l, 0 ≤ q.1 ∧ q.1 < q.2 ∧ q.2 ≤ M) (hm : ∀ q ∈ m, 0 ≤ q.1 ∧ q.1 < q.2 ∧ q.2 ≤ M) (hM : M ≤ 1048576) (hn : l.length + m.length ≤ 200) :
    GoodR out ∧ out.length ≤ l.length + m.length ∧ ∀ q ∈ out, q.2 ≤ M := by
  have hlow := edges_low (b := b) (c := c) hl hm
  have hin : ∀ q ∈ out, 0 ≤ q.1 ∧ q.2 ≤ M := fun q hq => by
    obtain ⟨⟨e, he, h1⟩, ⟨f, hf, h2⟩⟩ := h.ends q hq
    have := hlow e he; have := hlow f hf; omega
  have hf := h.few
  rw [List.length_append, edgesN_length, edgesN_length] at hf
  exact ⟨⟨h.canon, fun q hq => ⟨(hin q hq).1, by have := (hin q hq).2; omega⟩, by omega⟩, by omega, fun q hq => (hin q hq).2⟩
theorem mem_add {l m out : List Rg} (h : Res (fun d => decide (0 < d)) (edgesN l 1 ++ edgesN m 1) out) (hl : Canon l) (hm : Canon m) (x : Int) : memR out x ↔ memR l x ∨ memR m x := by
  rw [h.mem x]
  show decide (0 < dep _ x) = true ↔ _
  rw [dep_append, decide_eq_true_iff]
  obtain ⟨a1, a2⟩ := edges_dep hl 1 x
  obtain ⟨b1, b2⟩ := edges_dep hm 1 x
  by_cases h1 : memR l x
  · rw [a1 h1]
    by_cases h2 : memR m x
    · rw [b1 h2]; exact ⟨fun _ => .inl h1, fun _ => by omega⟩
    · rw [b2 h2]; exact ⟨fun _ => .inl h1, fun _ => by omega⟩
  · rw [a2 h1]
    by_cases h2 : memR m x
    · rw [b1 h2]; exact ⟨fun _ => .inr h2, fun _ => by omega⟩
    · rw [b2 h2]; exact ⟨fun h => by omega, fun h => h.elim (fun h => absurd h h1) (fun h => absurd h h2)⟩
theorem mem_cut {l m out : List Rg} (h : Res (fun d => decide (0 < d)) (edgesN l 1 ++ edgesN m (-1)) out) (hl : Canon l) (hm : Canon m) (x : Int) : memR out x ↔ memR l x ∧ ¬ memR m x := by
  rw [h.mem x]
  show decide (0 < dep _ x) = true ↔ _
  rw [dep_append, decide_eq_true_iff]
  obtain ⟨a1, a2⟩ := edges_dep hl 1 x
  obtain ⟨b1, b2⟩ := edges_dep hm (-1) x
  by_cases h1 : memR l x
  · rw [a1 h1]
    by_cases h2 : memR m x
    · rw [b1 h2]; exact ⟨fun h => by omega, fun h => absurd h2 h.2⟩
    · rw [b2 h2]; exact ⟨fun _ => ⟨h1, h2⟩, fun _ => by omega⟩
  · rw [a2 h1]
    by_cases h2 : memR m x
    · rw [b1 h2]; exact ⟨fun h => by omega, fun h => absurd h.1 h1⟩
    · rw [b2 h2]; exact ⟨fun h => by omega, fun h => absurd h.1 h1⟩
theorem mem_both {l m out : List Rg} (h : Res (fun d => d == 2) (edgesN l 1 ++ edgesN m 1) out) (hl : Canon l) (hm : Canon m) (x : Int) : memR out x ↔ memR l x ∧ memR m x := by
  rw [h.mem x]
  show (dep _ x == 2) = true ↔ _
  rw [dep_append, beq_iff_eq]
  obtain ⟨a1, a2⟩ := edges_dep hl 1 x
  obtain ⟨b1, b2⟩ := edges_dep hm 1 x
  by_cases h1 : memR l x
  · rw [a1 h1]
    by_cases h2 : memR m x
    · rw [b1 h2]; exact ⟨fun _ => ⟨h1, h2⟩, fun _ => by omega⟩
    · rw [b2 h2]; exact ⟨fun h => by omega, fun h => absurd h.2 h2⟩
  · rw [a2 h1]
    by_cases h2 : memR m x
    · rw [b1 h2]; exact ⟨fun h => by omega, fun h => absurd h.1 h1⟩
    · rw [b2 h2]; exact ⟨fun h => by omega, fun h => absurd h.1 h1⟩
/-- Is a number in? -/
def hasB (l : List Rg) (x : Int) : Bool := l.any fun r => decide (r.1 ≤ x) && decide (x < r.2)
theorem hasB_iff (l : List Rg) (x : Int) : hasB l x = true ↔ memR l x := by
  unfold hasB memR
  simp [List.any_eq_true]
/-- How many numbers are so, below a bound. -/
def cntP (p : Int → Bool) : Nat → Int
  | 0 => 0
  | n + 1 => cntP p n + if p n then 1 else 0
theorem cntP_congr {p q : Int → Bool} : ∀ n : Nat, (∀ k : Nat, k < n → p k = q k) → cntP p n = cntP q n
  | 0, _ => rfl
  | n + 1, h => by unfold cntP; rw [cntP_congr n (fun k hk => h k (by omega)), h n (by omega)]
theorem cntP_add {p q s : Int → Bool} : ∀ n : Nat, (∀ k : Nat, k < n → p k = (q k || s k) ∧ (q k && s k) = false) → cntP p n = cntP q n + cntP s n
  | 0, _ => rfl
  | n + 1, h => by
    obtain ⟨h1, h2⟩ := h n (by omega)
    unfold cntP
    rw [cntP_add n (fun k hk => h k (by omega)), h1]
    cases hq : q n <;> cases hs : s n <;> simp_all <;> omega
theorem cntP_le (p : Int → Bool) : ∀ n : Nat, 0 ≤ cntP p n ∧ cntP p n ≤ n
  | 0 => by simp [cntP]
  | n + 1 => by
    have := cntP_le p n
    unfold cntP
    split <;> omega
theorem cntP_range (a b : Int) (h0 : 0 ≤ a) (hab : a < b) : ∀ n : Nat, cntP (fun x => decide (a ≤ x) && decide (x < b)) n = max 0 (min (n : Int) b - a)
  | 0 => by simp only [cntP]; omega
  | n + 1 => by
    have ih := cntP_range a b h0 hab n
    unfold cntP
    rw [ih]
    by_cases h1 : a ≤ (n : Int)
    · by_cases h2 : (n : Int) < b
      · simp only [h1, h2, decide_true, Bool.and_self, if_true]; omega
      · simp only [h1, h2, decide_true, decide_false, Bool.and_false, Bool.false_eq_true, if_false]; omega
    · simp only [h1, decide_false, Bool.false_and, Bool.false_eq_true, if_false]; omega
theorem sizeR_cnt : ∀ (l : List Rg) (n : Nat), Canon l → (∀ r ∈ l, 0 ≤ r.1 ∧ r.2 ≤ n) → sizeR l = cntP (hasB l) n
  | [], n, _, _ => by
    have : ∀ n : Nat, cntP (hasB []) n = 0 := fun n => by
      induction n with
      | zero => rfl
      | succ n ih => unfold cntP; rw [ih]; rfl
    rw [this]; rfl
  | a :: l, n, hc, hb => by
    have ha := hb a (List.mem_cons_self ..)
    have hlt := hc.1 a (List.mem_cons_self ..)
    have ih := sizeR_cnt l n hc.tail (fun r hr => hb r (List.mem_cons_of_mem _ hr))
    have e := cntP_add (p := hasB (a :: l)) (q := fun x => decide (a.1 ≤ x) && decide (x < a.2)) (s := hasB l) n (fun k hk => by
      refine ⟨rfl, ?_⟩
      cases h2 : hasB l k with
      | false => rw [Bool.and_false]
      | true =>
        have h3 := ((hc.tail_mem k).1 ((hasB_iff l k).1 h2)).2
        have : ¬ (k : Int) < a.2 := by omega
        simp [this])
    rw [e, cntP_range a.1 a.2 ha.1 hlt n, ← ih]
    show (a.2 - a.1) + sizeR l = _
    omega
end Go.Proofs.Ytddjkcogfpihpaa
