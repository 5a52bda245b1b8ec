/- Package par: Rebuild of too many; what Several counts; the law RebuildMany. -/
import Derived.Test.YtkfjkdonbmjniaaRbA
namespace Go.Proofs.Ytkfjkdonbmjniaa
open Go.RowKit
set_option linter.unusedVariables false
set_option maxRecDepth 100000

/-- How many of the first n are so. -/
def cntB (hs : List Bool) : Nat → Nat
  | 0 => 0
  | n + 1 => cntB hs n + if hs.getD n false then 1 else 0
theorem sevTo_count (hs : List Bool) : ∀ n, (sevTo hs n).length = cntB hs n
  | 0 => rfl
  | n + 1 => by
    rw [sevTo_succ, List.length_append, sevTo_count hs n]
    show _ = cntB hs n + if hs.getD n false then 1 else 0
    split <;> rfl
theorem cntB_set (hs : List Bool) (j : Nat) (hj : j < hs.length) (hf : hs.getD j false = false) : ∀ n, cntB (hs.set j true) n = cntB hs n + if j < n then 1 else 0
  | 0 => rfl
  | n + 1 => by
    show cntB (hs.set j true) n + (if (hs.set j true).getD n false then 1 else 0) = cntB hs n + (if hs.getD n false then 1 else 0) + _
    rw [cntB_set hs j hj hf n]
    have e : (hs.set j true).getD n false = if j = n then true else hs.getD n false := by
      rw [List.getD, List.getElem?_set]
      by_cases h : j = n
      · rw [if_pos h, if_pos hj, if_pos h]; rfl
      · rw [if_neg h, if_neg h]; rfl
    rw [e]
    by_cases h : j = n
    · subst h; rw [if_pos rfl, hf, if_pos rfl, if_neg (by omega), if_neg (by decide), if_pos (by omega)]
    · rw [if_neg h]
      by_cases h2 : j < n
      · have h3 : j < n + 1 := by omega
        rw [if_pos h2, if_pos h3]; omega
      · have h3 : ¬ j < n + 1 := by omega
        rw [if_neg h2, if_neg h3]; omega
theorem cntB_ge (hs : List Bool) (m : Nat) (h : ∀ k, k < m → hs.getD k false = true) : ∀ n, min m n ≤ cntB hs n
  | 0 => by simp
  | n + 1 => by
    have ih := cntB_ge hs m h n
    unfold cntB
    by_cases hn : n < m
    · rw [if_pos (h n hn)]; omega
    · omega
/-- What Several knows between two numbers. -/
def SevOk (n most : Nat) (st : List Bool × Nat) : Prop := st.1.length = n ∧ st.2 = cntB st.1 n ∧ st.2 ≤ most
theorem sevStep_ok {n most : Nat} (hn : 0 < n) {st : List Bool × Nat} (h : SevOk n most st) (x : Int) : SevOk n most (sevStep n most st x) ∧ (∀ k, st.1.getD k false = true → (sevStep n most st x).1.getD k false = true) ∧ ((sevStep n most st x).2 < most → (sevStep n most st x).1.getD (x % (n : Int)).toNat false = true) := by
  obtain ⟨h1, h2, h3⟩ := h
  have hx : (x % (n : Int)).toNat < n := by
    have a := Int.emod_nonneg x (b := (n : Int)) (by omega)
    have b := Int.emod_lt_of_pos x (b := (n : Int)) (by omega)
    omega
  unfold sevStep
  by_cases hm : st.2 < most
  · rw [if_pos hm]
    by_cases hv : st.1.getD (x % (n : Int)).toNat false = true
    · rw [if_pos hv]
      exact ⟨⟨h1, h2, h3⟩, fun k hk => hk, fun _ => hv⟩
    · have hv2 : st.1.getD (x % (n : Int)).toNat false = false := by simpa using hv
      rw [if_neg hv]
      have hset : ∀ k, (st.1.set (x % (n : Int)).toNat true).getD k false = if (x % (n : Int)).toNat = k then true else st.1.getD k false := fun k => by
        rw [List.getD, List.getElem?_set]
        by_cases h : (x % (n : Int)).toNat = k
        · rw [if_pos h, if_pos (by omega), if_pos h]; rfl
        · rw [if_neg h, if_neg h]; rfl
      refine ⟨⟨by rw [List.length_set]; exact h1, ?_, by show st.2 + 1 ≤ most; omega⟩, fun k hk => ?_, fun _ => ?_⟩
      · show st.2 + 1 = cntB (st.1.set _ true) n
        rw [cntB_set _ _ (by omega) hv2, if_pos hx, h2]
      · show (st.1.set _ true).getD k false = true
        rw [hset]; split
        · rfl
        · exact hk
      · show (st.1.set _ true).getD _ false = true
        rw [hset, if_pos rfl]
  · rw [if_neg hm]
    exact ⟨⟨h1, h2, h3⟩, fun k hk => hk, fun h => absurd h hm⟩
theorem sevFold_ok {n most : Nat} (hn : 0 < n) : ∀ (l : List Int) (st : List Bool × Nat), SevOk n most st → SevOk n most (l.foldl (sevStep n most) st) ∧ (∀ k, st.1.getD k false = true → (l.foldl (sevStep n most) st).1.getD k false = true) ∧ ((l.foldl (sevStep n most) st).2 < most → ∀ x ∈ l, (l.foldl (sevStep n most) st).1.getD (x % (n : Int)).toNat false = true)
  | [], st, h => ⟨h, fun k hk => hk, fun _ x hx => by cases hx⟩
  | y :: l, st, h => by
    obtain ⟨a1, a2, a3⟩ := sevStep_ok hn h y
    obtain ⟨b1, b2, b3⟩ := sevFold_ok hn l _ a1
    refine ⟨b1, fun k hk => b2 k (a2 k hk), fun hlt x hx => ?_⟩
    rcases List.mem_cons.1 hx with rfl | hx
    · refine b2 _ (a3 ?_)
      -- the count never falls
      refine Classical.byContradiction fun hge => ?_
      have := sevFold_full n most l _ hge
      rw [List.foldl_cons, this] at hlt
      exact hge hlt
    · exact b3 hlt x hx
theorem replicate_cnt (n : Nat) : ∀ m, cntB (List.replicate n false) m = 0
  | 0 => rfl
  | m + 1 => by
    unfold cntB
    rw [replicate_cnt n m]
    have : (List.replicate n false).getD m false = false := by
      rw [List.getD, List.getElem?_replicate]; split <;> rfl
    rw [this]; rfl
theorem several_length {n most : Nat} (hn : 0 < n) (l : List Int) (m : Nat) (hm : m ≤ n) (hmost : most ≤ m) (h : ∀ k : Nat, k < m → (k : Int) ∈ l) : (several l most n).length = most := by
  have h0 : SevOk n most (List.replicate n false, 0) := ⟨List.length_replicate, (replicate_cnt n n).symm, Nat.zero_le _⟩
  obtain ⟨b1, _, b3⟩ := sevFold_ok hn l _ h0
  show (sevTo (sevRun n most l).1 n).length = most
  unfold sevRun
  rw [sevTo_count, ← b1.2.1]
  refine Nat.le_antisymm b1.2.2 (Nat.le_of_not_lt fun hlt => ?_)
  have hall := b3 hlt
  have := cntB_ge (l.foldl (sevStep n most) (List.replicate n false, 0)).1 m (fun k hk => by
    have := hall k (h k hk)
    rwa [show (((k : Nat) : Int) % (n : Int)).toNat = k by rw [Int.emod_eq_of_lt (by omega) (by omega)]; simp] at this) n
  rw [← b1.2.1] at this
  omega
theorem several_lt (l : List Int) (most n : Nat) : ∀ x ∈ several l most n, x < n := fun x hx => by
  have := (List.mem_filter.1 hx).1
  exact List.mem_range.1 this
theorem several_nodup (l : List Int) (most n : Nat) : (several l most n).Nodup := List.Pairwise.filter _ List.nodup_range
theorem exists_not_mem {p : List Nat} {n : Nat} (h : p.length < n) (hd : p.Nodup) : ∃ i, i < n ∧ i ∉ p := by
  refine Classical.byContradiction fun hc => ?_
  have hall : ∀ i ∈ List.range n, i ∈ p := fun i hi => Classical.byContradiction fun hn => hc ⟨i, List.mem_range.1 hi, hn⟩
  have := (List.nodup_range (n := n)).length_le_of_subset hall
  rw [List.length_range] at this
  omega
end Go.Proofs.Ytkfjkdonbmjniaa
