/- RebuildAll, plain: the factors' matrices are of full rank; counts; what filled and endN come to. -/
import Derived.Test.YtkfjkdonbmjniaaRbH
import Derived.Test.YtkfjkdonbmjniaaMtY
namespace Go.Proofs.Ytkfjkdonbmjniaa
open Go.RowKit
set_option linter.unusedVariables false
set_option maxRecDepth 100000

theorem facM_fe {hs us : List Nat} {K : Nat} (h1 : hs.length = K) (h2 : us.length = K) (hK : 1 ≤ K) (hK3 : K ≤ 8) (b c : Nat) (hb : b < K) (hc : c < K) : fe (facM hs us) b c = ⟨twos (hs.getD c 0 * us.getD b 0), twos_lt _⟩ := by
  apply Subtype.ext
  rw [(facM_mat h1 h2 hK hK3).rect.fe]
  have e1 : (facM hs us).getD b [] = hs.map fun i => ((twos (i * us.getD b 0) : Nat) : Int) := by
    simp [facM, List.getD, show b < us.length by omega]
  unfold at_
  rw [e1]
  simp [List.getD, show c < hs.length by omega]
theorem gpow_twos (m : Nat) : ∀ b, gpow (twos m) b = twos (m * b)
  | 0 => rfl
  | b + 1 => by
    show gmul (gpow (twos m) b) (twos m) = _
    rw [gpow_twos m b, ← twos_add]; rfl
theorem fac_full {hs us : List Nat} {K s d : Nat} (h1 : hs.length = K) (h2 : us.length = K) (hK : 1 ≤ K) (hK3 : K ≤ 8) (h12 : ∀ c, c < K → hs.getD c 0 < 12) (hd : ∀ a b, b < a → a < K → hs.getD a 0 ≠ hs.getD b 0) (hs0 : d = 1 ∨ d = 2) (hu : ∀ b, b < K → us.getD b 0 = s + d * b) : (redN (facM hs us) K).2 = K := by
  obtain ⟨ps, hps⟩ : ∃ ps : List Int, ps = hs.map fun h => ((twos (h * d) : Nat) : Int) := ⟨_, rfl⟩
  have hpl : ps.length = K := by rw [hps]; simp [h1]
  have hel : El ps := fun v hv => by
    rw [hps] at hv
    obtain ⟨x, _, rfl⟩ := List.mem_map.1 hv
    have := twos_lt (x * d); omega
  have hpg : ∀ c, c < K → ps.getD c 0 = ((twos (hs.getD c 0 * d) : Nat) : Int) := fun c hc => by
    rw [hps]; simp [List.getD, show c < hs.length by omega]
  have hV := vand_full hel (by omega) (by omega) (fun a b hab ha e => by
    rw [hpg a (by omega), hpg b (by omega)] at e
    have e2 : twos (hs.getD a 0 * d) = twos (hs.getD b 0 * d) := by omega
    have b1 := h12 a (by omega)
    have b2 := h12 b (by omega)
    have := twos_inj (by rcases hs0 with rfl | rfl <;> omega) (by rcases hs0 with rfl | rfl <;> omega) e2
    exact hd a b hab (by omega) (by rcases hs0 with rfl | rfl <;> omega))
  rw [hpl] at hV
  have hM := vandM_mat hel (by omega) (by omega)
  rw [hpl] at hM
  obtain ⟨_, hI⟩ := inv_both hM hV
  have hA := facM_mat h1 h2 hK hK3
  refine full_of_left hA (Q := fun c j => Lin.mul (Lin.inv ⟨twos (hs.getD c 0 * s), twos_lt _⟩) (fe (invM (vandM ps) K) j c)) fun c e hc he => ?_
  have key : ∀ t, t < K → Lin.mul (Lin.mul (Lin.inv ⟨twos (hs.getD c 0 * s), twos_lt _⟩) (fe (invM (vandM ps) K) t c)) (fe (facM hs us) t e) = Lin.mul (Lin.mul (Lin.inv ⟨twos (hs.getD c 0 * s), twos_lt _⟩) ⟨twos (hs.getD e 0 * s), twos_lt _⟩) (Lin.mul (fe (vandM ps) e t) (fe (invM (vandM ps) K) t c)) := fun t ht => by
    have e1 : fe (facM hs us) t e = Lin.mul ⟨twos (hs.getD e 0 * s), twos_lt _⟩ (fe (vandM ps) e t) := by
      rw [facM_fe h1 h2 hK hK3 t e ht he, vandM_fe hel e t (by omega) (by omega)]
      apply Subtype.ext
      show twos _ = gmul (twos _) (gpow ((ps.getD e 0).toNat % 256) t)
      rw [hpg e he, Int.toNat_natCast, Nat.mod_eq_of_lt (twos_lt _), gpow_twos, ← twos_add, hu t ht]
      congr 1
      rw [Nat.mul_add, Nat.mul_assoc]
    rw [e1]
    generalize Lin.inv ⟨twos (hs.getD c 0 * s), twos_lt _⟩ = p
    generalize fe (invM (vandM ps) K) t c = q
    generalize (⟨twos (hs.getD e 0 * s), twos_lt _⟩ : Lin.F) = r
    generalize fe (vandM ps) e t = u
    rw [Lin.mul_assoc, Lin.mul_assoc, ← Lin.mul_assoc q r u, Lin.mul_comm q r, Lin.mul_assoc r q u, Lin.mul_comm q u]
  unfold Lin.mm
  rw [Lin.sum_congr K key, ← Lin.sum_mul_l]
  have := hI e c he hc
  unfold Lin.mm at this
  rw [this]
  unfold Lin.idm
  by_cases hce : c = e
  · subst hce
    rw [if_pos rfl, Lin.mul_one]
    exact Lin.inv_mul (fun h => twos_ne_zero _ (congrArg Subtype.val h))
  · rw [if_neg (fun h => hce h.symm), if_neg hce, Lin.mul_zero]
/-- Strictly ascending. -/
def Asc (l : List Nat) : Prop := l.Pairwise (· < ·)
theorem holesN_asc (gone : List Bool) (n : Nat) : ∀ k, Asc (holesN gone n k)
  | 0 => List.Pairwise.nil
  | k + 1 => by
    unfold holesN
    split
    · refine List.pairwise_append.2 ⟨holesN_asc gone n k, List.pairwise_singleton _ _, fun x hx y hy => ?_⟩
      rw [List.mem_singleton.1 hy]
      exact (holesN_mem gone n k x hx).1
    · exact holesN_asc gone n k
theorem usedN_asc (gone : List Bool) (n K : Nat) : ∀ t, Asc (usedN gone n K t)
  | 0 => List.Pairwise.nil
  | t + 1 => by
    unfold usedN
    split
    · refine List.pairwise_append.2 ⟨usedN_asc gone n K t, List.pairwise_singleton _ _, fun x hx y hy => ?_⟩
      rw [List.mem_singleton.1 hy]
      exact (usedN_mem gone n K t x hx).1
    · exact usedN_asc gone n K t
theorem Asc.lt {l : List Nat} (h : Asc l) (a b : Nat) (hab : b < a) (ha : a < l.length) : l.getD b 0 < l.getD a 0 := by
  have := List.pairwise_iff_getElem.1 h b a (by omega) ha hab
  simpa [List.getD, ha, show b < l.length by omega] using this
theorem holesN_ext (gone : List Bool) (n : Nat) : ∀ m, holesN gone n (n + m) = holesN gone n n
  | 0 => rfl
  | m + 1 => by
    show holesN gone n (n + m + 1) = _
    conv => { lhs; unfold holesN }
    rw [if_neg (fun h => by have := h.2; omega), holesN_ext gone n m]
theorem holesN_cnt (gone : List Bool) (n : Nat) : ∀ k, k ≤ n → (holesN gone n k).length = cntB gone k
  | 0, _ => rfl
  | k + 1, h => by
    have ih := holesN_cnt gone n k (by omega)
    show (if _ then _ else _ : List Nat).length = cntB gone k + if gone.getD k false then 1 else 0
    by_cases hg : gone.getD k false = true
    · rw [if_pos ⟨hg, by omega⟩, if_pos hg, List.length_append, ih]; rfl
    · rw [if_neg (fun h => hg h.1), if_neg hg, ih]; rfl
theorem usedN_cnt (gone : List Bool) (n K : Nat) : ∀ t, (usedN gone n K t).length = min K (t + cntB gone n - cntB gone (n + t)) ∧ cntB gone (n + t) ≤ t + cntB gone n
  | 0 => ⟨by simp [usedN], by simp⟩
  | t + 1 => by
    obtain ⟨ih, ih2⟩ := usedN_cnt gone n K t
    have e : cntB gone (n + (t + 1)) = cntB gone (n + t) + if gone.getD (n + t) false then 1 else 0 := rfl
    have e2 : usedN gone n K (t + 1) = if (usedN gone n K t).length < K ∧ gone.getD (n + t) false = false then usedN gone n K t ++ [t] else usedN gone n K t := rfl
    rw [e, e2]
    by_cases hg : gone.getD (n + t) false = true
    · rw [if_pos hg, if_neg (fun h => by rw [hg] at h; cases h.2), ih]
      exact ⟨by omega, by omega⟩
    · have hg2 : gone.getD (n + t) false = false := by simpa using hg
      rw [if_neg hg]
      by_cases hl : (usedN gone n K t).length < K
      · rw [if_pos ⟨hl, hg2⟩, List.length_append, ih]
        exact ⟨by simp; omega, by omega⟩
      · rw [if_neg (fun h => hl h.1), ih]
        exact ⟨by omega, by omega⟩
theorem cnt_mark {hs : List Bool} (n : Nat) : ∀ (P : List Nat), P.Nodup → (∀ x ∈ P, x < hs.length ∧ x < n) → (∀ x ∈ P, hs.getD x false = false) → cntB (markB hs P) n = cntB hs n + P.length := by
  intro P
  induction P generalizing hs with
  | nil => intro _ _ _; rfl
  | cons x P ih =>
    intro hd hl hf
    show cntB (markB (hs.set x true) P) n = _
    have hx := hl x (List.mem_cons_self ..)
    rw [ih (List.nodup_cons.1 hd).2 (fun y hy => by rw [List.length_set]; exact hl y (List.mem_cons_of_mem _ hy)) (fun y hy => ?_), cntB_set hs x hx.1 (hf x (List.mem_cons_self ..)), if_pos hx.2, List.length_cons]
    · omega
    · have hne : x ≠ y := fun e => (List.nodup_cons.1 hd).1 (by rw [e]; exact hy)
      rw [List.getD, List.getElem?_set_ne hne]
      exact hf y (List.mem_cons_of_mem _ hy)
end Go.Proofs.Ytkfjkdonbmjniaa
