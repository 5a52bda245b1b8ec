/- Gauss and Jordan's steps over lists of rows, and what they come to. No program here. -/
import Derived.Test.YtkfjkdonbmjniaaMtL
import Derived.Test.YtkfjkdonbmjniaaLin
namespace Go.Proofs.Ytkfjkdonbmjniaa
open Go.RowKit
set_option linter.unusedVariables false

/-- An element, as one of the field. -/
def fe (M : List (List Int)) : Lin.M := fun i k => ⟨at_ M i k % 256, Nat.mod_lt _ (by decide)⟩
/-- Rows of C numbers below 256. -/
def Rect (M : List (List Int)) (r C : Nat) : Prop := M.length = r ∧ ∀ x ∈ M, x.length = C ∧ El x
theorem Rect.get {M : List (List Int)} {r C : Nat} (h : Rect M r C) (i : Nat) (hi : i < r) : (M.getD i []).length = C ∧ El (M.getD i []) := by
  have hl : i < M.length := by rw [h.1]; exact hi
  rw [show M.getD i [] = M[i] by simp [List.getD, hl]]; exact h.2 _ (List.getElem_mem hl)
theorem Rect.el {M : List (List Int)} {r C : Nat} (h : Rect M r C) (i : Nat) : El (M.getD i []) := by
  by_cases hi : i < r
  · exact (h.get i hi).2
  · have hl : ¬ i < M.length := by rw [h.1]; exact hi
    rw [show M.getD i [] = [] by simp [List.getD, hl]]; intro v hv; cases hv
theorem Rect.at_lt {M : List (List Int)} {r C : Nat} (h : Rect M r C) (i k : Nat) : at_ M i k < 256 := by
  have := (h.el i).getD k
  unfold at_; omega
theorem Rect.fe {M : List (List Int)} {r C : Nat} (h : Rect M r C) (i k : Nat) : (fe M i k).1 = at_ M i k := Nat.mod_eq_of_lt (h.at_lt i k)
theorem Mat.rect {M : List (List Int)} {r c : Nat} (h : Mat M r c) : Rect M r c := ⟨h.1, h.2.2.2⟩
theorem Rect.set {M : List (List Int)} {r C : Nat} (h : Rect M r C) (i : Nat) {x : List Int} (hx : x.length = C ∧ El x) : Rect (M.set i x) r C :=
  ⟨by rw [List.length_set, h.1], fun y hy => by
    rcases List.mem_or_eq_of_mem_set hy with h1 | h1
    · exact h.2 y h1
    · rw [h1]; exact hx⟩
theorem getD_set_eq (M : List (List Int)) (i j : Nat) (x : List Int) (hi : i < M.length) : (M.set i x).getD j [] = if j = i then x else M.getD j [] := by
  rw [List.getD, List.getElem?_set]
  by_cases h : i = j
  · rw [if_pos h, if_pos h.symm, if_pos hi]; rfl
  · rw [if_neg h, if_neg (fun e => h e.symm)]; rfl
def swapR (M : List (List Int)) (p q : Nat) : List (List Int) := (M.set p (M.getD q [])).set q (M.getD p [])
theorem swapR_getD (M : List (List Int)) (p q i : Nat) (hp : p < M.length) (hq : q < M.length) : (swapR M p q).getD i [] = M.getD (if i = p then q else if i = q then p else i) [] := by
  unfold swapR
  rw [getD_set_eq _ _ _ _ (by rw [List.length_set]; exact hq), getD_set_eq _ _ _ _ hp]
  by_cases h1 : i = q
  · rw [if_pos h1]
    by_cases h2 : i = p
    · rw [if_pos h2, ← h2, h1]
    · rw [if_neg h2, if_pos h1]
  · rw [if_neg h1]
    by_cases h2 : i = p
    · rw [if_pos h2, if_pos h2]
    · rw [if_neg h2, if_neg h2, if_neg h1]
theorem swapR_rect {M : List (List Int)} {r C : Nat} (h : Rect M r C) (p q : Nat) (hp : p < r) (hq : q < r) : Rect (swapR M p q) r C := (h.set p (h.get q hq)).set q (h.get p hp)
/-- A row times a number: of it the first k are done. -/
def scaleN (c : Nat) (x : List Int) (k : Nat) : List Int := (List.range x.length).map fun j => if j < k then ((gmul (x.getD j 0).toNat c : Nat) : Int) else x.getD j 0
def scaleR (c : Nat) (x : List Int) : List Int := scaleN c x x.length
theorem range_getD (f : Nat → Int) (n j : Nat) : ((List.range n).map f).getD j 0 = if j < n then f j else 0 := by
  by_cases h : j < n
  · rw [if_pos h, List.getD, List.getElem?_map, List.getElem?_range h]; rfl
  · rw [if_neg h, List.getD, List.getElem?_eq_none (by simp; omega)]; rfl
theorem scaleN_length (c : Nat) (x : List Int) (k : Nat) : (scaleN c x k).length = x.length := by simp [scaleN]
theorem scaleN_getD (c : Nat) (x : List Int) (k j : Nat) (hj : j < x.length) : (scaleN c x k).getD j 0 = if j < k then ((gmul (x.getD j 0).toNat c : Nat) : Int) else x.getD j 0 := by
  unfold scaleN; rw [range_getD, if_pos hj]
theorem scaleN_zero (c : Nat) (x : List Int) : scaleN c x 0 = x := by
  apply List.ext_getElem (by simp [scaleN])
  intro i h1 h2
  simp [scaleN, List.getD, h2]
theorem scaleN_set (c : Nat) (x : List Int) (k : Nat) (hk : k < x.length) : (scaleN c x k).set k ((gmul (x.getD k 0).toNat c : Nat) : Int) = scaleN c x (k + 1) := by
  apply List.ext_getElem (by simp [scaleN])
  intro i h1 h2
  rw [List.getElem_set]
  by_cases e : k = i
  · subst e; simp [scaleN]
  · rw [if_neg e]
    simp only [scaleN, List.getElem_map, List.getElem_range]
    by_cases hik : i < k
    · rw [if_pos hik, if_pos (by omega)]
    · rw [if_neg hik, if_neg (by omega)]
/-- To a row a multiple of another one is added: the first k are done. -/
def xorN (f : Nat) (top x : List Int) (k : Nat) : List Int := (List.range x.length).map fun j => if j < k then (((x.getD j 0).toNat ^^^ gmul f (top.getD j 0).toNat : Nat) : Int) else x.getD j 0
def xorR (f : Nat) (top x : List Int) : List Int := xorN f top x x.length
theorem xorN_length (f : Nat) (top x : List Int) (k : Nat) : (xorN f top x k).length = x.length := by simp [xorN]
theorem xorN_getD (f : Nat) (top x : List Int) (k j : Nat) (hj : j < x.length) : (xorN f top x k).getD j 0 = if j < k then (((x.getD j 0).toNat ^^^ gmul f (top.getD j 0).toNat : Nat) : Int) else x.getD j 0 := by
  unfold xorN; rw [range_getD, if_pos hj]
theorem xorN_zero (f : Nat) (top x : List Int) : xorN f top x 0 = x := by
  apply List.ext_getElem (by simp [xorN])
  intro i h1 h2
  simp [xorN, List.getD, h2]
theorem xorN_set (f : Nat) (top x : List Int) (k : Nat) (hk : k < x.length) : (xorN f top x k).set k (((x.getD k 0).toNat ^^^ gmul f (top.getD k 0).toNat : Nat) : Int) = xorN f top x (k + 1) := by
  apply List.ext_getElem (by simp [xorN])
  intro i h1 h2
  rw [List.getElem_set]
  by_cases e : k = i
  · subst e; simp [xorN]
  · rw [if_neg e]
    simp only [xorN, List.getElem_map, List.getElem_range]
    by_cases hik : i < k
    · rw [if_pos hik, if_pos (by omega)]
    · rw [if_neg hik, if_neg (by omega)]
theorem scaleN_el {c : Nat} {x : List Int} (h : El x) (k : Nat) : El (scaleN c x k) := by
  intro v hv
  simp only [scaleN, List.mem_map, List.mem_range] at hv
  obtain ⟨j, _, rfl⟩ := hv
  have := h.getD j
  split
  · have : gmul (x.getD j 0).toNat c < 256 := gmul_lt (by omega)
    omega
  · exact this
theorem xorN_el {f : Nat} {top x : List Int} (hf : f < 256) (h : El x) (ht : El top) (k : Nat) : El (xorN f top x k) := by
  intro v hv
  simp only [xorN, List.mem_map, List.mem_range] at hv
  obtain ⟨j, _, rfl⟩ := hv
  have := h.getD j
  split
  · have : (x.getD j 0).toNat ^^^ gmul f (top.getD j 0).toNat < 256 := xor_lt (by omega) (gmul_lt hf)
    omega
  · exact this
/-- One row behind the step. -/
def elimRow (M : List (List Int)) (rank c i : Nat) : List Int := if i = rank ∨ at_ M i c = 0 then M.getD i [] else xorR (at_ M i c) (M.getD rank []) (M.getD i [])
def elimN (M : List (List Int)) (rank c n : Nat) : List (List Int) := (List.range M.length).map fun i => if i < n then elimRow M rank c i else M.getD i []
theorem elimN_length (M : List (List Int)) (rank c n : Nat) : (elimN M rank c n).length = M.length := by simp [elimN]
theorem elimN_getD (M : List (List Int)) (rank c n i : Nat) (hi : i < M.length) : (elimN M rank c n).getD i [] = if i < n then elimRow M rank c i else M.getD i [] := by
  unfold elimN; rw [List.getD, List.getElem?_map, List.getElem?_range hi]; rfl
theorem elimN_zero (M : List (List Int)) (rank c : Nat) : elimN M rank c 0 = M := by
  apply List.ext_getElem (by simp [elimN])
  intro i h1 h2
  simp [elimN, List.getD, h2]
theorem elimN_set (M : List (List Int)) (rank c n : Nat) (hn : n < M.length) : (elimN M rank c n).set n (elimRow M rank c n) = elimN M rank c (n + 1) := by
  apply List.ext_getElem (by simp [elimN])
  intro i h1 h2
  rw [List.getElem_set]
  by_cases e : n = i
  · subst e; simp [elimN]
  · rw [if_neg e]
    simp only [elimN, List.getElem_map, List.getElem_range]
    by_cases hik : i < n
    · rw [if_pos hik, if_pos (by omega)]
    · rw [if_neg hik, if_neg (by omega)]
theorem elimRow_len {M : List (List Int)} {r C : Nat} (h : Rect M r C) (rank c i : Nat) (hi : i < r) : (elimRow M rank c i).length = C ∧ El (elimRow M rank c i) := by
  unfold elimRow
  split
  · exact h.get i hi
  · refine ⟨by unfold xorR; rw [xorN_length]; exact (h.get i hi).1, ?_⟩
    exact xorN_el (h.at_lt i c) (h.get i hi).2 (h.el rank) _
theorem elimN_rect {M : List (List Int)} {r C : Nat} (h : Rect M r C) (rank c n : Nat) : Rect (elimN M rank c n) r C := by
  refine ⟨by rw [elimN_length, h.1], fun x hx => ?_⟩
  simp only [elimN, List.mem_map, List.mem_range] at hx
  obtain ⟨i, hi, rfl⟩ := hx
  rw [h.1] at hi
  split
  · exact elimRow_len h rank c i hi
  · exact h.get i hi
def leader (M : List (List Int)) (rank c : Nat) : Option Nat := (M.drop rank).findIdx? fun x => decide (x.getD c 0 ≠ 0)
def scaled (M : List (List Int)) (rank c : Nat) : List (List Int) := M.set rank (scaleR (ginv (at_ M rank c)) (M.getD rank []))
def stepM (c : Nat) (x : List (List Int) × Nat) : List (List Int) × Nat :=
  match leader x.1 x.2 c with
  | none => x
  | some at_ =>
    let M2 := scaled (swapR x.1 x.2 (x.2 + at_)) x.2 c
    (elimN M2 x.2 c M2.length, x.2 + 1)
def redN (M : List (List Int)) : Nat → List (List Int) × Nat
  | 0 => (M, 0)
  | c + 1 => stepM c (redN M c)
theorem leader_none {M : List (List Int)} {r C : Nat} (h : Rect M r C) {rank c : Nat} (hl : leader M rank c = none) : ∀ i, rank ≤ i → i < r → at_ M i c = 0 := by
  intro i h1 h2
  unfold leader at hl
  rw [List.findIdx?_eq_none_iff] at hl
  have hi : i < M.length := by rw [h.1]; exact h2
  have hm : M.getD i [] ∈ M.drop rank := by
    rw [show M.getD i [] = M[i] by simp [List.getD, hi], List.mem_iff_getElem?]
    exact ⟨i - rank, by rw [List.getElem?_drop, show rank + (i - rank) = i by omega, List.getElem?_eq_getElem hi]⟩
  have := hl _ hm
  simp only [ne_eq, decide_eq_false_iff_not, Decidable.not_not] at this
  unfold at_; rw [this]; rfl
theorem leader_some {M : List (List Int)} {r C : Nat} (h : Rect M r C) {rank c a : Nat} (hl : leader M rank c = some a) : rank + a < r ∧ at_ M (rank + a) c ≠ 0 := by
  unfold leader at hl
  rw [List.findIdx?_eq_some_iff_getElem] at hl
  obtain ⟨h1, h2, _⟩ := hl
  rw [List.length_drop, h.1] at h1
  refine ⟨by omega, ?_⟩
  rw [List.getElem_drop] at h2
  have hi : rank + a < M.length := by rw [h.1]; omega
  have he := (h.el (rank + a)).getD c
  unfold at_
  rw [show M.getD (rank + a) [] = M[rank + a] by simp [List.getD, hi]] at he ⊢
  simp only [ne_eq, decide_not, Bool.not_eq_eq_eq_not, Bool.not_true, decide_eq_false_iff_not] at h2
  omega
theorem scaled_rect {M : List (List Int)} {r C : Nat} (h : Rect M r C) (rank c : Nat) (hr : rank < r) : Rect (scaled M rank c) r C :=
  h.set rank ⟨by unfold scaleR; rw [scaleN_length]; exact (h.get rank hr).1, scaleN_el (h.get rank hr).2 _⟩
theorem stepM_rect {c : Nat} {x : List (List Int) × Nat} {r C : Nat} (h : Rect x.1 r C) : Rect (stepM c x).1 r C := by
  unfold stepM
  cases hl : leader x.1 x.2 c with
  | none => exact h
  | some a =>
    have h1 := leader_some h hl
    exact elimN_rect (scaled_rect (swapR_rect h _ _ (by omega) h1.1) _ _ (by omega)) _ _ _
theorem redN_rect {M : List (List Int)} {r C : Nat} (h : Rect M r C) : ∀ c, Rect (redN M c).1 r C
  | 0 => h
  | c + 1 => stepM_rect (redN_rect h c)
/-- All rows have leaders: nothing more is done. -/
theorem stepM_end {c : Nat} {x : List (List Int) × Nat} {r C : Nat} (h : Rect x.1 r C) (hr : x.2 = r) : stepM c x = x := by
  unfold stepM
  cases hl : leader x.1 x.2 c with
  | none => rfl
  | some a => have := leader_some h hl; omega
theorem redN_end {M : List (List Int)} {r C : Nat} (h : Rect M r C) {c : Nat} (hr : (redN M c).2 = r) : ∀ m, redN M (c + m) = redN M c
  | 0 => rfl
  | m + 1 => by
    show stepM (c + m) (redN M (c + m)) = _
    rw [redN_end h hr m]
    exact stepM_end (redN_rect h c) hr
theorem red_echelon {M : List (List Int)} {r C : Nat} (h : Rect M r C) : ∀ n, n ≤ C → Lin.Echelon r n (redN M n).2 (fe (redN M n).1) ∧ ∃ L : Lin.M, Lin.Turned r (fe M) L ∧ ∀ i k, i < r → k < C → L i k = fe (redN M n).1 i k := by
  intro n
  induction n with
  | zero => intro _; exact ⟨Lin.Echelon.start r _, fe M, Lin.Turned.refl r _, fun _ _ _ _ => rfl⟩
  | succ n ih =>
    intro hn
    obtain ⟨hE, L, hT, hL⟩ := ih (by omega)
    have hR := redN_rect h n
    show Lin.Echelon r (n + 1) (stepM n (redN M n)).2 (fe (stepM n (redN M n)).1) ∧ ∃ L : Lin.M, Lin.Turned r (fe M) L ∧ ∀ i k, i < r → k < C → L i k = fe (stepM n (redN M n)).1 i k
    generalize redN M n = x at *
    obtain ⟨X, rank⟩ := x
    simp only at hE hL hR
    unfold stepM
    simp only
    cases hl : leader X rank n with
    | none =>
      refine ⟨hE.skip fun i h1 h2 => Subtype.ext ?_, L, hT, hL⟩
      rw [hR.fe]; exact leader_none hR hl i h1 h2
    | some a =>
      obtain ⟨ha, hne⟩ := leader_some hR hl
      have hrank : rank < r := by omega
      have hXl : X.length = r := hR.1
      have hS := swapR_rect hR rank (rank + a) hrank ha
      have hS2 := scaled_rect hS rank n hrank
      have hS3 := elimN_rect hS2 rank n r
      simp only
      rw [hS2.1]
      -- the three parts of the step, as functions
      have hs : ∀ i k, i < r → fe (swapR X rank (rank + a)) i k = fe X (if i = rank then rank + a else if i = rank + a then rank else i) k := fun i k hi => by
        apply Subtype.ext
        show at_ _ i k % 256 = at_ _ _ k % 256
        unfold at_
        rw [swapR_getD X rank (rank + a) i (by omega) (by omega)]
      have hc : ∀ i k, i < r → k < C → fe (scaled (swapR X rank (rank + a)) rank n) i k = if i = rank then Lin.mul (Lin.inv (fe (swapR X rank (rank + a)) rank n)) (fe (swapR X rank (rank + a)) i k) else fe (swapR X rank (rank + a)) i k := fun i k hi hk => by
        apply Subtype.ext
        rw [hS2.fe]
        by_cases e : i = rank
        · rw [if_pos e]
          show _ = gmul (ginv (fe _ rank n).1) (fe _ i k).1
          rw [hS.fe, hS.fe]
          subst e
          have hlen := (hS.get i hi).1
          unfold at_ scaled
          rw [getD_set_eq _ _ _ _ (by rw [hS.1]; exact hi), if_pos rfl]
          unfold scaleR
          rw [scaleN_getD _ _ _ _ (by rw [hlen]; exact hk), if_pos (by rw [hlen]; exact hk), Int.toNat_natCast]
          have b1 := hS.at_lt i k
          have b2 := hS.at_lt i n
          unfold at_ at b1 b2
          exact gmul_comm b1 (ginv_lt b2)
        · rw [if_neg e]
          show _ = (fe _ i k).1
          rw [hS.fe]
          unfold at_ scaled
          rw [getD_set_eq _ _ _ _ (by rw [hS.1]; omega), if_neg e]
      have hf : ∀ i k, i < r → k < C → fe (elimN (scaled (swapR X rank (rank + a)) rank n) rank n r) i k = Lin.add (fe (scaled (swapR X rank (rank + a)) rank n) i k) (Lin.mul (if i = rank then Lin.zero else fe (scaled (swapR X rank (rank + a)) rank n) i n) (fe (scaled (swapR X rank (rank + a)) rank n) rank k)) := fun i k hi hk => by
        generalize scaled (swapR X rank (rank + a)) rank n = Y at *
        apply Subtype.ext
        rw [hS3.fe]
        have hg : (elimN Y rank n r).getD i [] = elimRow Y rank n i := by rw [elimN_getD _ _ _ _ _ (by rw [hS2.1]; exact hi), if_pos hi]
        show at_ (elimN Y rank n r) i k = (fe Y i k).1 ^^^ gmul (if i = rank then Lin.zero else fe Y i n).1 (fe Y rank k).1
        rw [hS2.fe, hS2.fe]
        unfold at_
        rw [hg]
        unfold elimRow
        by_cases e : i = rank
        · rw [if_pos (.inl e), if_pos e]
          show _ = _ ^^^ gmul 0 _
          rw [gmul_zero_l, Nat.xor_zero]
        · rw [if_neg e, hS2.fe]
          by_cases e2 : at_ Y i n = 0
          · rw [if_pos (.inr e2), e2, gmul_zero_l, Nat.xor_zero]
          · rw [if_neg (fun h => h.elim e e2)]
            have hlen := (hS2.get i hi).1
            unfold xorR
            rw [xorN_getD _ _ _ _ _ (by rw [hlen]; exact hk), if_pos (by rw [hlen]; exact hk), Int.toNat_natCast]
      -- beyond C the lists say nothing: the functions go on there as they must
      let L1 : Lin.M := fun i k => L (if i = rank then rank + a else if i = rank + a then rank else i) k
      let L2 : Lin.M := fun i k => if i = rank then Lin.mul (Lin.inv (L1 rank n)) (L1 i k) else L1 i k
      let L3 : Lin.M := fun i k => Lin.add (L2 i k) (Lin.mul (if i = rank then Lin.zero else L2 i n) (L2 rank k))
      have hEL : Lin.Echelon r n rank L := by
        obtain ⟨q1, q2, ⟨p, q3, q4⟩, q5⟩ := hE
        exact ⟨q1, q2, ⟨p, fun j hj => ⟨(q3 j hj).1, fun i hi => by rw [hL i _ hi (by have := (q3 j hj).1; omega)]; exact (q3 j hj).2 i hi⟩, q4⟩, fun i k h1 h2 h3 => by rw [hL i k h2 (by omega)]; exact q5 i k h1 h2 h3⟩
      have hLne : L (rank + a) n ≠ Lin.zero := by
        rw [hL _ _ ha (by omega)]
        intro e
        have := congrArg Subtype.val e
        rw [hR.fe] at this
        exact hne this
      have hst := hEL.step (L1 := L1) (L2 := L2) (L3 := L3) (rank + a) (by omega) ha hLne (fun _ _ _ => rfl) (fun _ _ _ => rfl) (fun _ _ _ => rfl)
      have h1 : ∀ i k, i < r → k < C → L1 i k = fe (swapR X rank (rank + a)) i k := fun i k hi hk => by
        rw [hs i k hi]
        exact hL _ k (by split; · exact ha
                         · split <;> omega) hk
      have h2 : ∀ i k, i < r → k < C → L2 i k = fe (scaled (swapR X rank (rank + a)) rank n) i k := fun i k hi hk => by
        rw [hc i k hi hk]
        show (if i = rank then Lin.mul (Lin.inv (L1 rank n)) (L1 i k) else L1 i k) = _
        rw [h1 rank n hrank (by omega), h1 i k hi hk]
      have h3 : ∀ i k, i < r → k < C → L3 i k = fe (elimN (scaled (swapR X rank (rank + a)) rank n) rank n r) i k := fun i k hi hk => by
        rw [hf i k hi hk]
        show Lin.add (L2 i k) (Lin.mul (if i = rank then Lin.zero else L2 i n) (L2 rank k)) = _
        rw [h2 i k hi hk, h2 i n hi (by omega), h2 rank k hrank hk]
      refine ⟨?_, L3, hT.trans hst.2, h3⟩
      obtain ⟨q1, q2, ⟨p, q3, q4⟩, q5⟩ := hst.1
      exact ⟨q1, q2, ⟨p, fun j hj => ⟨(q3 j hj).1, fun i hi => by rw [← h3 i _ hi (by have := (q3 j hj).1; omega)]; exact (q3 j hj).2 i hi⟩, q4⟩, fun i k h1 h2 h3' => by rw [← h3 i k h2 (by omega)]; exact q5 i k h1 h2 h3'⟩
end Go.Proofs.Ytkfjkdonbmjniaa
