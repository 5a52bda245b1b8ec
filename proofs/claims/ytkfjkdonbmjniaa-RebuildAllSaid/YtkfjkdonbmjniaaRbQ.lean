/- RebuildAll, plain: what filled and endN come to: the columns of which some were lost. -/
import Derived.Test.YtkfjkdonbmjniaaRbP
namespace Go.Proofs.Ytkfjkdonbmjniaa
open Go.RowKit
set_option linter.unusedVariables false
set_option maxRecDepth 100000

/-- All columns, of which some were lost and stand as noughts or as nothing. -/
structure Torn (D : List (List Int)) (n size p : Nat) (gone : List Bool) (S : List (List Int)) : Prop where
  cols : Cols D size
  byts : Byts D
  dl : D.length = n
  len : S.length = n + p
  hole : ∀ i, i < n → gone.getD i false = true → S.getD i [] = List.replicate size 0
  kept : ∀ i, i < n → gone.getD i false = false → S.getD i [] = D.getD i []
  par : ∀ j, j < p → gone.getD (n + j) false = false → S.getD (n + j) [] = encN D size j n
theorem take_getD (L : List (List Int)) (n i : Nat) (h : i < n) : (L.take n).getD i [] = L.getD i [] := by
  rw [List.getD, List.getElem?_take, if_pos h]; rfl
theorem xs_snoc (f : Nat → Nat) (l : List Nat) (k : Nat) : xs_ (fun c => f ((l ++ [k]).getD c 0)) (l ++ [k]).length = xs_ (fun c => f (l.getD c 0)) l.length ^^^ f k := by
  rw [List.length_append]
  show xs_ _ (l.length) ^^^ f ((l ++ [k]).getD l.length 0) = _
  rw [show (l ++ [k]).getD l.length 0 = k by simp [List.getD]]
  congr 1
  exact xs_congr _ (fun i hi => by rw [show (l ++ [k]).getD i 0 = l.getD i 0 by simp [List.getD, List.getElem?_append_left hi]])
theorem enc_holes {D S : List (List Int)} {n size p : Nat} {gone : List Bool} (h : Torn D n size p gone S) (j m : Nat) (hm : m < size) : ∀ k, k ≤ n → encE (S.take n) j m k ^^^ encE D j m k = xs_ (fun c => gmul (twos ((holesN gone n k).getD c 0 * j)) ((D.getD ((holesN gone n k).getD c 0) []).getD m 0).toNat) (holesN gone n k).length
  | 0, _ => by show (0 : Nat) ^^^ 0 = 0; rfl
  | k + 1, hk => by
    have ih := enc_holes h j m hm k (by omega)
    have e : encE (S.take n) j m (k + 1) ^^^ encE D j m (k + 1) = (encE (S.take n) j m k ^^^ encE D j m k) ^^^ (gmul (twos (k * j)) (((S.take n).getD k []).getD m 0).toNat ^^^ gmul (twos (k * j)) ((D.getD k []).getD m 0).toNat) := by
      show (encE (S.take n) j m k ^^^ _) ^^^ (encE D j m k ^^^ _) = _
      rw [xor4]
    rw [e, take_getD _ _ _ (by omega), ih]
    by_cases hg : gone.getD k false = true
    · have e2 : holesN gone n (k + 1) = holesN gone n k ++ [k] := by
        conv => { lhs; unfold holesN }
        rw [if_pos ⟨hg, by omega⟩]
      rw [e2, xs_snoc (fun x => gmul (twos (x * j)) ((D.getD x []).getD m 0).toNat), h.hole k (by omega) hg]
      congr 1
      rw [show (List.replicate size (0 : Int)).getD m 0 = 0 by simp [List.getD, hm]]
      show gmul _ 0 ^^^ _ = _
      rw [gmul_zero_r, Nat.zero_xor]
    · have e2 : holesN gone n (k + 1) = holesN gone n k := by
        conv => { lhs; unfold holesN }
        rw [if_neg (fun h => hg h.1)]
      rw [e2, h.kept k (by omega) (by simpa using hg), Nat.xor_self, Nat.xor_zero]
theorem wantC_at {D S : List (List Int)} {n size p : Nat} {gone : List Bool} (h : Torn D n size p gone S) (u m : Nat) (hm : m < size) (hu : u < p) (hg : gone.getD (n + u) false = false) :
    (wantC S n size u).getD m 0 = ((xs_ (fun c => gmul (twos ((holesN gone n n).getD c 0 * u)) ((D.getD ((holesN gone n n).getD c 0) []).getD m 0).toNat) (holesN gone n n).length : Nat) : Int) := by
  unfold wantC
  have hb := (encN_byt (S.take n) size u n).getD m
  have hb2 := (encN_byt D size u n).getD m
  rw [mixN_getD _ _ _ m (by rw [encN_length]; exact hm), if_pos hm, mixI_eq (by decide) hb, h.par u hu hg, one_mul (by omega), encN_E _ _ _ _ hm, encN_E _ _ _ _ hm, Int.toNat_natCast, Int.toNat_natCast, enc_holes h u m hm n (Nat.le_refl _)]
theorem get_getD (l : List Int) (m : Nat) (h : m < l.length) : l[m] = l.getD m 0 := by simp [List.getD, h]
theorem wantC_len (S : List (List Int)) (n size u : Nat) : (wantC S n size u).length = size := by unfold wantC; rw [mixN_length, encN_length]
theorem fillRow_at {X : List Int} {W : List (List Int)} {size : Nat} {x0 : List Int} (hX : El X) (h0 : Byt x0) (hl : x0.length = size) (m : Nat) (hm : m < size) : ∀ b, (fillRow X W size x0 b).getD m 0 = ((((x0.getD m 0).toNat ^^^ xs_ (fun t => gmul (X.getD t 0).toNat (((W.getD t []).getD m 0).toNat)) b : Nat)) : Int)
  | 0 => by
    have := h0.getD m
    show x0.getD m 0 = (((x0.getD m 0).toNat ^^^ 0 : Nat) : Int)
    rw [Nat.xor_zero]; omega
  | b + 1 => by
    have ih := fillRow_at hX h0 hl (W := W) m hm b
    have hx := hX.getD b
    have hb := (fillRow_byt (W := W) (size := size) hX h0 b).getD m
    show (mixN _ (fillRow X W size x0 b) (W.getD b []) size).getD m 0 = _
    rw [mixN_getD _ _ _ m (by rw [fillRow_length, hl]; exact hm), if_pos hm, mixI_eq (by omega) hb, ih, Int.toNat_natCast, Nat.xor_assoc]
    rfl
theorem lin_back {K : Nat} {M : List (List Int)} (hM : Mat M K K) (hf : (redN M K).2 = K) (v : Nat → Nat) (hv : ∀ c, v c < 256) (a : Nat) (ha : a < K) : xs_ (fun b => gmul (at_ (invM M K) a b) (xs_ (fun c => gmul (at_ M b c) (v c)) K)) K = v a := by
  have hI := inv_both hM hf
  have h1 : Lin.mm K (fe (invM M K)) (Lin.mm K (fe M) (fun c _ => ⟨v c, hv c⟩)) a 0 = ⟨v a, hv a⟩ := by
    rw [← Lin.mm_assoc, Lin.mm_congr (A' := Lin.idm) (B' := fun c _ => ⟨v c, hv c⟩) (fun t ht => hI.1 a t ha ht) (fun _ _ => rfl)]
    exact Lin.idm_mm K _ a 0 ha
  have h2 := congrArg Subtype.val h1
  unfold Lin.mm at h2
  rw [sum_val] at h2
  refine Eq.trans (xs_congr K fun b hb => ?_) h2
  show gmul _ _ = gmul (fe (invM M K) a b).1 (Lin.sum _ K).1
  rw [sum_val, (invM_mat hM).rect.fe]
  congr 1
  refine xs_congr K fun c hc => ?_
  show gmul _ _ = gmul (fe M b c).1 (v c)
  rw [hM.rect.fe]
theorem facM_at {hs us : List Nat} {K : Nat} (h1 : hs.length = K) (h2 : us.length = K) (hK : 1 ≤ K) (hK3 : K ≤ 8) (b c : Nat) (hb : b < K) (hc : c < K) : at_ (facM hs us) b c = twos (hs.getD c 0 * us.getD b 0) := by
  rw [← (facM_mat h1 h2 hK hK3).rect.fe, facM_fe h1 h2 hK hK3 b c hb hc]
theorem wants_get (L : List (List Int)) (n size : Nat) (us : List Nat) (b : Nat) (hb : b < us.length) : (wants L n size us).getD b [] = wantC L n size (us.getD b 0) := by
  simp [wants, List.getD, hb]
/-- One hole filled. -/
theorem fill_one {D S : List (List Int)} {n size p K : Nat} {gone : List Bool} {us : List Nat} (h : Torn D n size p gone S) (hl : (holesN gone n n).length = K) (ul : us.length = K) (hK3 : K ≤ 8) (hus : ∀ b, b < K → us.getD b 0 < p ∧ gone.getD (n + us.getD b 0) false = false)
    (hf : 1 ≤ K → (redN (facM (holesN gone n n) us) K).2 = K) (a : Nat) (ha : a < K) : fillRow ((invM (facM (holesN gone n n) us) K).getD a []) (wants S n size us) size (List.replicate size 0) K = D.getD ((holesN gone n n).getD a 0) [] := by
  have hM := facM_mat hl ul (by omega) hK3
  have hin : (holesN gone n n).getD a 0 < n := by
    refine (holesN_mem gone n n _ ?_).1
    rw [show (holesN gone n n).getD a 0 = (holesN gone n n)[a]'(by omega) by simp [List.getD, show a < (holesN gone n n).length by omega]]
    exact List.getElem_mem _
  have hz : Byt (List.replicate size (0 : Int)) := fun x hx => by rw [(List.mem_replicate.1 hx).2]; decide
  have hdl : (D.getD ((holesN gone n n).getD a 0) []).length = size := h.cols.get _ (by rw [h.dl]; exact hin)
  apply List.ext_getElem (by rw [fillRow_length, List.length_replicate, hdl])
  intro m h1 h2
  have hm : m < size := by omega
  have e := fillRow_at ((invM_mat hM).rect.el a) hz (List.length_replicate ..) (W := wants S n size us) m hm K
  have g1 : (fillRow ((invM (facM (holesN gone n n) us) K).getD a []) (wants S n size us) size (List.replicate size 0) K)[m] = (fillRow ((invM (facM (holesN gone n n) us) K).getD a []) (wants S n size us) size (List.replicate size 0) K).getD m 0 := get_getD _ _ h1
  have g2 : (D.getD ((holesN gone n n).getD a 0) [])[m] = (D.getD ((holesN gone n n).getD a 0) []).getD m 0 := get_getD _ _ h2
  rw [g1, g2, e, show (List.replicate size (0 : Int)).getD m 0 = 0 by simp [List.getD, hm]]
  show (((0 ^^^ _ : Nat)) : Int) = _
  rw [Nat.zero_xor]
  have hb := (h.byts.get ((holesN gone n n).getD a 0)).getD m
  have key := lin_back hM (hf (by omega)) (fun c => ((D.getD ((holesN gone n n).getD c 0) []).getD m 0).toNat % 256) (fun c => Nat.mod_lt _ (by decide)) a ha
  have hmod : ∀ c, ((D.getD ((holesN gone n n).getD c 0) []).getD m 0).toNat % 256 = ((D.getD ((holesN gone n n).getD c 0) []).getD m 0).toNat := fun c => by
    have := (h.byts.get ((holesN gone n n).getD c 0)).getD m
    exact Nat.mod_eq_of_lt (by omega)
  have e2 : xs_ (fun t => gmul (((invM (facM (holesN gone n n) us) K).getD a []).getD t 0).toNat (((wants S n size us).getD t []).getD m 0).toNat) K = ((D.getD ((holesN gone n n).getD a 0) []).getD m 0).toNat := by
    refine Eq.trans (xs_congr K fun b hb => ?_) (key.trans (hmod a))
    show gmul _ _ = gmul (at_ _ a b) _
    unfold at_
    congr 1
    rw [wants_get _ _ _ _ _ (by omega), wantC_at h _ m hm (hus b hb).1 (hus b hb).2, Int.toNat_natCast, hl]
    refine xs_congr K fun c hc => ?_
    show _ = gmul (at_ (facM (holesN gone n n) us) b c) _
    rw [facM_at hl ul (by omega) hK3 b c hb hc, hmod c]
  rw [e2]; omega
theorem fillN_rows {D S : List (List Int)} {n size p K : Nat} {gone : List Bool} {us : List Nat} (h : Torn D n size p gone S) (hl : (holesN gone n n).length = K) (ul : us.length = K) (hK3 : K ≤ 8) (hus : ∀ b, b < K → us.getD b 0 < p ∧ gone.getD (n + us.getD b 0) false = false)
    (hf : 1 ≤ K → (redN (facM (holesN gone n n) us) K).2 = K) : ∀ a, a ≤ K → (∀ b, b < a → (fillN (holesN gone n n) (invM (facM (holesN gone n n) us) K) (wants S n size us) size K S a).getD ((holesN gone n n).getD b 0) [] = D.getD ((holesN gone n n).getD b 0) []) ∧
      ∀ i, (∀ b, b < a → (holesN gone n n).getD b 0 ≠ i) → (fillN (holesN gone n n) (invM (facM (holesN gone n n) us) K) (wants S n size us) size K S a).getD i [] = S.getD i []
  | 0, _ => ⟨fun b hb => absurd hb (by omega), fun i _ => rfl⟩
  | a + 1, ha => by
    obtain ⟨i1, i2⟩ := fillN_rows h hl ul hK3 hus hf a (by omega)
    have hmem := holesN_mem gone n n ((holesN gone n n).getD a 0) (by
      rw [show (holesN gone n n).getD a 0 = (holesN gone n n)[a]'(by omega) by simp [List.getD, show a < (holesN gone n n).length by omega]]
      exact List.getElem_mem _)
    have hne : ∀ b, b < a → (holesN gone n n).getD b 0 ≠ (holesN gone n n).getD a 0 := fun b hb => by
      have := (holesN_asc gone n n).lt a b hb (by omega); omega
    have hlen : (holesN gone n n).getD a 0 < (fillN (holesN gone n n) (invM (facM (holesN gone n n) us) K) (wants S n size us) size K S a).length := by rw [fillN_length, h.len]; omega
    have hstep : (fillN (holesN gone n n) (invM (facM (holesN gone n n) us) K) (wants S n size us) size K S (a + 1)) = (fillN (holesN gone n n) (invM (facM (holesN gone n n) us) K) (wants S n size us) size K S a).set ((holesN gone n n).getD a 0) (D.getD ((holesN gone n n).getD a 0) []) := by
      conv => { lhs; unfold fillN }
      rw [i2 _ hne, h.hole _ hmem.1 hmem.2.2, fill_one h hl ul hK3 hus hf a (by omega)]
    rw [hstep]
    refine ⟨fun b hb => ?_, fun i hi => ?_⟩
    · rw [getDL_set _ _ _ _ hlen]
      by_cases e : b = a
      · subst e; rw [if_pos rfl]
      · rw [if_neg (fun e2 => hne b (by omega) e2.symm)]; exact i1 b (by omega)
    · rw [getDL_set _ _ _ _ hlen, if_neg (hi a (by omega))]
      exact i2 i (fun b hb => hi b (by omega))
theorem holesN_has (gone : List Bool) (n : Nat) : ∀ k i, i < k → i < n → gone.getD i false = true → i ∈ holesN gone n k
  | 0, i, h, _, _ => absurd h (by omega)
  | k + 1, i, h, h2, hg => by
    unfold holesN
    by_cases e : i = k
    · subst e; rw [if_pos ⟨hg, h2⟩]; simp
    · have := holesN_has gone n k i (by omega) h2 hg
      split
      · exact List.mem_append_left _ this
      · exact this
theorem filled_rows {D S : List (List Int)} {n size p K : Nat} {gone : List Bool} {us : List Nat} (h : Torn D n size p gone S) (hl : (holesN gone n n).length = K) (ul : us.length = K) (hK3 : K ≤ 8) (hus : ∀ b, b < K → us.getD b 0 < p ∧ gone.getD (n + us.getD b 0) false = false)
    (hf : 1 ≤ K → (redN (facM (holesN gone n n) us) K).2 = K) (i : Nat) : (filled S n size K (holesN gone n n) us).getD i [] = if i < n then D.getD i [] else S.getD i [] := by
  obtain ⟨i1, i2⟩ := fillN_rows h hl ul hK3 hus hf K (Nat.le_refl _)
  unfold filled
  by_cases hi : i < n
  · rw [if_pos hi]
    by_cases hg : gone.getD i false = true
    · obtain ⟨b, hb, e⟩ := List.mem_iff_getElem.1 (holesN_has gone n n i hi hi hg)
      have e2 : (holesN gone n n).getD b 0 = i := by rw [← e]; simp [List.getD, hb]
      have := i1 b (by omega)
      rwa [e2] at this
    · rw [i2 i (fun b hb e => hg ?_), h.kept i hi (by simpa using hg)]
      rw [← e]
      refine (holesN_mem gone n n _ ?_).2.2
      rw [show (holesN gone n n).getD b 0 = (holesN gone n n)[b]'(by omega) by simp [List.getD, show b < (holesN gone n n).length by omega]]
      exact List.getElem_mem _
  · rw [if_neg hi]
    refine i2 i (fun b hb e => hi ?_)
    rw [← e]
    refine (holesN_mem gone n n _ ?_).2.1
    rw [show (holesN gone n n).getD b 0 = (holesN gone n n)[b]'(by omega) by simp [List.getD, show b < (holesN gone n n).length by omega]]
    exact List.getElem_mem _
theorem list_ext_getD {A B : List (List Int)} (hl : A.length = B.length) (h : ∀ i, i < A.length → A.getD i [] = B.getD i []) : A = B := by
  apply List.ext_getElem hl
  intro i h1 h2
  have := h i h1
  simpa [List.getD, h1, h2] using this
theorem endN_rows {D F S : List (List Int)} {n size p : Nat} {gone : List Bool} (h : Torn D n size p gone S) (hF : ∀ i, F.getD i [] = if i < n then D.getD i [] else S.getD i []) (hFl : F.length = n + p) : ∀ t, t ≤ p → ∀ i, (endN gone n size F t).getD i [] = if i < n then D.getD i [] else if i < n + t then encN D size (i - n) n else S.getD i []
  | 0, _, i => by
    show F.getD i [] = _
    rw [hF i]
    by_cases hi : i < n
    · rw [if_pos hi, if_pos hi]
    · rw [if_neg hi, if_neg hi, if_neg (by omega)]
  | t + 1, ht, i => by
    have ih := endN_rows h hF hFl t (by omega)
    have htake : (endN gone n size F t).take n = D := by
      have hel : (endN gone n size F t).length = n + p := by
        have : ∀ t, (endN gone n size F t).length = F.length := fun t => by
          induction t with
          | zero => rfl
          | succ t iht => unfold endN; split
                          · rw [List.length_set, iht]
                          · exact iht
        rw [this, hFl]
      refine list_ext_getD (by rw [List.length_take, hel, h.dl]; omega) (fun i hi => ?_)
      have hi' : i < n := by rw [List.length_take] at hi; omega
      rw [take_getD _ _ _ hi', ih i, if_pos hi']
    have hel : (endN gone n size F t).length = n + p := by
      have : ∀ t, (endN gone n size F t).length = F.length := fun t => by
        induction t with
        | zero => rfl
        | succ t iht => unfold endN; split
                        · rw [List.length_set, iht]
                        · exact iht
      rw [this, hFl]
    conv => { lhs; unfold endN }
    by_cases hg : gone.getD (n + t) false = true
    · rw [if_pos hg, htake, getDL_set _ _ _ _ (by rw [hel]; omega)]
      by_cases e : n + t = i
      · subst e
        rw [if_pos rfl, if_neg (by omega), if_pos (by omega), Nat.add_sub_cancel_left]
      · rw [if_neg e, ih i]
        by_cases hi : i < n
        · rw [if_pos hi, if_pos hi]
        · rw [if_neg hi, if_neg hi]
          by_cases hi2 : i < n + t
          · rw [if_pos hi2, if_pos (by omega)]
          · rw [if_neg hi2, if_neg (by omega)]
    · rw [if_neg hg, ih i]
      by_cases hi : i < n
      · rw [if_pos hi, if_pos hi]
      · rw [if_neg hi, if_neg hi]
        by_cases hi2 : i < n + t
        · rw [if_pos hi2, if_pos (by omega)]
        · rw [if_neg hi2]
          by_cases e : i = n + t
          · subst e
            rw [if_pos (by omega), Nat.add_sub_cancel_left, h.par t (by omega) (by simpa using hg)]
          · rw [if_neg (by omega)]
theorem endN_length (gone : List Bool) (n size : Nat) (L : List (List Int)) : ∀ t, (endN gone n size L t).length = L.length
  | 0 => rfl
  | t + 1 => by
    unfold endN
    split
    · rw [List.length_set, endN_length gone n size L t]
    · exact endN_length gone n size L t
/-- All columns are there again. -/
theorem rebuilt_all {D S : List (List Int)} {n size p K : Nat} {gone : List Bool} {us : List Nat} (h : Torn D n size p gone S) (hl : (holesN gone n n).length = K) (ul : us.length = K) (hK3 : K ≤ 8) (hus : ∀ b, b < K → us.getD b 0 < p ∧ gone.getD (n + us.getD b 0) false = false)
    (hf : 1 ≤ K → (redN (facM (holesN gone n n) us) K).2 = K) : endN gone n size (filled S n size K (holesN gone n n) us) p = D ++ encAll D size p := by
  have hFl : (filled S n size K (holesN gone n n) us).length = n + p := by unfold filled; rw [fillN_length, h.len]
  have hr := endN_rows h (filled_rows h hl ul hK3 hus hf) hFl p (Nat.le_refl _)
  refine list_ext_getD (by rw [endN_length, hFl, List.length_append, h.dl]; simp [encAll]) (fun i hi => ?_)
  rw [endN_length, hFl] at hi
  rw [hr i]
  by_cases hin : i < n
  · rw [if_pos hin, List.getD, List.getD, List.getElem?_append_left (by rw [h.dl]; exact hin)]
  · rw [if_neg hin, if_pos hi]
    have e : (D ++ encAll D size p).getD i [] = (encAll D size p).getD (i - n) [] := by rw [List.getD, List.getD, List.getElem?_append_right (by rw [h.dl]; omega), h.dl]
    rw [e, encAll_get _ _ _ _ (by omega), h.dl]
theorem getD_mem (l : List Nat) (i : Nat) (h : i < l.length) : l.getD i 0 ∈ l := by
  rw [show l.getD i 0 = l[i] by simp [List.getD, h]]; exact List.getElem_mem _
theorem fac_full3 {hs us : List Nat} {K : Nat} (h1 : hs.length = K) (h2 : us.length = K) (hK : 1 ≤ K) (hK3 : K ≤ 3) (ha : Asc hs) (hb : Asc us) (h12 : ∀ x ∈ hs, x < 12) (hu : ∀ x ∈ us, x < 3) : (redN (facM hs us) K).2 = K := by
  have hh : ∀ c, c < K → hs.getD c 0 < 12 := fun c hc => h12 _ (getD_mem hs c (by omega))
  have hd : ∀ a b, b < a → a < K → hs.getD a 0 ≠ hs.getD b 0 := fun a b hab hak => by have := ha.lt a b hab (by omega); omega
  have hx : ∀ c, c < K → us.getD c 0 < 3 := fun c hc => hu _ (getD_mem us c (by omega))
  have hy : ∀ a b, b < a → a < K → us.getD b 0 < us.getD a 0 := fun a b hab hak => hb.lt a b hab (by omega)
  obtain rfl | rfl | rfl : K = 1 ∨ K = 2 ∨ K = 3 := by omega
  · exact fac_full (s := us.getD 0 0) (d := 1) h1 h2 hK (by omega) hh hd (.inl rfl) (fun b hb => by rw [show b = 0 by omega]; rfl)
  · have q0 := hx 0 (by omega)
    have q1 := hx 1 (by omega)
    have q2 := hy 1 0 (by omega) (by omega)
    exact fac_full (s := us.getD 0 0) (d := us.getD 1 0 - us.getD 0 0) h1 h2 hK (by omega) hh hd (by omega) (fun b hb => by
      obtain rfl | rfl : b = 0 ∨ b = 1 := by omega
      · simp
      · omega)
  · have q0 := hx 0 (by omega)
    have q1 := hx 1 (by omega)
    have q2 := hy 1 0 (by omega) (by omega)
    have q3 := hx 2 (by omega)
    have q4 := hy 2 1 (by omega) (by omega)
    exact fac_full (s := 0) (d := 1) h1 h2 hK (by omega) hh hd (.inl rfl) (fun b hb => by
      obtain rfl | rfl | rfl : b = 0 ∨ b = 1 ∨ b = 2 := by omega
      · omega
      · omega
      · omega)
end Go.Proofs.Ytkfjkdonbmjniaa
