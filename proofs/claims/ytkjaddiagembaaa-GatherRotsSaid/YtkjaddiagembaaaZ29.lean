/- Texts that belong together: FletR, GaK, GaJ. -/
import Derived.Test.YtkjaddiagembaaaZ21
import Derived.Test.YtkjaddiagembaaaZ16
import Derived.Test.YtkjaddiagembaaaZ22
import Derived.Test.YtkjaddiagembaaaZ28
/- The plain laws on changed and swapped words. No program here. -/
namespace Go.Proofs.Ytkjaddiagembaaa
open Go.RowKit
set_option linter.unusedVariables false

def Bytes (X : List Int) : Prop := ∀ x ∈ X, 0 ≤ x ∧ x ≤ 255
theorem Bytes.getD {X : List Int} (h : Bytes X) (i : Nat) : 0 ≤ X.getD i 0 ∧ X.getD i 0 ≤ 255 := by
  by_cases hi : i < X.length
  · have : X.getD i 0 = X[i] := by simp [List.getD, hi]
    rw [this]; exact h _ (List.getElem_mem hi)
  · have : X.getD i 0 = 0 := by simp [List.getD, List.getElem?_eq_none (by omega : X.length ≤ i)]
    rw [this]; omega
theorem split4 (X : List Int) (k : Nat) (h : 4 * k + 4 ≤ X.length) :
    X = X.take (4 * k) ++ ([X.getD (4 * k) 0, X.getD (4 * k + 1) 0, X.getD (4 * k + 2) 0, X.getD (4 * k + 3) 0] ++ X.drop (4 * k + 4)) := by
  have g : ∀ i (hi : i < X.length), X.getD i 0 = X[i] := fun i hi => by simp [List.getD, hi]
  rw [g _ (by omega), g _ (by omega), g _ (by omega), g _ (by omega)]
  have e : X.drop (4 * k) = [X[4 * k], X[4 * k + 1], X[4 * k + 2], X[4 * k + 3]] ++ X.drop (4 * k + 4) := by
    rw [List.drop_eq_getElem_cons (by omega), List.drop_eq_getElem_cons (by omega), List.drop_eq_getElem_cons (by omega), List.drop_eq_getElem_cons (by omega)]
    simp [Nat.add_assoc]
  rw [← e, List.take_append_drop]
theorem take_of_getD {X Y : List Int} (n : Nat) (hl : X.length = Y.length) (h : ∀ j, j < n → X.getD j 0 = Y.getD j 0) : X.take n = Y.take n := by
  apply List.ext_getElem (by simp [hl])
  intro i h1 h2
  rw [List.length_take] at h1 h2
  have := h i (by omega)
  rw [List.getElem_take, List.getElem_take]
  simpa [List.getD, show i < X.length by omega, show i < Y.length by omega] using this
theorem drop_of_getD {X Y : List Int} (n : Nat) (hl : X.length = Y.length) (h : ∀ j, n ≤ j → X.getD j 0 = Y.getD j 0) : X.drop n = Y.drop n := by
  apply List.ext_getElem (by simp [hl])
  intro i h1 h2
  simp at h1 h2
  have := h (n + i) (by omega)
  rw [List.getElem_drop, List.getElem_drop]
  simpa [List.getD, show n + i < X.length by omega, show n + i < Y.length by omega] using this
theorem word_inj {a b c d a' b' c' d' : Int} (ha : 0 ≤ a ∧ a ≤ 255) (hb : 0 ≤ b ∧ b ≤ 255) (hc : 0 ≤ c ∧ c ≤ 255) (hd : 0 ≤ d ∧ d ≤ 255) (ha' : 0 ≤ a' ∧ a' ≤ 255) (hb' : 0 ≤ b' ∧ b' ≤ 255) (hc' : 0 ≤ c' ∧ c' ≤ 255) (hd' : 0 ≤ d' ∧ d' ≤ 255)
    (h : wordOf a b c d = wordOf a' b' c' d') : a = a' ∧ b = b' ∧ c = c' ∧ d = d' := by unfold wordOf at h; omega
theorem word_bd {a b c d : Int} (ha : 0 ≤ a ∧ a ≤ 255) (hb : 0 ≤ b ∧ b ≤ 255) (hc : 0 ≤ c ∧ c ≤ 255) (hd : 0 ≤ d ∧ d ≤ 255) : 0 ≤ wordOf a b c d ∧ wordOf a b c d ≤ 4294967295 := by unfold wordOf; omega

theorem changed_a {X Y : List Int} (hl : X.length = Y.length) (h4 : X.length % 4 = 0) (hX : Bytes X) (hY : Bytes Y) (k : Nat) (hk : 4 * k + 4 ≤ X.length)
    (hlo : ∀ j, j < 4 * k → X.getD j 0 = Y.getD j 0) (hhi : ∀ j, 4 * k + 4 ≤ j → X.getD j 0 = Y.getD j 0) :
    (Four.zero.words (wordsOf X)).a = (Four.zero.words (wordsOf Y)).a → X = Y := by
  · intro h
    have eX := split4 X k hk
    have eY := split4 Y k (by omega)
    rw [← take_of_getD (4 * k) hl hlo, ← drop_of_getD (4 * k + 4) hl hhi] at eY
    rw [zero_words, zero_words] at h
    have ha : (Four.zero.wordsE (wordsOf X)).wrap.a = (Four.zero.wordsE (wordsOf Y)).wrap.a := h
    have wX : wordsOf X = wordsOf (X.take (4 * k)) ++ (wordOf (X.getD (4 * k) 0) (X.getD (4 * k + 1) 0) (X.getD (4 * k + 2) 0) (X.getD (4 * k + 3) 0) :: wordsOf (X.drop (4 * k + 4))) := by
      conv => lhs; rw [eX]
      rw [wordsOf_append _ _ (by rw [List.length_take]; omega)]; rfl
    have wY : wordsOf Y = wordsOf (X.take (4 * k)) ++ (wordOf (Y.getD (4 * k) 0) (Y.getD (4 * k + 1) 0) (Y.getD (4 * k + 2) 0) (Y.getD (4 * k + 3) 0) :: wordsOf (X.drop (4 * k + 4))) := by
      conv => lhs; rw [eY]
      rw [wordsOf_append _ _ (by rw [List.length_take]; omega)]; rfl
    have hu := word_bd (hX.getD (4 * k)) (hX.getD (4 * k + 1)) (hX.getD (4 * k + 2)) (hX.getD (4 * k + 3))
    have hv := word_bd (hY.getD (4 * k)) (hY.getD (4 * k + 1)) (hY.getD (4 * k + 2)) (hY.getD (4 * k + 3))
    have hw : wordOf (X.getD (4 * k) 0) (X.getD (4 * k + 1) 0) (X.getD (4 * k + 2) 0) (X.getD (4 * k + 3) 0) = wordOf (Y.getD (4 * k) 0) (Y.getD (4 * k + 1) 0) (Y.getD (4 * k + 2) 0) (Y.getD (4 * k + 3) 0) := by
      have e1 := wordsE_a Four.zero (wordsOf X)
      have e2 := wordsE_a Four.zero (wordsOf Y)
      rw [wX, List.sum_append, List.sum_cons] at e1
      rw [wY, List.sum_append, List.sum_cons] at e2
      rw [← wX] at e1
      rw [← wY] at e2
      have := wrap_eq ha (by omega) (by omega)
      omega
    obtain ⟨h0, h1, h2, h3⟩ := word_inj (hX.getD _) (hX.getD _) (hX.getD _) (hX.getD _) (hY.getD _) (hY.getD _) (hY.getD _) (hY.getD _) hw
    rw [eX, eY, h0, h1, h2, h3]
end Go.Proofs.Ytkjaddiagembaaa
/- Gather, plain: where nothing is taken as bad; a changed word. -/
namespace Go.Proofs.Ytkjaddiagembaaa
set_option linter.unusedVariables false

theorem goneOf_nil (N i : Nat) : (goneOf [] N).getD i false = false := by
  rw [goneOf_get (fun x hx => by cases hx)]; simp
theorem holesN_nil (n N : Nat) : ∀ k, holesN (goneOf [] N) n k = []
  | 0 => rfl
  | k + 1 => by
    unfold holesN
    rw [if_neg (by rw [goneOf_nil]; simp), holesN_nil n N k]
theorem endN_nil (n N size : Nat) (L : List (List Int)) : ∀ t, endN (goneOf [] N) n size L t = L
  | 0 => rfl
  | t + 1 => by
    unfold endN
    rw [if_neg (by rw [goneOf_nil]; simp), endN_nil n N size L t]
theorem Blk.data_none (b : Blk) (f : Nat → List Int) (hf : ∀ k, k < b.m → (f (b.p + k)).length = b.sz (b.p + k)) : b.data f [] = (List.range b.m).flatMap fun k => f (b.p + k) := by
  unfold Blk.data
  have e : ∀ k ∈ List.range b.m, ((b.back f []).getD k []).take (b.sz (b.p + k)) = f (b.p + k) := by
    intro k hk
    rw [List.mem_range] at hk
    have hK : b.K [] = 0 := by unfold Blk.K; rw [List.map_nil, holesN_nil]; rfl
    have hb : (b.back f []).getD k [] = fillC b.long (f (b.p + k)) := by
      unfold Blk.back backOf
      rw [List.map_nil, hK, endN_nil, holesN_nil]
      show (startL (b.all f) (goneOf [] (b.m + b.p)) b.m b.long (b.m + b.p) (b.m + b.p)).getD k [] = _
      rw [startL_get _ _ _ _ _ _ _ (by omega), if_pos (by omega)]
      unfold l0
      rw [if_neg (by rw [goneOf_nil]; simp)]
      have h := b.all_get f (c := b.p + k) (by omega)
      have hp : b.place (b.p + k) = k := by unfold Blk.place; rw [if_neg (by omega)]; omega
      rw [hp] at h
      exact h
    rw [hb]
    exact fillC_take (hf k hk)
  simp only [List.flatMap]
  congr 1
  exact List.map_congr_left e
theorem flat_len (b : Blk) (g : Nat → List Int) : ∀ n, (∀ k, k < n → (g k).length = b.sz (b.p + k)) → ((List.range n).flatMap g).length = b.off n
  | 0, _ => rfl
  | n + 1, h => by
    rw [List.range_succ, List.flatMap_append, List.length_append, flat_len b g n (fun k hk => h k (by omega))]
    simp only [List.flatMap_cons, List.flatMap_nil, List.append_nil]
    rw [h n (by omega)]; rfl
theorem flat_two (b : Blk) (g g' : Nat → List Int) : ∀ n, (∀ k, k < n → (g k).length = b.sz (b.p + k)) → (∀ k, k < n → (g' k).length = b.sz (b.p + k)) → ∀ x, x < b.off n →
    ∃ k t, k < n ∧ t < b.sz (b.p + k) ∧ x = b.off k + t ∧ ((List.range n).flatMap g).getD x 0 = (g k).getD t 0 ∧ ((List.range n).flatMap g').getD x 0 = (g' k).getD t 0
  | 0, _, _, x, hx => by
    have : b.off 0 = 0 := rfl
    omega
  | n + 1, h, h', x, hx => by
    have l1 := flat_len b g n (fun k hk => h k (by omega))
    have l2 := flat_len b g' n (fun k hk => h' k (by omega))
    rw [List.range_succ, List.flatMap_append, List.flatMap_append]
    simp only [List.flatMap_cons, List.flatMap_nil, List.append_nil]
    by_cases hlt : x < b.off n
    · obtain ⟨k, t, hk, ht, he, e1, e2⟩ := flat_two b g g' n (fun k hk => h k (by omega)) (fun k hk => h' k (by omega)) x hlt
      refine ⟨k, t, by omega, ht, he, ?_, ?_⟩
      · rw [← e1, List.getD, List.getD, List.getElem?_append_left (by omega)]
      · rw [← e2, List.getD, List.getD, List.getElem?_append_left (by omega)]
    · have ho : b.off (n + 1) = b.off n + b.sz (b.p + n) := rfl
      refine ⟨n, x - b.off n, by omega, by omega, by omega, ?_, ?_⟩
      · rw [List.getD, List.getD, List.getElem?_append_right (by omega), l1]
      · rw [List.getD, List.getD, List.getElem?_append_right (by omega), l2]
theorem flat_inj (b : Blk) (g g' : Nat → List Int) : ∀ n, (∀ k, k < n → (g k).length = b.sz (b.p + k)) → (∀ k, k < n → (g' k).length = b.sz (b.p + k)) → (List.range n).flatMap g = (List.range n).flatMap g' → ∀ k, k < n → g k = g' k
  | 0, _, _, _, k, hk => by omega
  | n + 1, h, h', e, k, hk => by
    have l1 := flat_len b g n (fun k hk => h k (by omega))
    have l2 := flat_len b g' n (fun k hk => h' k (by omega))
    rw [List.range_succ, List.flatMap_append, List.flatMap_append] at e
    simp only [List.flatMap_cons, List.flatMap_nil, List.append_nil] at e
    obtain ⟨e1, e2⟩ := List.append_inj e (by rw [l1, l2])
    by_cases hkn : k = n
    · subst hkn; exact e2
    · exact flat_inj b g g' n (fun k hk => h k (by omega)) (fun k hk => h' k (by omega)) e1 k (by omega)
theorem off_mul (b : Blk) : ∀ k, ∃ q, b.off k = 128 * q
  | 0 => ⟨0, rfl⟩
  | k + 1 => by
    obtain ⟨q, hq⟩ := off_mul b k
    exact ⟨q + b.cnt (b.p + k), by show b.off k + b.cnt (b.p + k) * 128 = _; omega⟩
/-- A changed word of a data column changes the sum of the data. -/
theorem word_unfit (b : Blk) {pd : List Int} (hl : pd.length = b.bytes) (hb : Byt pd) {f : Nat → List Int} {j i : Nat} (hj : j < b.m) (hi : i % 4 = 0) (hi4 : i + 4 ≤ b.sz (b.p + j))
    (hf : ∀ k, k < b.m → k ≠ j → f (b.p + k) = b.part pd k) (hlen : (f (b.p + j)).length = b.sz (b.p + j)) (hby : Byt (f (b.p + j)))
    (hlo : ∀ t, t < i ∨ i + 4 ≤ t → (f (b.p + j)).getD t 0 = (b.part pd j).getD t 0) (hs : sumF (b.data f []) = sumF pd) : f (b.p + j) = b.part pd j := by
  have hpl : ∀ k, k < b.m → (b.part pd k).length = b.sz (b.p + k) := fun k hk => b.part_len hl hk
  have hfl : ∀ k, k < b.m → (f (b.p + k)).length = b.sz (b.p + k) := fun k hk => by
    by_cases e : k = j
    · rw [e]; exact hlen
    · rw [hf k hk e]; exact hpl k hk
  rw [b.data_none f hfl] at hs
  have hjoin : (List.range b.m).flatMap (b.part pd) = pd := by
    rw [b.parts_join hl b.m (Nat.le_refl _)]
    show pd.take b.bytes = pd
    rw [← hl, List.take_length]
  have hXl := flat_len b (fun k => f (b.p + k)) b.m hfl
  obtain ⟨q, hq⟩ := off_mul b j
  obtain ⟨r, hr⟩ : ∃ r, i = 4 * r := ⟨i / 4, by omega⟩
  have hoj : b.off j + b.sz (b.p + j) ≤ b.off b.m := b.off_mono (i := j + 1) hj
  have hmul : b.bytes % 4 = 0 := by
    obtain ⟨q2, hq2⟩ := off_mul b b.m
    show b.off b.m % 4 = 0
    omega
  have hbl : b.bytes = b.off b.m := rfl
  have key : (List.range b.m).flatMap (fun k => f (b.p + k)) = pd := by
    refine changed_a (k := 32 * q + r) (by rw [hXl, hl]; rfl) (by rw [hXl]; exact hmul) ?_ hb (by rw [hXl]; omega) ?_ ?_ (by
      have := congrArg Four.a hs; exact this)
    · intro v hv
      obtain ⟨k, hk, hv⟩ := List.mem_flatMap.1 hv
      rw [List.mem_range] at hk
      by_cases e : k = j
      · subst e; exact hby v hv
      · rw [hf k hk e] at hv; exact b.part_byt hb k v hv
    · intro x hx
      obtain ⟨k, t, hk, ht, he, e1, e2⟩ := flat_two b (fun k => f (b.p + k)) (b.part pd) b.m hfl hpl x (by omega)
      rw [hjoin] at e2
      rw [e1, e2]
      by_cases e : k = j
      · subst e; exact hlo t (.inl (by omega))
      · show (f (b.p + k)).getD t 0 = _; rw [hf k hk e]
    · intro x hx
      by_cases hx2 : x < b.off b.m
      · obtain ⟨k, t, hk, ht, he, e1, e2⟩ := flat_two b (fun k => f (b.p + k)) (b.part pd) b.m hfl hpl x hx2
        rw [hjoin] at e2
        rw [e1, e2]
        by_cases e : k = j
        · subst e; exact hlo t (.inr (by omega))
        · show (f (b.p + k)).getD t 0 = _; rw [hf k hk e]
      · rw [List.getD, List.getD, List.getElem?_eq_none (by rw [hXl]; omega), List.getElem?_eq_none (by rw [hl]; omega)]
  exact flat_inj b (fun k => f (b.p + k)) (b.part pd) b.m hfl hpl (key.trans hjoin.symm) j hj
theorem picks_one (n : Nat) : picks n 1 = (List.range' 0 n).map fun x => [x] := by
  unfold picks
  show (List.range' 0 (n - 0 - 0)).flatMap (fun x => [[] ++ [x]]) = _
  rw [Nat.sub_zero, Nat.sub_zero, List.map_eq_flatMap]
  rfl
theorem mapK_one {n c : Nat} (hc : c < n) : mapK (List.range n) [c] = [c] := by
  simp [mapK, List.getD, hc]
theorem found_one {n c K : Nat} {fit : List Nat → Prop} {g : List Nat} (hc : c < n) (h0 : ¬ fit []) (h1 : fit [c]) (h : Found (List.range n) K fit g) : ∃ j, j ≤ c ∧ g = [j] ∧ fit [j] := by
  obtain ⟨k, j, p, hk, hp, rfl, hf, h2, h3⟩ := h
  rw [List.length_range] at hp h2 h3
  have hc1 : [c] ∈ picks n 1 := picks_all (q := [c]) ⟨Nat.zero_le _, hc, by show c + 1 ≤ n; omega⟩
  match k, hp, h2, h3 with
  | 0, hp, _, _ =>
    rw [picks_zero] at hp
    cases j with
    | zero => obtain rfl : [] = p := by simpa using hp
              exact absurd hf h0
    | succ j => simp at hp
  | 1, hp, h2, h3 =>
    rw [picks_one, List.getElem?_map] at hp
    have hjn : j < n := by
      by_cases h : j < n
      · exact h
      · rw [List.getElem?_eq_none (by simp; omega)] at hp; cases hp
    rw [List.getElem?_range' hjn] at hp
    have hpj : p = [j] := by simpa using hp.symm
    subst hpj
    rw [mapK_one hjn] at hf ⊢
    refine ⟨j, ?_, rfl, hf⟩
    by_cases hjc : j ≤ c
    · exact hjc
    · exfalso
      refine h3 c (by omega) [c] ?_ (by rw [mapK_one hc]; exact h1)
      rw [picks_one, List.getElem?_map, List.getElem?_range' hc]
      simp
  | k + 2, _, h2, _ => exact absurd (by rw [mapK_one hc]; exact h1) (h2 1 (by omega) [c] hc1)
theorem keptOf_none {ps : List (Bool × List Int)} {n : Nat} (h : ∀ c, c < n → (ps.getD c (false, [])).1 = false) : lostOf ps n = [] ∧ keptOf ps n = List.range n := by
  constructor
  · unfold lostOf
    rw [List.filter_eq_nil_iff]
    intro c hc
    rw [h c (List.mem_range.1 hc)]; decide
  · unfold keptOf
    rw [List.filter_eq_self]
    intro c hc
    rw [h c (List.mem_range.1 hc)]; decide
theorem Blk.col_part (b : Blk) (pd : List Int) (k : Nat) : b.col pd (b.p + k) = b.part pd k := by
  unfold Blk.col
  rw [if_neg (by omega), Nat.add_sub_cancel_left]
theorem Blk.data_as (b : Blk) {pd : List Int} (hl : pd.length = b.bytes) {f : Nat → List Int} (hf : ∀ k, k < b.m → f (b.p + k) = b.part pd k) : b.data f [] = pd := by
  rw [b.data_none f (fun k hk => by rw [hf k hk]; exact b.part_len hl hk)]
  have e : (List.range b.m).flatMap (fun k => f (b.p + k)) = (List.range b.m).flatMap (b.part pd) := by
    simp only [List.flatMap]
    congr 1
    exact List.map_congr_left fun k hk => hf k (List.mem_range.1 hk)
  rw [e, b.parts_join hl b.m (Nat.le_refl _)]
  show pd.take b.bytes = pd
  rw [← hl, List.take_length]
end Go.Proofs.Ytkjaddiagembaaa
/- Gather, plain: columns that have rotted. -/
namespace Go.Proofs.Ytkjaddiagembaaa
set_option linter.unusedVariables false

/-- The pieces, as many of those in gs being changed as i says; the first is lost, where 'lose' says so. -/
def Rot (b : Blk) (pd : List Int) (gs : List Nat) (lo : Bool) (nn i : Nat) (ps : List (Bool × List Int)) : Prop :=
  ps.length = nn ∧ ∀ x, x < nn → (x ∉ gs.take i → ps.getD x (false, []) = (false, b.col pd x)) ∧
    (x ∈ gs.take i → (ps.getD x (false, [])).1 = (lo && decide (x = gs.getD 0 0)) ∧ Byt (ps.getD x (false, [])).2 ∧ ((ps.getD x (false, [])).1 = false → (ps.getD x (false, [])).2.length = b.sz x) ∧ (ps.getD x (false, [])).2.length ≤ b.sz x)
theorem Rot.zero (b : Blk) (pd : List Int) (gs : List Nat) (lo : Bool) (nn : Nat) : Rot b pd gs lo nn 0 (pieces b pd nn) :=
  ⟨pieces_len .., fun x hx => ⟨fun _ => pieces_get b pd hx, fun h => by simp at h⟩⟩
theorem Rot.fresh {b : Blk} {pd : List Int} {gs : List Nat} {lo : Bool} {nn i : Nat} {ps : List (Bool × List Int)} (h : Rot b pd gs lo nn i ps) (hn : gs.Nodup) (hi : i < gs.length) (hc : gs.getD i 0 < nn) : ps.getD (gs.getD i 0) (false, []) = (false, b.col pd (gs.getD i 0)) := by
  refine (h.2 _ hc).1 (fun hm => ?_)
  obtain ⟨j, hj, e⟩ := List.getElem_of_mem hm
  rw [List.length_take] at hj
  rw [List.getElem_take] at e
  have e2 : gs.getD i 0 = gs[i] := by simp [List.getD, hi]
  rw [e2] at e
  have := (List.getElem_inj hn).1 e
  omega
theorem Rot.step {b : Blk} {pd : List Int} {gs : List Nat} {lo : Bool} {nn i : Nat} {ps : List (Bool × List Int)} (h : Rot b pd gs lo nn i ps) (hn : gs.Nodup) (hi : i < gs.length) (hc : gs.getD i 0 < nn) (z : Bool × List Int)
    (h1 : z.1 = (lo && decide (i = 0))) (h2 : Byt z.2) (h3 : z.1 = false → z.2.length = b.sz (gs.getD i 0)) (h4 : z.2.length ≤ b.sz (gs.getD i 0)) : Rot b pd gs lo nn (i + 1) (ps.set (gs.getD i 0) z) := by
  refine ⟨by rw [List.length_set]; exact h.1, fun x hx => ?_⟩
  rw [take_snocN hi]
  by_cases e : x = gs.getD i 0
  · subst e
    have hz : (ps.set (gs.getD i 0) z).getD (gs.getD i 0) (false, []) = z := by rw [List.getD, List.getElem?_set_self (by rw [h.1]; exact hc)]; rfl
    rw [hz]
    refine ⟨fun hm => absurd (List.mem_append_right _ (List.mem_singleton.2 rfl)) hm, fun _ => ⟨?_, h2, h3, h4⟩⟩
    rw [h1]
    congr 1
    by_cases h0 : i = 0
    · subst h0; simp
    · rw [decide_eq_false h0, decide_eq_false]
      intro e
      exact h0 (nodup_getD hn hi (by omega) e)
  · have hz : (ps.set (gs.getD i 0) z).getD x (false, []) = ps.getD x (false, []) := by rw [List.getD, List.getElem?_set_ne (fun h => e h.symm), ← List.getD]
    rw [hz]
    refine ⟨fun hm => (h.2 x hx).1 (fun h' => hm (List.mem_append_left _ h')), fun hm => (h.2 x hx).2 ?_⟩
    rcases List.mem_append.1 hm with hm | hm
    · exact hm
    · exact absurd (List.mem_singleton.1 hm) e
theorem filter_parts (a q : Nat → Bool) : ∀ l : List Nat, (∀ x ∈ l, a x = true → q x = true) → (l.filter a).length + ((l.filter fun x => !a x).filter q).length = (l.filter q).length
  | [], _ => rfl
  | x :: l, h => by
    have ih := filter_parts a q l (fun y hy => h y (List.mem_cons_of_mem _ hy))
    have hx := h x (List.mem_cons_self ..)
    cases ha : a x <;> cases hq : q x <;> simp only [List.filter_cons, ha, hq, Bool.not_true, Bool.not_false, if_true, List.length_cons, Bool.false_eq_true, if_false] <;> first | omega | (rw [ha, hq] at hx; exact absurd (hx rfl) (by decide))
/-- Whatever has rotted, the columns that are taken as bad may be all of those. -/
theorem Rot.fits {b : Blk} {pd : List Int} {gs : List Nat} {lo : Bool} {ps : List (Bool × List Int)} {q : Nat → Bool} (hl : pd.length = b.bytes) (hb : Byt pd) (h : Rot b pd gs lo (b.p + b.m) gs.length ps) (hq : gs = (List.range (b.p + b.m)).filter q) (hf : gs.length ≤ b.p)
    (hle : ∀ c, c < b.p + b.m → (ps.getD c (false, [])).2.length ≤ b.long) :
    (lostOf ps (b.p + b.m)).length ≤ b.p ∧ ∃ k p, k ≤ min (b.p - (lostOf ps (b.p + b.m)).length) (keptOf ps (b.p + b.m)).length ∧ p ∈ picks (keptOf ps (b.p + b.m)).length k ∧ b.data (fun c => (ps.getD c (false, [])).2) (lostOf ps (b.p + b.m) ++ mapK (keptOf ps (b.p + b.m)) p) = pd := by
  have htk : gs.take gs.length = gs := List.take_length
  have hst := h.2
  rw [htk] at hst
  have hlm : ∀ x, x < b.p + b.m → (ps.getD x (false, [])).1 = true → x ∈ gs := fun x hx h1 => by
    by_cases hm : x ∈ gs
    · exact hm
    · rw [(hst x hx).1 hm] at h1; cases h1
  have hparts := filter_parts (fun c => (ps.getD c (false, [])).1) (fun c => decide (c ∈ gs)) (List.range (b.p + b.m)) (fun x hx h1 => decide_eq_true (hlm x (List.mem_range.1 hx) h1))
  have hgs : ((List.range (b.p + b.m)).filter fun c => decide (c ∈ gs)) = gs := by
    conv => rhs; rw [hq]
    refine List.filter_congr fun c hc => ?_
    rw [hq]
    by_cases hqc : q c = true
    · rw [hqc]; exact decide_eq_true (List.mem_filter.2 ⟨hc, hqc⟩)
    · have : q c = false := by simpa using hqc
      rw [this]; exact decide_eq_false (fun h => hqc (List.mem_filter.1 h).2)
  rw [hgs] at hparts
  have hparts' : (lostOf ps (b.p + b.m)).length + ((keptOf ps (b.p + b.m)).filter fun c => decide (c ∈ gs)).length = gs.length := hparts
  obtain ⟨p, hp⟩ : ∃ p, placesIn (keptOf ps (b.p + b.m)) (fun c => decide (c ∈ gs)) = p := ⟨_, rfl⟩
  have hpk := placesIn_pick (keptOf ps (b.p + b.m)) (fun c => decide (c ∈ gs))
  have hpm := placesIn_map (keptOf ps (b.p + b.m)) (fun c => decide (c ∈ gs))
  rw [hp] at hpk hpm
  have hpl : p.length = ((keptOf ps (b.p + b.m)).filter fun c => decide (c ∈ gs)).length := by rw [← hpm]; unfold mapK; rw [List.length_map]
  have hll : (lostOf ps (b.p + b.m)).length ≤ b.p := by omega
  refine ⟨hll, p.length, p, ?_, picks_all hpk, ?_⟩
  · have := List.length_filter_le (fun c => decide (c ∈ gs)) (keptOf ps (b.p + b.m))
    omega
  · refine b.data_good hl hb (try_fit hpk rfl (by omega) hle) (fun c hc hng => ?_)
    have h1 : c ∉ gs := fun hm => hng (by
      rw [hpm]
      by_cases hlo : (ps.getD c (false, [])).1 = true
      · exact List.mem_append_left _ (lostOf_mem.2 ⟨hc, hlo⟩)
      · exact List.mem_append_right _ (List.mem_filter.2 ⟨keptOf_mem.2 ⟨hc, by simpa using hlo⟩, decide_eq_true hm⟩))
    show (ps.getD c (false, [])).2 = _
    rw [(hst c hc).1 h1]
theorem Blk.data_len {b : Blk} {f : Nat → List Int} {gone : List Nat} (h : b.Fit f gone) : (b.data f gone).length = b.bytes := by
  refine flat_len b (fun k => ((b.back f gone).getD k []).take (b.sz (b.p + k))) b.m (fun k hk => ?_)
  rw [List.length_take, back_len h hk]
  have := b.sz_le (c := b.p + k) (by omega)
  omega
theorem Found.fitB {b : Blk} {f : Nat → List Int} {ps : List (Bool × List Int)} {fit : List Nat → Prop} {g : List Nat} (h : Found (keptOf ps (b.p + b.m)) (min (b.p - (lostOf ps (b.p + b.m)).length) (keptOf ps (b.p + b.m)).length) fit g) (hl : (lostOf ps (b.p + b.m)).length ≤ b.p)
    (hf : ∀ c, c < b.p + b.m → (f c).length ≤ b.long) : b.Fit f (lostOf ps (b.p + b.m) ++ g) := by
  obtain ⟨k, j, p, hk, hp, rfl, _, _, _⟩ := h
  have h8 := b.h2.2
  have hkl := keptOf_len ps (b.p + b.m)
  obtain ⟨h1, h2, _⟩ := picks_at (n := (keptOf ps (b.p + b.m)).length) (k := k) (by omega) (by omega) hp
  exact try_fit h1 h2 (by omega) hf
end Go.Proofs.Ytkjaddiagembaaa
