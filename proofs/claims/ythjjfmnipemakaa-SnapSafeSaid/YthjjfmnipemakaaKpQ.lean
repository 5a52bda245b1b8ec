/- Package snap: where all is killed and dropped, all is gone. -/
import Derived.Test.YthjjfmnipemakaaKpP
namespace Go.Proofs.Ythjjfmnipemakaa
set_option linter.unusedVariables false

/-- How often a block was given back. -/
def Kp.backs (s : Kp) (ms : List (Int × Nat)) : List Int := (s.outs ms).flatMap (·.2)
theorem backs_snoc (s : Kp) (ms : List (Int × Nat)) (m : Int × Nat) : s.backs (ms ++ [m]) = s.backs ms ++ ((s.fin ms).step m).2.2 := by
  unfold Kp.backs; rw [outs_snoc, List.flatMap_append]; simp
/-- Each block that is killed is given back or in a list; no other is. -/
theorem conserve {ms : List (Int × Nat)} (hm : ∀ m ∈ ms, MoveOk m) : ∀ n, n ≤ ms.length → ∀ b : Int,
    (kp0.backs (ms.take n)).count b + (kp0.fin (ms.take n)).dead.count b = if 0 ≤ b ∧ b < (kp0.fin (ms.take n)).blocks.length ∧ (kp0.fin (ms.take n)).lives b.toNat = false then 1 else 0
  | 0, _, b => by
    have e : kp0.fin (ms.take 0) = kp0 := rfl
    rw [e, if_neg (by show ¬ (0 ≤ b ∧ b < (0 : Nat) ∧ _); omega)]
    simp [Kp.backs, Kp.outs, Kp.dead, kp0]
  | n + 1, h, b => by
    have ih := conserve hm n (by omega) b
    have hinv := Kp.Inv.take hm n (by omega)
    have hx := List.getElem?_eq_getElem (show n < ms.length by omega)
    have hmo := hm _ (List.getElem_mem (show n < ms.length by omega))
    have ht : ms.take (n + 1) = ms.take n ++ [ms[n]] := List.take_succ_eq_append_getElem (by omega)
    rw [ht, backs_snoc, fin_snoc, List.count_append]
    obtain ⟨s, hs⟩ : ∃ s, kp0.fin (ms.take n) = s := ⟨_, rfl⟩
    rw [hs] at ih hinv ⊢
    obtain ⟨m, hmm⟩ : ∃ m, ms[n] = m := ⟨_, rfl⟩
    rw [hmm] at hmo ⊢
    rcases step_cases s m hmo with ⟨_, h1, h2⟩ | ⟨_, _, hg⟩
    · rw [h1, h2, List.count_nil, Nat.add_zero]; exact ih
    · have hbb : ∀ x ∈ ({ s with now := s.now + 1 } : Kp).blocks, 0 ≤ x.1 := fun x hx => (hinv.bb x hx).1
      have h1 := hg.cnt hbb b
      have h2 := hg.length
      have h3 := hg.lives b.toNat
      have e1 : ({ s with now := s.now + 1 } : Kp).dead.count b = s.dead.count b := rfl
      have e2 : ({ s with now := s.now + 1 } : Kp).blocks.length = s.blocks.length := rfl
      have e3 : ({ s with now := s.now + 1 } : Kp).lives b.toNat = s.lives b.toNat := rfl
      rw [e1] at h1
      rw [e2] at h2 h3
      rw [e3] at h3
      have hkill : m.1 = 2 → (m.2 : Int) < s.blocks.length ∧ s.lives m.2 = true := by
        intro h2'
        cases hg with
        | kill hk hw hl => exact ⟨by have hw' : m.2 < s.blocks.length := hw; omega, hl⟩
        | birth hk => omega
        | shot hk => omega
        | drop hk => omega
      by_cases hk : m.1 = 2 ∧ b = m.2
      · obtain ⟨hk2, rfl⟩ := hk
        obtain ⟨q1, q2⟩ := hkill hk2
        rw [if_pos ⟨hk2, rfl⟩] at h1
        rw [Int.toNat_natCast] at h3 ih ⊢
        rw [if_neg (by omega), if_pos ⟨hk2, rfl⟩] at h3
        rw [q2] at ih
        simp only [Bool.true_eq_false, and_false, if_false] at ih
        rw [if_pos ⟨by omega, by omega, h3⟩]
        omega
      · rw [if_neg hk] at h1
        by_cases hn : m.1 = 1 ∧ b.toNat = s.blocks.length
        · rw [if_pos hn] at h3
          rw [h3]
          simp only [Bool.true_eq_false, and_false, if_false]
          rw [if_neg (by omega)] at ih
          omega
        · rw [if_neg hn] at h3
          by_cases hb0 : 0 ≤ b
          · have hk' : ¬ (m.1 = 2 ∧ b.toNat = m.2) := fun ⟨a1, a2⟩ => hk ⟨a1, by omega⟩
            rw [if_neg hk'] at h3
            rw [h3]
            by_cases hl : b < s.blocks.length
            · by_cases hv : s.lives b.toNat = false
              · rw [if_pos ⟨hb0, hl, hv⟩] at ih
                rw [if_pos ⟨hb0, by rw [h2]; omega, hv⟩]; omega
              · rw [if_neg (fun h => hv h.2.2)] at ih
                rw [if_neg (fun h => hv h.2.2)]; omega
            · rw [if_neg (by omega)] at ih
              have : ¬ b < (s.step m).1.blocks.length := by
                rw [h2]
                split
                · rename_i h1'; intro hlt; exact hn ⟨h1', by omega⟩
                · omega
              rw [if_neg (by omega)]; omega
          · rw [if_neg (by omega)] at ih
            rw [if_neg (by omega)]; omega

/-- The numbers of the snapshots. -/
structure Kp.Nums (s : Kp) : Prop where
  inc : (s.shots.map (·.num)).Pairwise (· < ·)
  lt : ∀ x ∈ s.shots, 0 ≤ x.num ∧ x.num < s.kept
theorem Kp.Nums.start : kp0.Nums := ⟨List.Pairwise.nil, fun x hx => by simp [kp0] at hx⟩
theorem mix_nums (s : Kp) (i : Nat) (l : List Int) (h : i < s.shots.length) : (s.mix i l).map (·.num) = s.shots.map (·.num) ∧ (s.mix i l).map (·.made) = s.shots.map (·.made) := by
  unfold Kp.mix Kp.dealt
  split
  · have hx : s.shots.getD (i - 1) shot0 = s.shots[i - 1] := by simp [List.getD, show i - 1 < s.shots.length by omega]
    constructor
    · rw [List.map_set]; show List.set _ _ (s.shots.getD (i - 1) shot0).num = _; rw [hx, ← List.getElem_map (f := fun x : Shot => x.num) (h := by simpa using (show i - 1 < s.shots.length by omega)), List.set_getElem_self]
    · rw [List.map_set]; show List.set _ _ (s.shots.getD (i - 1) shot0).made = _; rw [hx, ← List.getElem_map (f := fun x : Shot => x.made) (h := by simpa using (show i - 1 < s.shots.length by omega)), List.set_getElem_self]
  · exact ⟨rfl, rfl⟩
theorem map_eraseIdxP {α β : Type} (f : α → β) : ∀ (l : List α) (i : Nat), (l.eraseIdx i).map f = (l.map f).eraseIdx i
  | [], i => by simp
  | x :: l, 0 => by simp
  | x :: l, i + 1 => by simp [map_eraseIdxP f l i]
/-- What a move that goes makes of the numbers and of the times. -/
theorem Goes.nums {s s' : Kp} {k : Int} {w : Nat} {g : List Int} (h : Goes s k w s' g) :
    (s'.shots.map (·.num) = s.shots.map (·.num) ∧ s'.shots.map (·.made) = s.shots.map (·.made) ∧ s'.kept = s.kept ∧ k ≠ 3 ∧ k ≠ 4) ∨
    (k = 3 ∧ s'.shots.map (·.num) = s.shots.map (·.num) ++ [s.kept] ∧ s'.shots.map (·.made) = s.shots.map (·.made) ++ [s.now] ∧ s'.kept = s.kept + 1) ∨
    (k = 4 ∧ s'.kept = s.kept ∧ ∃ i, (s.shots.map (·.num))[i]? = some (w : Int) ∧ s'.shots.map (·.num) = (s.shots.map (·.num)).eraseIdx i ∧ s'.shots.map (·.made) = (s.shots.map (·.made)).eraseIdx i) := by
  cases h with
  | birth hk hb hs hp hg => exact .inl ⟨by rw [hs], by rw [hs], hp, by omega, by omega⟩
  | shot hk hb hs hp hg => exact .inr (.inl ⟨hk, by rw [hs, List.map_append]; rfl, by rw [hs, List.map_append]; rfl, hp⟩)
  | kill hk hw hl hb hp hs =>
    rcases hs with ⟨_, hs, _⟩ | ⟨_, x, hx, _, hs⟩
    · exact .inl ⟨by rw [hs], by rw [hs], hp, by omega, by omega⟩
    · have hx' := List.getElem?_eq_some_iff.1 (getLast_at _ hx)
      refine .inl ⟨?_, ?_, hp, by omega, by omega⟩
      · rw [hs, List.map_set]; show List.set _ _ x.num = _; rw [← hx'.2, ← List.getElem_map (f := fun x : Shot => x.num) (h := by simpa using hx'.1), List.set_getElem_self]
      · rw [hs, List.map_set]; show List.set _ _ x.made = _; rw [← hx'.2, ← List.getElem_map (f := fun x : Shot => x.made) (h := by simpa using hx'.1), List.set_getElem_self]
  | drop hk hb hp i x hx hn hs hg =>
    have hi := (List.getElem?_eq_some_iff.1 hx).1
    have hmn := mix_nums s i x.dead hi
    exact .inr (.inr ⟨hk, hp, i, by rw [List.getElem?_map, hx, ← hn]; rfl, by rw [hs, map_eraseIdxP, hmn.1], by rw [hs, map_eraseIdxP, hmn.2]⟩)
theorem Kp.Nums.step {s : Kp} (h : s.Nums) (m : Int × Nat) (hm : MoveOk m) (hk : 0 ≤ s.kept) : (s.step m).1.Nums := by
  have hlt : ∀ y ∈ s.shots.map (·.num), 0 ≤ y ∧ y < s.kept := fun y hy => by
    obtain ⟨x, hx, rfl⟩ := List.mem_map.1 hy
    exact h.lt x hx
  rcases step_cases s m hm with ⟨_, h1, _⟩ | ⟨_, _, hg⟩
  · rw [h1]; exact ⟨h.inc, h.lt⟩
  · rcases hg.nums with ⟨h1, _, h3, _⟩ | ⟨_, h1, _, h3⟩ | ⟨_, h3, i, hi, h1, _⟩
    · refine ⟨by rw [h1]; exact h.inc, fun x hx => ?_⟩
      have : x.num ∈ (s.step m).1.shots.map (·.num) := List.mem_map.2 ⟨x, hx, rfl⟩
      rw [h1] at this
      rw [h3]; exact hlt _ this
    · have e : ({ s with now := s.now + 1 } : Kp).kept = s.kept := rfl
      rw [e] at h1 h3
      refine ⟨by rw [h1]; exact List.pairwise_append.2 ⟨h.inc, List.pairwise_singleton _ _, fun a ha b hb => by obtain rfl := List.mem_singleton.1 hb; exact (hlt a ha).2⟩, fun x hx => ?_⟩
      have : x.num ∈ (s.step m).1.shots.map (·.num) := List.mem_map.2 ⟨x, hx, rfl⟩
      rw [h1] at this
      rw [h3]
      rcases List.mem_append.1 this with h' | h'
      · have := hlt _ h'; omega
      · have := List.mem_singleton.1 h'; omega
    · have e : ({ s with now := s.now + 1 } : Kp).kept = s.kept := rfl
      rw [e] at h3
      refine ⟨by rw [h1]; exact h.inc.sublist (List.eraseIdx_sublist _ _), fun x hx => ?_⟩
      have : x.num ∈ (s.step m).1.shots.map (·.num) := List.mem_map.2 ⟨x, hx, rfl⟩
      rw [h1] at this
      rw [h3]; exact hlt _ ((List.eraseIdx_sublist _ _).mem this)
theorem Kp.Nums.take {ms : List (Int × Nat)} (hm : ∀ m ∈ ms, MoveOk m) : ∀ n, n ≤ ms.length → (kp0.fin (ms.take n)).Nums
  | 0, _ => Kp.Nums.start
  | n + 1, h => by
    have hx := List.getElem?_eq_getElem (show n < ms.length by omega)
    rw [fin_take_succ kp0 ms n _ hx]
    exact (Kp.Nums.take hm n (by omega)).step _ (hm _ (List.getElem_mem _)) (Kp.Inv.take hm n (by omega)).kept.1

/-! SnapAll -/
def tailN (n : Nat) : List (Int × Nat) := (List.range n).flatMap fun b => [((2 : Int), b), (4, b)]
theorem tailN_succ (n : Nat) : tailN (n + 1) = tailN n ++ [(2, n), (4, n)] := by unfold tailN; rw [List.range_succ, List.flatMap_append]; simp
theorem tailN_length (n : Nat) : (tailN n).length = 2 * n := by
  induction n with
  | zero => rfl
  | succ n ih => rw [tailN_succ, List.length_append, ih]; simp; omega
theorem tailN_mem {n : Nat} {m : Int × Nat} (h : m ∈ tailN n) : (m.1 = 2 ∨ m.1 = 4) ∧ m.2 < n := by
  unfold tailN at h
  obtain ⟨b, hb, hm⟩ := List.mem_flatMap.1 h
  have := List.mem_range.1 hb
  rcases List.mem_cons.1 hm with rfl | hm
  · exact ⟨.inl rfl, this⟩
  · obtain rfl := List.mem_singleton.1 hm; exact ⟨.inr rfl, this⟩
theorem kill_refused (s : Kp) (w : Nat) (h : (s.step (2, w)).2.1 ≠ 0) : s.lives w = false := by
  cases hl : s.lives w with
  | false => rfl
  | true =>
    exfalso; apply h
    unfold Kp.step Kp.move Kp.kill
    rw [if_neg (by simp), if_pos rfl, if_neg (by show ¬ s.lives w = false; rw [hl]; simp)]
    split
    · rfl
    · split <;> rfl
theorem drop_refused (s : Kp) (w : Nat) (h : (s.step (4, w)).2.1 ≠ 0) : ∀ x ∈ s.shots, x.num ≠ (w : Int) := by
  intro x hx hn
  apply h
  unfold Kp.step Kp.move Kp.drop
  rw [if_neg (by simp), if_neg (by simp), if_neg (by simp)]
  have : ¬ s.shots.length ≤ s.at_ (w : Int) := by
    unfold Kp.at_
    rw [Nat.not_le, List.findIdx_lt_length]
    exact ⟨x, hx, by simpa using hn⟩
  show (if s.shots.length ≤ s.at_ (w : Int) then _ else _ : Kp × Int × List Int).2.1 = 0
  rw [if_neg this]
structure TailDone (s : Kp) (j L : Nat) (K : Int) : Prop where
  nums : s.Nums
  kept : 0 ≤ s.kept ∧ s.kept = K
  len : s.blocks.length = L
  dead : ∀ b, b < j → s.lives b = false
  gone : ∀ x ∈ s.shots, (j : Int) ≤ x.num
theorem erase_ne {l : List Int} (h : l.Pairwise (· < ·)) {i : Nat} {v : Int} (hi : l[i]? = some v) {y : Int} (hy : y ∈ l.eraseIdx i) : y ≠ v := by
  obtain ⟨k, hk, hky⟩ := List.mem_eraseIdx_iff_getElem?.1 hy
  have h1 := List.getElem?_eq_some_iff.1 hi
  have h2 := List.getElem?_eq_some_iff.1 hky
  have := List.pairwise_iff_getElem.1 h
  rcases Nat.lt_or_gt_of_ne hk with h3 | h3
  · have := this k i h2.1 h1.1 h3; rw [h1.2, h2.2] at this; omega
  · have := this i k h1.1 h2.1 h3; rw [h1.2, h2.2] at this; omega
theorem TailDone.step {s : Kp} {j L : Nat} {K : Int} (h : TailDone s j L K) (hj : j ≤ 1000) : TailDone ((s.step (2, j)).1.step (4, j)).1 (j + 1) L K := by
  have m1 : MoveOk ((2 : Int), j) := ⟨by show (1 : Int) ≤ 2; decide, by show (2 : Int) ≤ 4; decide, hj⟩
  have m2 : MoveOk ((4 : Int), j) := ⟨by show (1 : Int) ≤ 4; decide, by show (4 : Int) ≤ 4; decide, hj⟩
  have n1 := h.nums.step _ m1 h.kept.1
  have a : (s.step (2, j)).1.kept = s.kept ∧ (s.step (2, j)).1.blocks.length = L ∧ (∀ b, b < j + 1 → (s.step (2, j)).1.lives b = false) ∧ (s.step (2, j)).1.shots.map (·.num) = s.shots.map (·.num) := by
    rcases step_cases s (2, j) m1 with ⟨h0, h1, _⟩ | ⟨_, _, hg⟩
    · have := kill_refused s j h0
      rw [h1]
      refine ⟨rfl, h.len, fun b hb => ?_, rfl⟩
      rcases Nat.lt_or_ge b j with h2 | h2
      · exact h.dead b h2
      · obtain rfl : b = j := by omega
        exact this
    · rcases hg.nums with ⟨h1, _, h3, _⟩ | ⟨h1, _⟩ | ⟨h1, _⟩
      · refine ⟨h3, by rw [hg.length]; exact h.len, fun b hb => ?_, h1⟩
        rw [hg.lives, if_neg (by simp)]
        by_cases hb2 : b = j
        · rw [if_pos ⟨rfl, hb2⟩]
        · rw [if_neg (fun e => hb2 e.2)]; exact h.dead b (by omega)
      · simp at h1
      · simp at h1
  obtain ⟨t, ht⟩ : ∃ t, (s.step (2, j)).1 = t := ⟨_, rfl⟩
  rw [ht] at a n1 ⊢
  obtain ⟨a1, a2, a3, a4⟩ := a
  have hk0 : 0 ≤ t.kept := by rw [a1]; exact h.kept.1
  have n2 := n1.step _ m2 hk0
  have g0 : ∀ y ∈ t.shots.map (·.num), (j : Int) ≤ y := by
    rw [a4]; intro y hy
    obtain ⟨x, hx, rfl⟩ := List.mem_map.1 hy
    exact h.gone x hx
  rcases step_cases t (4, j) m2 with ⟨h0, h1, _⟩ | ⟨_, _, hg⟩
  · have hr := drop_refused t j h0
    rw [h1] at n2 ⊢
    refine ⟨n2, ⟨hk0, by show t.kept = K; rw [a1]; exact h.kept.2⟩, a2, a3, fun x hx => ?_⟩
    have := g0 _ (List.mem_map.2 ⟨x, hx, rfl⟩)
    have := hr x hx
    omega
  · rcases hg.nums with ⟨_, _, _, _, h5⟩ | ⟨h1, _⟩ | ⟨_, h3, i, hi, h4, _⟩
    · simp at h5
    · simp at h1
    · have e : ({ t with now := t.now + 1 } : Kp).kept = t.kept := rfl
      rw [e] at h3
      refine ⟨n2, ⟨by rw [h3]; exact hk0, by rw [h3, a1]; exact h.kept.2⟩, by rw [hg.length]; exact a2, fun b hb => ?_, fun x hx => ?_⟩
      · rw [hg.lives, if_neg (by simp), if_neg (by simp)]; exact a3 b hb
      · have hm : x.num ∈ (t.step (4, j)).1.shots.map (·.num) := List.mem_map.2 ⟨x, hx, rfl⟩
        rw [h4] at hm
        have h6 := erase_ne n1.inc hi hm
        have h7 := g0 _ ((List.eraseIdx_sublist _ _).mem hm)
        omega
theorem fin_append (s : Kp) (a b : List (Int × Nat)) : s.fin (a ++ b) = (s.fin a).fin b := by simp [Kp.fin, List.foldl_append]
theorem tail_done {hd : List (Int × Nat)} (hm : ∀ m ∈ hd, MoveOk m) : ∀ j, j ≤ 1000 → TailDone (kp0.fin (hd ++ tailN j)) j (kp0.fin hd).blocks.length (kp0.fin hd).kept
  | 0, _ => by
    have h1 := Kp.Nums.take hm hd.length (Nat.le_refl _)
    have h2 := Kp.Inv.take hm hd.length (Nat.le_refl _)
    rw [List.take_length] at h1 h2
    have e : hd ++ tailN 0 = hd := by simp [tailN]
    rw [e]
    exact ⟨h1, ⟨h2.kept.1, rfl⟩, rfl, fun b hb => absurd hb (by omega), fun x hx => by have := (h1.lt x hx).1; omega⟩
  | j + 1, h => by
    have ih := tail_done hm j (by omega)
    have e : kp0.fin (hd ++ tailN (j + 1)) = (((kp0.fin (hd ++ tailN j)).step (2, j)).1.step (4, j)).1 := by
      rw [tailN_succ, ← List.append_assoc, fin_append]; rfl
    rw [e]
    exact ih.step (by omega)
/-- The moves of SnapAll. -/
structure AllMoves (ms : List (Int × Nat)) : Prop where
  ok : ∀ m ∈ ms, MoveOk m
  few : ∀ n, n ≤ ms.length → (kp0.fin (ms.take n)).blocks.length ≤ 60
  last : ∀ b : Nat, b < 60 → (kp0.backs ms).count (b : Int) = if b < (kp0.fin ms).blocks.length then 1 else 0
theorem allMoves {hd : List (Int × Nat)} (hm : ∀ m ∈ hd, MoveOk m) (hl : hd.length ≤ 60) : AllMoves (hd ++ tailN 60) := by
  have hok : ∀ m ∈ hd ++ tailN 60, MoveOk m := fun m h => by
    rcases List.mem_append.1 h with h | h
    · exact hm m h
    · have := tailN_mem h
      exact ⟨by omega, by omega, by omega⟩
  have hinv := Kp.Inv.take hm hd.length (Nat.le_refl _)
  rw [List.take_length] at hinv
  have htd := tail_done hm 60 (by omega)
  refine ⟨hok, fun n hn => ?_, fun b hb => ?_⟩
  · by_cases h : n ≤ hd.length
    · rw [List.take_append_of_le_length h]
      have := (Kp.Inv.take hm n h).bl
      omega
    · -- no births behind the head
      have : ∀ k, k ≤ (tailN 60).length → (kp0.fin (hd ++ (tailN 60).take k)).blocks.length = (kp0.fin hd).blocks.length := by
        intro k
        induction k with
        | zero => intro _; simp
        | succ k ih =>
          intro hk
          have hx := List.getElem?_eq_getElem (show k < (tailN 60).length by omega)
          have h1 := List.getElem?_eq_some_iff.1 hx
          have ht := tailN_mem (List.getElem_mem h1.1)
          rw [List.take_succ_eq_append_getElem h1.1, ← List.append_assoc, fin_snoc]
          have ih' := ih (by omega)
          rcases step_cases (kp0.fin (hd ++ (tailN 60).take k)) (tailN 60)[k] ⟨by omega, by omega, by omega⟩ with ⟨_, h1, _⟩ | ⟨_, _, hg⟩
          · rw [h1]; exact ih'
          · rw [hg.length, if_neg (by omega)]; exact ih'
      rw [List.take_append, List.take_of_length_le (by omega), this (n - hd.length) (by rw [List.length_append] at hn; omega)]
      have := hinv.bl
      omega
  · have hc := conserve hok _ (Nat.le_refl _) (b : Int)
    rw [List.take_length] at hc
    have hsh : (kp0.fin (hd ++ tailN 60)).shots = [] := by
      apply List.eq_nil_iff_forall_not_mem.2
      intro x hx
      have h1 := htd.gone x hx
      have h2 := (htd.nums.lt x hx).2
      have h3 := htd.kept.2
      have h4 := hinv.kept.2
      omega
    have hd0 : (kp0.fin (hd ++ tailN 60)).dead = [] := by unfold Kp.dead; rw [hsh]; rfl
    rw [hd0, List.count_nil, Nat.add_zero, Int.toNat_natCast, htd.dead b hb] at hc
    rw [hc]
    by_cases h : b < (kp0.fin (hd ++ tailN 60)).blocks.length
    · rw [if_pos h, if_pos ⟨by omega, by omega, rfl⟩]
    · rw [if_neg h, if_neg (by omega)]
theorem AllMoves.within {ms : List (Int × Nat)} (h : AllMoves ms) (i : Nat) (m : Int × Nat) (hm : ms[i]? = some m) : ∀ b ∈ ((kp0.fin (ms.take i)).step m).2.2, 0 ≤ b ∧ b < 60 := by
  intro b hb
  have h1 := List.getElem?_eq_some_iff.1 hm
  have hlt := h1.1
  have hc := conserve h.ok (i + 1) (by omega) b
  have ht : ms.take (i + 1) = ms.take i ++ [m] := by rw [List.take_succ_eq_append_getElem h1.1, h1.2]
  have h2 : 0 < (kp0.backs (ms.take (i + 1))).count b := by
    rw [ht, backs_snoc, List.count_append]
    have := List.count_pos_iff.2 hb
    omega
  have h3 := h.few (i + 1) (by omega)
  split at hc
  · rename_i h4; exact ⟨h4.1, by omega⟩
  · omega
theorem AllMoves.once {ms : List (Int × Nat)} (h : AllMoves ms) (n : Nat) (hn : n ≤ ms.length) (b : Int) : (kp0.backs (ms.take n)).count b ≤ 1 := by
  have hc := conserve h.ok n hn b
  split at hc <;> omega
theorem AllMoves.births {ms : List (Int × Nat)} (h : AllMoves ms) (i : Nat) (m : Int × Nat) (hm : ms[i]? = some m) :
    (kp0.fin (ms.take (i + 1))).blocks.length = (kp0.fin (ms.take i)).blocks.length + (if m.1 = 1 ∧ ((kp0.fin (ms.take i)).step m).2.1 = 0 then 1 else 0) := by
  rw [fin_take_succ kp0 ms i m hm]
  rcases step_cases (kp0.fin (ms.take i)) m (h.ok m (List.mem_of_getElem? hm)) with ⟨h0, h1, _⟩ | ⟨h0, _, hg⟩
  · rw [h1, if_neg (fun e => h0 e.2)]; rfl
  · rw [hg.length]
    by_cases hk : m.1 = 1
    · rw [if_pos hk, if_pos ⟨hk, h0⟩]
    · rw [if_neg hk, if_neg (fun e => hk e.1)]
end Go.Proofs.Ythjjfmnipemakaa
