/- Package snap: what stays true from move to move. -/
import Derived.Test.YthjjfmnipemakaaKpA
namespace Go.Proofs.Ythjjfmnipemakaa
set_option linter.unusedVariables false

def Kp.step (s : Kp) (m : Int × Nat) : Kp × Int × List Int := ({ s with now := s.now + 1 } : Kp).move m.1 m.2
def Kp.fin (s : Kp) (ms : List (Int × Nat)) : Kp := ms.foldl (fun s m => (s.step m).1) s
def Kp.outs : Kp → List (Int × Nat) → List (Int × List Int)
  | _, [] => []
  | s, m :: ms => (s.step m).2 :: Kp.outs (s.step m).1 ms
def kp0 : Kp := ⟨0, [], [], 0⟩
def MoveOk (m : Int × Nat) : Prop := 1 ≤ m.1 ∧ m.1 ≤ 4 ∧ m.2 ≤ 1000
theorem fin_snoc (s : Kp) (ms : List (Int × Nat)) (m : Int × Nat) : s.fin (ms ++ [m]) = ((s.fin ms).step m).1 := by simp [Kp.fin, List.foldl_append]
theorem outs_snoc : ∀ (ms : List (Int × Nat)) (s : Kp) (m : Int × Nat), s.outs (ms ++ [m]) = s.outs ms ++ [((s.fin ms).step m).2]
  | [], s, m => rfl
  | x :: ms, s, m => by
    show _ :: Kp.outs _ (ms ++ [m]) = _
    rw [outs_snoc ms]; rfl
theorem outs_length : ∀ (ms : List (Int × Nat)) (s : Kp), (s.outs ms).length = ms.length
  | [], s => rfl
  | x :: ms, s => by show Nat.succ _ = _; rw [outs_length ms]; rfl
theorem outs_get (ms : List (Int × Nat)) (s : Kp) (i : Nat) (m : Int × Nat) (hm : ms[i]? = some m) : (s.outs ms)[i]? = some ((s.fin (ms.take i)).step m).2 := by
  induction ms generalizing s i with
  | nil => simp at hm
  | cons x ms ih =>
    cases i with
    | zero => obtain rfl : x = m := by simpa using hm
              rfl
    | succ i => exact ih (s.step x).1 i (by simpa using hm)
theorem fin_take_succ (s : Kp) (ms : List (Int × Nat)) (i : Nat) (m : Int × Nat) (hm : ms[i]? = some m) : s.fin (ms.take (i + 1)) = ((s.fin (ms.take i)).step m).1 := by
  have h := List.getElem?_eq_some_iff.1 hm
  rw [List.take_succ_eq_append_getElem h.1, h.2, fin_snoc]

/-! Counts. -/
theorem cnt_set {α : Type} (f : α → List Int) (b : Int) : ∀ (l : List α) (i : Nat) (x y : α), l[i]? = some x → ((l.set i y).flatMap f).count b + (f x).count b = (l.flatMap f).count b + (f y).count b
  | [], i, x, y, h => by simp at h
  | z :: l, 0, x, y, h => by
    obtain rfl : z = x := by simpa using h
    simp only [List.set_cons_zero, List.flatMap_cons, List.count_append]; omega
  | z :: l, i + 1, x, y, h => by
    have := cnt_set f b l i x y (by simpa using h)
    simp only [List.set_cons_succ, List.flatMap_cons, List.count_append]; omega
theorem cnt_erase {α : Type} (f : α → List Int) (b : Int) : ∀ (l : List α) (i : Nat) (x : α), l[i]? = some x → ((l.eraseIdx i).flatMap f).count b + (f x).count b = (l.flatMap f).count b
  | [], i, x, h => by simp at h
  | z :: l, 0, x, h => by
    obtain rfl : z = x := by simpa using h
    simp only [List.eraseIdx_cons_zero, List.flatMap_cons, List.count_append]; omega
  | z :: l, i + 1, x, h => by
    have := cnt_erase f b l i x (by simpa using h)
    simp only [List.eraseIdx_cons_succ, List.flatMap_cons, List.count_append]; omega
theorem cnt_filter (p : Int → Bool) (b : Int) : ∀ l : List Int, (l.filter p).count b + (l.filter (fun x => !p x)).count b = l.count b
  | [] => rfl
  | x :: l => by
    have := cnt_filter p b l
    cases hp : p x <;> simp [hp, List.count_cons] <;> omega
theorem cnt_sort (l : List Int) (b : Int) : (sortI l).count b = l.count b := by unfold sortI; exact (List.mergeSort_perm l _).count_eq b
theorem cnt_len : ∀ (m : Nat) (l : List Int), (∀ b ∈ l, 0 ≤ b ∧ b < m) → (∀ b, l.count b ≤ 1) → l.length ≤ m
  | 0, l, h, _ => by
    cases l with
    | nil => simp
    | cons x l => have := h x (List.mem_cons_self ..); omega
  | m + 1, l, h, hc => by
    have h1 := cnt_len m (l.erase (m : Int)) (fun b hb => by
      have hb' := List.mem_of_mem_erase hb
      have h2 := h b hb'
      refine ⟨h2.1, ?_⟩
      rcases Int.lt_or_le b m with h3 | h3
      · exact h3
      · obtain rfl : b = m := by omega
        have h4 : 0 < (l.erase (m : Int)).count (m : Int) := List.count_pos_iff.2 hb
        rw [List.count_erase_self] at h4
        have := hc m
        omega) (fun b => by rw [List.count_erase]; have := hc b; omega)
    have h2 := List.length_erase (a := (m : Int)) (l := l)
    split at h2 <;> omega

def Kp.dead (s : Kp) : List Int := s.shots.flatMap (·.dead)
/-- What stays true: behind n moves. -/
structure Kp.Inv (s : Kp) (n : Nat) : Prop where
  now : s.now = n
  kept : 0 ≤ s.kept ∧ s.kept ≤ n
  bl : s.blocks.length ≤ n
  sl : s.shots.length ≤ 9
  nd : ∀ b, s.dead.count b ≤ 1
  dv : ∀ b ∈ s.dead, 0 ≤ b ∧ b < s.blocks.length ∧ s.lives b.toNat = false
  bb : ∀ x ∈ s.blocks, 0 ≤ x.1 ∧ x.1 ≤ n
theorem Kp.Inv.start : kp0.Inv 0 := ⟨rfl, ⟨by decide, by decide⟩, by decide, by decide, fun b => by simp [Kp.dead, kp0], fun b hb => by simp [Kp.dead, kp0] at hb, fun x hx => by simp [kp0] at hx⟩
theorem Kp.Inv.lim {s : Kp} {n : Nat} (h : s.Inv n) (hn : n ≤ 198) : ({ s with now := s.now + 1 } : Kp).Lim := by
  have h1 := h.now
  have h2 := h.kept
  have h3 := h.bl
  have h4 := h.sl
  have hm : ∀ x ∈ s.shots, ∀ b ∈ x.dead, b ∈ s.dead := fun x hx b hb => List.mem_flatMap.2 ⟨x, hx, hb⟩
  refine ⟨⟨by show 0 ≤ s.now + 1; omega, by show s.now + 1 ≤ 1000; omega⟩, ⟨by show 0 ≤ s.kept; omega, by show s.kept ≤ 1000; omega⟩, by show s.blocks.length < 200; omega, by show s.shots.length ≤ 1000; omega, fun x hx => ?_, fun x hx b hb => ?_, fun x hx => (h.bb x hx).1⟩
  · have hd := cnt_len s.blocks.length s.dead (fun b hb => ⟨(h.dv b hb).1, (h.dv b hb).2.1⟩) h.nd
    obtain ⟨i, hi⟩ := List.getElem?_of_mem hx
    have hl : x.dead.length ≤ s.dead.length := by
      unfold Kp.dead
      have : ∀ (l : List Shot), x ∈ l → x.dead.length ≤ (l.flatMap (·.dead)).length := by
        intro l hl
        induction l with
        | nil => cases hl
        | cons y l ih =>
          rw [List.flatMap_cons, List.length_append]
          rcases List.mem_cons.1 hl with rfl | h'
          · omega
          · have := ih h'; omega
      exact this _ hx
    omega
  · have := h.dv b (hm x hx b hb)
    exact ⟨this.1, this.2.1⟩
/-! What a move turns: the lives, the dead. -/
def Kp.mix (s : Kp) (i : Nat) (l : List Int) : List Shot := if 0 < i then s.dealt i l else s.shots
/-- A move that goes: its kinds. -/
inductive Goes (s : Kp) (k : Int) (w : Nat) (s' : Kp) (g : List Int) : Prop
  | birth (hk : k = 1) (hb : s'.blocks = s.blocks ++ [(s.now, true)]) (hs : s'.shots = s.shots) (hp : s'.kept = s.kept) (hg : g = [])
  | kill (hk : k = 2) (hw : w < s.blocks.length) (hl : s.lives w = true) (hb : s'.blocks = s.blocks.set w (s.born w, false)) (hp : s'.kept = s.kept)
      (hs : (g = [(w : Int)] ∧ s'.shots = s.shots ∧ ∀ x ∈ s.shots.getLast?, x.made < s.born w) ∨ (g = [] ∧ ∃ x, s.shots.getLast? = some x ∧ s.born w ≤ x.made ∧ s'.shots = s.shots.set (s.shots.length - 1) { x with dead := x.dead ++ [(w : Int)] }))
  | shot (hk : k = 3) (hb : s'.blocks = s.blocks) (hs : s'.shots = s.shots ++ [⟨s.kept, s.now, []⟩]) (hp : s'.kept = s.kept + 1) (hg : g = [])
  | drop (hk : k = 4) (hb : s'.blocks = s.blocks) (hp : s'.kept = s.kept) (i : Nat) (x : Shot) (hx : s.shots[i]? = some x) (hn : x.num = w) (hs : s'.shots = (s.mix i x.dead).eraseIdx i) (hg : g = sortI (s.gone i x.dead))
theorem move_cases (s : Kp) (k : Int) (w : Nat) (hk : 1 ≤ k ∧ k ≤ 4) : ((s.move k w).2.1 ≠ 0 ∧ (s.move k w).1 = s ∧ (s.move k w).2.2 = []) ∨ ((s.move k w).2.1 = 0 ∧ (s.move k w).1.now = s.now ∧ Goes s k w (s.move k w).1 (s.move k w).2.2) := by
  unfold Kp.move
  have hk4 : k = 1 ∨ k = 2 ∨ k = 3 ∨ k = 4 := by omega
  rcases hk4 with rfl | rfl | rfl | rfl
  · exact .inr ⟨rfl, rfl, .birth rfl rfl rfl rfl rfl⟩
  · rw [if_neg (by decide), if_pos rfl]
    unfold Kp.kill
    split
    · exact .inl ⟨by simp, rfl, rfl⟩
    · rename_i hl
      have hl' : s.lives w = true := by simpa using hl
      have hw : w < s.blocks.length := by
        rcases Nat.lt_or_ge w s.blocks.length with h | h
        · exact h
        · unfold Kp.lives at hl'
          rw [List.getD_eq_getElem?_getD, List.getElem?_eq_none h] at hl'
          cases hl'
      split
      · rename_i he
        exact .inr ⟨rfl, rfl, .kill rfl hw hl' rfl rfl (.inl ⟨rfl, rfl, fun x hx => by rw [he] at hx; cases hx⟩)⟩
      · rename_i he
        have hgl := List.getLast?_eq_some_getLast he
        split
        · rename_i hm
          exact .inr ⟨rfl, rfl, .kill rfl hw hl' rfl rfl (.inl ⟨rfl, rfl, fun x hx => by rw [hgl] at hx; injection hx with hx; subst hx; exact hm⟩)⟩
        · rename_i hm
          exact .inr ⟨rfl, rfl, .kill rfl hw hl' rfl rfl (.inr ⟨rfl, _, hgl, by omega, rfl⟩)⟩
  · rw [if_neg (by decide), if_neg (by decide), if_pos rfl]
    unfold Kp.shot
    split
    · exact .inl ⟨by simp, rfl, rfl⟩
    · exact .inr ⟨rfl, rfl, .shot rfl rfl rfl rfl rfl⟩
  · rw [if_neg (by decide), if_neg (by decide), if_neg (by decide)]
    unfold Kp.drop
    simp only
    split
    · exact .inl ⟨by simp, rfl, rfl⟩
    · rename_i hi
      have hi' : s.at_ (w : Int) < s.shots.length := by omega
      have hx : s.shots[s.at_ (w : Int)]? = some s.shots[s.at_ (w : Int)] := List.getElem?_eq_getElem hi'
      have hgd : s.shots.getD (s.at_ (w : Int)) shot0 = s.shots[s.at_ (w : Int)] := by simp [List.getD, hi']
      have hn := List.findIdx_getElem (p := fun x : Shot => x.num == (w : Int)) (w := hi')
      refine .inr ⟨rfl, rfl, .drop rfl rfl rfl _ _ hx (eq_of_beq hn) ?_ ?_⟩
      · simp only [hgd]; rfl
      · simp only [hgd]

theorem getLast_at {α : Type} (l : List α) {x : α} (h : l.getLast? = some x) : l[l.length - 1]? = some x := by rw [← List.getLast?_eq_getElem?]; exact h
theorem born_bb {s : Kp} (hb : ∀ x ∈ s.blocks, 0 ≤ x.1) (b : Nat) : 0 ≤ s.born b := by
  unfold Kp.born
  rw [List.getD_eq_getElem?_getD]
  cases hq : s.blocks[b]? with
  | none => decide
  | some y => exact hb y (List.mem_of_getElem? hq)
theorem Goes.cnt {s s' : Kp} {k : Int} {w : Nat} {g : List Int} (h : Goes s k w s' g) (hb : ∀ x ∈ s.blocks, 0 ≤ x.1) (b : Int) :
    s'.dead.count b + g.count b = s.dead.count b + (if k = 2 ∧ b = w then 1 else 0) := by
  cases h with
  | birth hk hb' hs hp hg => subst hk hg; unfold Kp.dead; rw [hs]; simp
  | shot hk hb' hs hp hg => subst hk hg; unfold Kp.dead; rw [hs]; simp
  | kill hk hw hl hb' hp hs =>
    subst hk
    rcases hs with ⟨rfl, hs, _⟩ | ⟨rfl, x, hx, _, hs⟩
    · unfold Kp.dead; rw [hs]
      rw [List.count_singleton]
      by_cases hbw : b = (w : Int)
      · subst hbw; simp
      · simp [hbw]; exact fun e => hbw e.symm
    · unfold Kp.dead; rw [hs]
      have := cnt_set (·.dead) b s.shots (s.shots.length - 1) x { x with dead := x.dead ++ [(w : Int)] } (getLast_at _ hx)
      simp only [List.count_append, List.count_singleton] at this
      rw [List.count_nil]
      by_cases hbw : b = (w : Int)
      · subst hbw; simp at this ⊢; omega
      · have e1 : ((w : Int) == b) = false := by simp; exact fun e => hbw e.symm
        rw [e1] at this
        simp [hbw]
        simp at this
        omega
  | drop hk hb' hp i x hx hn hs hg =>
    subst hk hg
    have e0 : ¬ ((4 : Int) = 2 ∧ b = w) := by simp
    rw [if_neg e0, cnt_sort]
    have hf := cnt_filter (s.younger i) b x.dead
    unfold Kp.dead; rw [hs]
    unfold Kp.mix
    by_cases hi : 0 < i
    · rw [if_pos hi]
      have hil := (List.getElem?_eq_some_iff.1 hx).1
      have hx1 : s.shots[i - 1]? = some (s.shots.getD (i - 1) shot0) := by simp [List.getD, show i - 1 < s.shots.length by omega]
      obtain ⟨y, hy1, hy2⟩ : ∃ y : Shot, s.dealt i x.dead = s.shots.set (i - 1) y ∧ y.dead = (s.shots.getD (i - 1) shot0).dead ++ s.rest i x.dead := ⟨_, rfl, rfl⟩
      rw [hy1]
      have h1 := cnt_set (·.dead) b s.shots (i - 1) _ y hx1
      have hx2 : (s.shots.set (i - 1) y)[i]? = some x := by
        rw [List.getElem?_set, if_neg (by omega)]; exact hx
      have h2 := cnt_erase (·.dead) b _ i x hx2
      simp only [hy2, List.count_append] at h1
      have e1 : (s.gone i x.dead).count b = (x.dead.filter (s.younger i)).count b := rfl
      have e2 : (s.rest i x.dead).count b = (x.dead.filter (fun y => !s.younger i y)).count b := rfl
      omega
    · rw [if_neg hi]
      have h2 := cnt_erase (·.dead) b s.shots i x hx
      have e3 : x.dead.filter (s.younger i) = x.dead := by
        rw [List.filter_eq_self]
        intro y hy
        unfold Kp.younger Kp.ahead
        rw [if_neg hi]
        have := born_bb hb y.toNat
        simp; omega
      have e1 : (s.gone i x.dead).count b = x.dead.count b := by unfold Kp.gone; rw [e3]
      omega
theorem lives_set {s : Kp} {w : Nat} (hw : w < s.blocks.length) (bs : List (Int × Bool)) (he : bs = s.blocks.set w (s.born w, false)) (b : Nat) : (bs.getD b (0, false)).2 = (if b = w then false else s.lives b) ∧ (bs.getD b (0, false)).1 = s.born b := by
  subst he
  unfold Kp.lives Kp.born
  simp only [List.getD_eq_getElem?_getD, List.getElem?_set]
  by_cases h : w = b
  · subst h; simp [hw]
  · rw [if_neg h, if_neg (fun e => h e.symm)]; simp
theorem Goes.length {s s' : Kp} {k : Int} {w : Nat} {g : List Int} (h : Goes s k w s' g) : s'.blocks.length = s.blocks.length + (if k = 1 then 1 else 0) := by
  cases h with
  | birth hk hb' hs hp hg => subst hk; rw [hb', List.length_append]; rfl
  | shot hk hb' hs hp hg => subst hk; rw [hb']; rfl
  | kill hk hw hl hb' hp hs => subst hk; rw [hb', List.length_set]; rfl
  | drop hk hb' hp i x hx hn hs hg => subst hk; rw [hb']; rfl
theorem Goes.lives {s s' : Kp} {k : Int} {w : Nat} {g : List Int} (h : Goes s k w s' g) (b : Nat) : s'.lives b = (if k = 1 ∧ b = s.blocks.length then true else if k = 2 ∧ b = w then false else s.lives b) := by
  cases h with
  | birth hk hb' hs hp hg =>
    subst hk
    unfold Kp.lives
    rw [hb']
    simp only [List.getD_eq_getElem?_getD]
    by_cases h : b = s.blocks.length
    · subst h; simp
    · rw [if_neg (by simp [h]), if_neg (by simp)]
      by_cases h2 : b < s.blocks.length
      · rw [List.getElem?_append_left h2]
      · rw [List.getElem?_append_right (by omega), List.getElem?_eq_none (by simp; omega), List.getElem?_eq_none (by omega)]
  | shot hk hb' hs hp hg => subst hk; unfold Kp.lives; rw [hb', if_neg (by simp), if_neg (by simp)]
  | kill hk hw hl hb' hp hs =>
    subst hk
    rw [if_neg (by simp)]
    have := (lives_set hw s'.blocks hb' b).1
    unfold Kp.lives at this ⊢
    rw [this]
    by_cases h : b = w <;> simp [h]
  | drop hk hb' hp i x hx hn hs hg => subst hk; unfold Kp.lives; rw [hb', if_neg (by simp), if_neg (by simp)]
theorem Goes.born {s s' : Kp} {k : Int} {w : Nat} {g : List Int} (h : Goes s k w s' g) (b : Nat) (hb : b < s.blocks.length) : s'.born b = s.born b := by
  cases h with
  | birth hk hb' hs hp hg => unfold Kp.born; rw [hb']; simp only [List.getD_eq_getElem?_getD]; rw [List.getElem?_append_left hb]
  | shot hk hb' hs hp hg => unfold Kp.born; rw [hb']
  | kill hk hw hl hb' hp hs => exact (lives_set hw s'.blocks hb' b).2
  | drop hk hb' hp i x hx hn hs hg => unfold Kp.born; rw [hb']
theorem mix_length (s : Kp) (i : Nat) (l : List Int) : (s.mix i l).length = s.shots.length := by unfold Kp.mix Kp.dealt; split <;> simp
theorem step_cases (s : Kp) (m : Int × Nat) (hm : MoveOk m) : ((s.step m).2.1 ≠ 0 ∧ (s.step m).1 = { s with now := s.now + 1 } ∧ (s.step m).2.2 = []) ∨ ((s.step m).2.1 = 0 ∧ (s.step m).1.now = s.now + 1 ∧ Goes { s with now := s.now + 1 } m.1 m.2 (s.step m).1 (s.step m).2.2) :=
  move_cases _ m.1 m.2 ⟨hm.1, hm.2.1⟩
theorem Kp.Inv.step {s : Kp} {n : Nat} (h : s.Inv n) (m : Int × Nat) (hm : MoveOk m) : (s.step m).1.Inv (n + 1) := by
  rcases step_cases s m hm with ⟨_, h1, _⟩ | ⟨_, hnow, hg⟩
  · rw [h1]
    exact ⟨by show s.now + 1 = _; rw [h.now]; omega, ⟨h.kept.1, by have := h.kept.2; show s.kept ≤ _; omega⟩, by have := h.bl; show s.blocks.length ≤ _; omega, h.sl, h.nd, h.dv, fun x hx => ⟨(h.bb x hx).1, by have := (h.bb x hx).2; omega⟩⟩
  · obtain ⟨s', hs'⟩ : ∃ s', (s.step m).1 = s' := ⟨_, rfl⟩
    obtain ⟨g, hgg⟩ : ∃ g, (s.step m).2.2 = g := ⟨_, rfl⟩
    rw [hs'] at hg hnow ⊢
    rw [hgg] at hg
    have hbb : ∀ x ∈ ({ s with now := s.now + 1 } : Kp).blocks, 0 ≤ x.1 := fun x hx => (h.bb x hx).1
    have hcnt := hg.cnt hbb
    have hlen := hg.length
    have hliv := hg.lives
    have hn := h.now
    have hk := h.kept
    have hb := h.bl
    have hsl := h.sl
    -- a block that dies now was in nobody's list
    have hnew : ∀ b : Int, m.1 = 2 ∧ b = m.2 → s.dead.count b = 0 := by
      rintro b ⟨h2, rfl⟩
      refine List.count_eq_zero.2 (fun hmem => ?_)
      have := (h.dv _ hmem).2.2
      cases hg with
      | birth hk' => omega
      | shot hk' => omega
      | drop hk' => omega
      | kill hk' hw hl hb' hp hs =>
        have hl' : s.lives m.2 = true := hl
        rw [Int.toNat_natCast, hl'] at this
        cases this
    refine ⟨by rw [hnow, hn]; omega, ?_, ?_, ?_, fun b => ?_, fun b hbm => ?_, ?_⟩
    · cases hg with
      | birth hk' hb' hs hp hg' => rw [hp]; exact ⟨hk.1, by have := hk.2; show s.kept ≤ _; omega⟩
      | shot hk' hb' hs hp hg' => rw [hp]; exact ⟨by show 0 ≤ s.kept + 1; omega, by show s.kept + 1 ≤ _; omega⟩
      | kill hk' hw hl hb' hp hs => rw [hp]; exact ⟨hk.1, by have := hk.2; show s.kept ≤ _; omega⟩
      | drop hk' hb' hp => rw [hp]; exact ⟨hk.1, by have := hk.2; show s.kept ≤ _; omega⟩
    · rw [hlen]; show s.blocks.length + _ ≤ _; split <;> omega
    · have hshot : m.1 = 3 → s.shots.length < 9 := by
        intro h3
        have hs9 : (s.step m).2.1 = 0 ∨ True := .inr trivial
        have hq : (s.step m).1.shots = s.shots ++ [⟨s.kept, s.now + 1, []⟩] := by
          rw [hs']
          cases hg with
          | shot hk' hb' hs hp hg' => exact hs
          | birth hk' => omega
          | kill hk' => omega
          | drop hk' => omega
        have hq2 : s.step m = ({ s with now := s.now + 1 } : Kp).shot := by unfold Kp.step Kp.move; rw [h3]; rfl
        rw [hq2] at hq
        unfold Kp.shot at hq
        split at hq
        · have : s.shots.length = s.shots.length + 1 := by have := congrArg List.length hq; simp at this
          omega
        · rename_i h9; have h9' : ¬ s.shots.length = 9 := h9; omega
      cases hg with
      | birth hk' hb' hs hp hg' => rw [hs]; exact hsl
      | shot hk' hb' hs hp hg' => rw [hs, List.length_append]; have := hshot hk'; show s.shots.length + 1 ≤ 9; omega
      | kill hk' hw hl hb' hp hs =>
        rcases hs with ⟨_, hs, _⟩ | ⟨_, x, hx, _, hs⟩
        · rw [hs]; exact hsl
        · rw [hs, List.length_set]; exact hsl
      | drop hk' hb' hp i x hx hn' hs hg' =>
        rw [hs, List.length_eraseIdx, mix_length]
        split
        · show s.shots.length - 1 ≤ 9; omega
        · exact hsl
    · have h1 := hcnt b
      have h2 := h.nd b
      have h3 : ({ s with now := s.now + 1 } : Kp).dead.count b = s.dead.count b := rfl
      by_cases hq : m.1 = 2 ∧ b = m.2
      · have := hnew b hq
        rw [if_pos hq] at h1; omega
      · rw [if_neg hq] at h1; omega
    · have h1 := hcnt b
      have h3 : ({ s with now := s.now + 1 } : Kp).dead.count b = s.dead.count b := rfl
      have h4 : 0 < s'.dead.count b := List.count_pos_iff.2 hbm
      have h6 : s.blocks.length ≤ s'.blocks.length := by rw [hlen]; show _ ≤ s.blocks.length + _; omega
      by_cases hq : m.1 = 2 ∧ b = m.2
      · obtain ⟨hq1, rfl⟩ := hq
        refine ⟨by omega, ?_, ?_⟩
        · cases hg with
          | kill hk' hw hl hb' hp hs => have hw' : m.2 < s.blocks.length := hw; omega
          | birth hk' => omega
          | shot hk' => omega
          | drop hk' => omega
        · rw [hliv, Int.toNat_natCast, if_neg (by omega), if_pos ⟨hq1, rfl⟩]
      · rw [if_neg hq] at h1
        have hm' : b ∈ s.dead := List.count_pos_iff.1 (by omega)
        obtain ⟨d1, d2, d3⟩ := h.dv b hm'
        refine ⟨d1, by omega, ?_⟩
        rw [hliv]
        have e1 : ¬ (m.1 = 1 ∧ b.toNat = ({ s with now := s.now + 1 } : Kp).blocks.length) := by
          rintro ⟨_, e⟩
          have e' : b.toNat = s.blocks.length := e
          omega
        rw [if_neg e1]
        split
        · rfl
        · exact d3
    · intro x hx
      cases hg with
      | birth hk' hb' hs hp hg' =>
        rw [hb'] at hx
        rcases List.mem_append.1 hx with h1 | h1
        · exact ⟨(h.bb x h1).1, by have := (h.bb x h1).2; omega⟩
        · obtain rfl := List.mem_singleton.1 h1
          exact ⟨by show 0 ≤ s.now + 1; omega, by show s.now + 1 ≤ _; omega⟩
      | shot hk' hb' hs hp hg' => rw [hb'] at hx; exact ⟨(h.bb x hx).1, by have := (h.bb x hx).2; omega⟩
      | drop hk' hb' hp => rw [hb'] at hx; exact ⟨(h.bb x hx).1, by have := (h.bb x hx).2; omega⟩
      | kill hk' hw hl hb' hp hs =>
        rw [hb'] at hx
        rcases List.mem_or_eq_of_mem_set hx with h1 | h1
        · exact ⟨(h.bb x h1).1, by have := (h.bb x h1).2; omega⟩
        · subst h1
          have hw' : m.2 < s.blocks.length := hw
          have := h.bb _ (List.getElem_mem hw')
          have e : ({ s with now := s.now + 1 } : Kp).born m.2 = s.blocks[m.2].1 := by unfold Kp.born; simp [List.getD, hw']
          exact ⟨by show 0 ≤ Kp.born _ _; rw [e]; exact this.1, by show Kp.born _ _ ≤ _; rw [e]; omega⟩
theorem Kp.Inv.take {ms : List (Int × Nat)} (hm : ∀ m ∈ ms, MoveOk m) : ∀ n, n ≤ ms.length → (kp0.fin (ms.take n)).Inv n
  | 0, _ => Kp.Inv.start
  | n + 1, h => by
    have hx := List.getElem?_eq_getElem (show n < ms.length by omega)
    rw [fin_take_succ kp0 ms n _ hx]
    exact (Kp.Inv.take hm n (by omega)).step _ (hm _ (List.getElem_mem _))
end Go.Proofs.Ythjjfmnipemakaa
