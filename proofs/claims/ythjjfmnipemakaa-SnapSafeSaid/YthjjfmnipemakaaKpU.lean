/- Package snap: nothing that is needed is gone. -/
import Derived.Test.YthjjfmnipemakaaKpR
namespace Go.Proofs.Ythjjfmnipemakaa
set_option linter.unusedVariables false

/-- What the law keeps: which live, which are gone, what lived at each snapshot. -/
structure Gh where
  lives : List Bool
  gone : List Bool
  shots : List (List Bool)
def Gh.move (g : Gh) (k : Int) (w : Nat) : Gh :=
  if k = 1 then { g with lives := g.lives ++ [true], gone := g.gone ++ [false] }
  else if k = 2 then { g with lives := g.lives.set w false }
  else if k = 3 then { g with shots := g.shots ++ [g.lives] }
  else g
def markG (l : List Bool) (bs : List Int) : List Bool := bs.foldl (fun l b => l.set b.toNat true) l
def Gh.next (g : Gh) (m : Int × Nat) (x : Int × List Int) : Gh :=
  let g' := if x.1 = 0 then g.move m.1 m.2 else g
  { g' with gone := markG g'.gone x.2 }
def ghAt (ms : List (Int × Nat)) : Nat → Gh
  | 0 => ⟨[], [], []⟩
  | n + 1 => match ms[n]? with
    | none => ghAt ms n
    | some m => (ghAt ms n).next m ((kp0.fin (ms.take n)).step m).2
theorem markG_length (l : List Bool) (bs : List Int) : (markG l bs).length = l.length := by
  unfold markG
  induction bs generalizing l with
  | nil => rfl
  | cons b bs ih => rw [List.foldl_cons, ih, List.length_set]
theorem markG_get (l : List Bool) (bs : List Int) (b : Nat) (hb : b < l.length) (h0 : ∀ x ∈ bs, 0 ≤ x) : (markG l bs).getD b false = (l.getD b false || decide ((b : Int) ∈ bs)) := by
  unfold markG
  induction bs generalizing l with
  | nil => simp
  | cons x bs ih =>
    rw [List.foldl_cons, ih _ (by rw [List.length_set]; exact hb) (fun y hy => h0 y (List.mem_cons_of_mem _ hy))]
    have hx := h0 x (List.mem_cons_self ..)
    by_cases h : x.toNat = b
    · have e : x = (b : Int) := by omega
      subst e
      simp [List.getD, hb]
    · have e : ¬ (b : Int) = x := by omega
      have e2 : (l.set x.toNat true).getD b false = l.getD b false := by simp only [List.getD_eq_getElem?_getD, List.getElem?_set]; rw [if_neg h]
      rw [e2]
      simp [e]
/-- A snapshot needs a block. -/
def needs (g : Gh) (num : Int) (b : Nat) : Bool := (g.shots.getD num.toNat []).getD b false
/-- The numbers and the times of the snapshots. -/
def Kp.P (s : Kp) : List Int := s.shots.map (·.num)
def Kp.Q (s : Kp) : List Int := s.shots.map (·.made)
structure Safe (s : Kp) (g : Gh) (back : List Int) : Prop where
  ll : g.lives.length = s.blocks.length
  gl : g.gone.length = s.blocks.length
  lv : ∀ b, b < s.blocks.length → g.lives.getD b false = s.lives b
  gc : ∀ b : Nat, b < s.blocks.length → g.gone.getD b false = decide (0 < back.count (b : Int))
  sk : (g.shots.length : Int) = s.kept
  inc : s.Q.Pairwise (· < ·)
  le : ∀ q ∈ s.Q, q ≤ s.now
  n1 : ∀ (i : Nat) (num q : Int), s.P[i]? = some num → s.Q[i]? = some q → ∀ b, needs g num b = true → b < s.blocks.length ∧ s.born b < q
  n2 : ∀ (i j : Nat) (x : Shot) (num : Int), s.shots[i]? = some x → s.P[j]? = some num → i < j → ∀ b ∈ x.dead, needs g num b.toNat = false
  n3 : ∀ num ∈ s.P, ∀ b : Nat, 0 < back.count (b : Int) → needs g num b = false
theorem Safe.start : Safe kp0 ⟨[], [], []⟩ [] :=
  ⟨rfl, rfl, fun b h => absurd h (by simp [kp0]), fun b h => absurd h (by simp [kp0]), rfl, List.Pairwise.nil, fun q h => by simp [Kp.Q, kp0] at h, fun i num q h => by simp [Kp.P, kp0] at h, fun i j x num h => by simp [kp0] at h, fun num h => by simp [Kp.P, kp0] at h⟩
/-- The erased index. -/
def up (i j : Nat) : Nat := if j < i then j else j + 1
theorem erase_get {α : Type} (l : List α) (i j : Nat) : (l.eraseIdx i)[j]? = l[up i j]? := by
  rw [List.getElem?_eraseIdx]; unfold up; split <;> rfl
theorem mix_get (s : Kp) (i : Nat) (D : List Int) (a : Nat) (y : Shot) (hy : (s.mix i D)[a]? = some y) :
    (∃ x, s.shots[a]? = some x ∧ y.dead = x.dead) ∨ (0 < i ∧ a = i - 1 ∧ ∃ x, s.shots[a]? = some x ∧ y.dead = x.dead ++ s.rest i D) := by
  unfold Kp.mix at hy
  split at hy
  · rename_i h0
    unfold Kp.dealt at hy
    rw [List.getElem?_set] at hy
    split at hy
    · rename_i e; subst e
      by_cases hl : i - 1 < s.shots.length
      · rw [if_pos hl] at hy
        injection hy with hy
        subst hy
        refine .inr ⟨h0, rfl, s.shots.getD (i - 1) shot0, by simp [List.getD, hl], rfl⟩
      · rw [if_neg hl] at hy; cases hy
    · exact .inl ⟨y, hy, rfl⟩
  · exact .inl ⟨y, hy, rfl⟩
theorem move_shots (g : Gh) (k : Int) (w : Nat) : (g.move k w).shots = if k = 3 then g.shots ++ [g.lives] else g.shots := by
  unfold Gh.move
  by_cases k1 : k = 1
  · rw [if_pos k1, if_neg (by omega)]
  · rw [if_neg k1]
    by_cases k2 : k = 2
    · rw [if_pos k2, if_neg (by omega)]
    · rw [if_neg k2]; split <;> rfl
theorem Safe.step {s : Kp} {g : Gh} {back : List Int} {n : Nat} (h : Safe s g back) (hi : s.Inv n) (hnu : s.Nums) (m : Int × Nat) (hm : MoveOk m)
    (hc0 : ∀ b : Int, back.count b + s.dead.count b = if 0 ≤ b ∧ b < s.blocks.length ∧ s.lives b.toNat = false then 1 else 0)
    (hc1 : ∀ b : Int, (back ++ (s.step m).2.2).count b + (s.step m).1.dead.count b = if 0 ≤ b ∧ b < (s.step m).1.blocks.length ∧ (s.step m).1.lives b.toNat = false then 1 else 0) :
    Safe (s.step m).1 (g.next m (s.step m).2) (back ++ (s.step m).2.2) := by
  have hnow := hi.now
  rcases step_cases s m hm with ⟨h0, h1, h2⟩ | ⟨h0, hn, hg⟩
  · have e : g.next m (s.step m).2 = g := by
      unfold Gh.next
      rw [if_neg h0, h2]; rfl
    rw [e, h1, h2, List.append_nil]
    exact ⟨h.ll, h.gl, h.lv, h.gc, h.sk, h.inc, fun q hq => by have := h.le q hq; show q ≤ s.now + 1; omega, h.n1, h.n2, h.n3⟩
  · obtain ⟨s', hs'⟩ : ∃ s', (s.step m).1 = s' := ⟨_, rfl⟩
    obtain ⟨x, hxx⟩ : ∃ x, (s.step m).2 = x := ⟨_, rfl⟩
    rw [hs', hxx] at hg hc1
    rw [hs'] at hn
    rw [hxx] at h0
    rw [hs', hxx]
    have e : g.next m x = { g.move m.1 m.2 with gone := markG (g.move m.1 m.2).gone x.2 } := by unfold Gh.next; rw [if_pos h0]
    rw [e]
    have hlen := hg.length
    have hliv := hg.lives
    have hborn := hg.born
    have hL : ({ s with now := s.now + 1 } : Kp).blocks.length = s.blocks.length := rfl
    have hLi : ∀ b, ({ s with now := s.now + 1 } : Kp).lives b = s.lives b := fun _ => rfl
    have hBo : ∀ b, ({ s with now := s.now + 1 } : Kp).born b = s.born b := fun _ => rfl
    rw [hL] at hlen
    have hb0 : ∀ b ∈ x.2, 0 ≤ b ∧ b < s'.blocks.length ∧ s'.lives b.toNat = false := by
      intro b hb
      have h1 := hc1 b
      have h2 : 0 < x.2.count b := List.count_pos_iff.2 hb
      rw [List.count_append] at h1
      split at h1
      · rename_i h3; exact h3
      · omega
    have ml : (g.move m.1 m.2).lives.length = s'.blocks.length ∧ (g.move m.1 m.2).gone.length = s'.blocks.length := by
      unfold Gh.move
      rw [hlen]
      have := h.ll; have := h.gl
      by_cases k1 : m.1 = 1
      · rw [if_pos k1, if_pos k1]; simp only [List.length_append, List.length_singleton]; omega
      · rw [if_neg k1, if_neg k1]
        split
        · simp only [List.length_set]; omega
        · split <;> exact ⟨by omega, by omega⟩
    -- needs of the old snapshots stay
    have hneed : ∀ num ∈ s.P, ∀ b, needs { g.move m.1 m.2 with gone := markG (g.move m.1 m.2).gone x.2 } num b = needs g num b := by
      intro num hnum b
      obtain ⟨y, hy, rfl⟩ := List.mem_map.1 hnum
      have hlt := hnu.lt y hy
      have hk := h.sk
      show ((g.move m.1 m.2).shots.getD y.num.toNat []).getD b false = (g.shots.getD y.num.toNat []).getD b false
      unfold Gh.move
      split
      · rfl
      · split
        · rfl
        · split
          · show ((g.shots ++ [g.lives]).getD y.num.toNat []).getD b false = _
            rw [List.getD_eq_getElem?_getD (l := g.shots ++ [g.lives]), List.getElem?_append_left (by omega), ← List.getD_eq_getElem?_getD]
          · rfl
    have hgold : ∀ b, b < s.blocks.length → (g.move m.1 m.2).gone.getD b false = g.gone.getD b false := by
      intro b hb
      unfold Gh.move
      split
      · show (g.gone ++ [false]).getD b false = _
        rw [List.getD_eq_getElem?_getD, List.getElem?_append_left (by rw [h.gl]; exact hb), ← List.getD_eq_getElem?_getD]
      · split
        · rfl
        · split <;> rfl
    have hnum := hg.nums
    have hP : ({ s with now := s.now + 1 } : Kp).shots.map (·.num) = s.P := rfl
    have hQ : ({ s with now := s.now + 1 } : Kp).shots.map (·.made) = s.Q := rfl
    have hK : ({ s with now := s.now + 1 } : Kp).kept = s.kept := rfl
    have hN : ({ s with now := s.now + 1 } : Kp).now = s.now + 1 := rfl
    rw [hP, hQ, hK, hN] at hnum
    -- all that is gone now, and the snapshots that stay
    have hgone : ∀ num ∈ s'.P, num ∈ s.P → ∀ b : Nat, 0 < x.2.count (b : Int) → needs g num b = false := by
      intro num hnp' hnp b hb
      have hbm := List.count_pos_iff.1 hb
      cases hg with
      | birth hk hb' hs hp hg' => rw [hg'] at hbm; cases hbm
      | shot hk hb' hs hp hg' => rw [hg'] at hbm; cases hbm
      | kill hk hw hl hb' hp hs =>
        rcases hs with ⟨hx2, hs, hlast⟩ | ⟨hx2, _⟩
        · rw [hx2] at hbm
          have hbw : b = m.2 := by have := List.mem_singleton.1 hbm; omega
          subst hbw
          cases hq : needs g num m.2 with
          | false => rfl
          | true =>
            exfalso
            obtain ⟨i, hi'⟩ := List.getElem?_of_mem hnp
            have hil := (List.getElem?_eq_some_iff.1 hi').1
            have hQl : s.Q.length = s.P.length := by unfold Kp.Q Kp.P; simp
            have hqi := List.getElem?_eq_getElem (show i < s.Q.length by omega)
            have h1 := (h.n1 i num _ hi' hqi m.2 hq).2
            have hsne : s.shots ≠ [] := by intro e; unfold Kp.P at hil; rw [e] at hil; simp at hil
            have hgl := List.getLast?_eq_some_getLast hsne
            have h2 : (s.shots.getLast hsne).made < s.born m.2 := hlast _ hgl
            have hsl : 0 < s.shots.length := List.length_pos_iff.2 hsne
            have h3 : s.Q[s.Q.length - 1]? = some (s.shots.getLast hsne).made := by
              unfold Kp.Q
              rw [List.getElem?_map, List.length_map, ← List.getLast?_eq_getElem?, hgl]; rfl
            have h4 := List.getElem?_eq_some_iff.1 h3
            have h5 : s.Q[i] ≤ s.Q[s.Q.length - 1] := by
              by_cases e : i = s.Q.length - 1
              · simp only [e]; exact Int.le_refl _
              · have := List.pairwise_iff_getElem.1 h.inc i (s.Q.length - 1) (by omega) h4.1 (by omega)
                omega
            rw [h4.2] at h5
            omega
        · rw [hx2] at hbm; cases hbm
      | drop hk hb' hp i y hy hyn hs hg' =>
        rw [hg'] at hbm
        have hbg : (b : Int) ∈ s.gone i y.dead := by unfold sortI at hbm; exact List.mem_mergeSort.1 hbm
        unfold Kp.gone at hbg
        have hbf := List.mem_filter.1 hbg
        have hy' : s.shots[i]? = some y := hy
        have hil := (List.getElem?_eq_some_iff.1 hy').1
        have hP' : s'.P = s.P.eraseIdx i := by
          unfold Kp.P; rw [hs, map_eraseIdxP]; exact congrArg (fun l => List.eraseIdx l i) (mix_nums s i y.dead hil).1
        rw [hP'] at hnp'
        obtain ⟨c, hc⟩ := List.getElem?_of_mem hnp'
        rw [erase_get] at hc
        have hne : up i c ≠ i := by unfold up; split <;> omega
        rcases Nat.lt_or_ge i (up i c) with hlt | hge
        · have := h.n2 i (up i c) y num hy' hc hlt (b : Int) hbf.1
          rwa [Int.toNat_natCast] at this
        · have hci : up i c < i := by omega
          cases hq : needs g num b with
          | false => rfl
          | true =>
            exfalso
            have hQl : s.Q.length = s.shots.length := by unfold Kp.Q; simp
            have hqi := List.getElem?_eq_getElem (show up i c < s.Q.length by omega)
            have h1 := (h.n1 (up i c) num _ hc hqi b hq).2
            have h2 : s.younger i (b : Int) = true := hbf.2
            unfold Kp.younger Kp.ahead at h2
            rw [if_pos (by omega), Int.toNat_natCast] at h2
            have h2' : (s.shots.getD (i - 1) shot0).made < s.born b := by simpa using h2
            have h3 : s.Q[i - 1]'(by omega) = (s.shots.getD (i - 1) shot0).made := by
              unfold Kp.Q
              rw [List.getElem_map]; simp [List.getD, show i - 1 < s.shots.length by omega]
            have h5 : s.Q[up i c]'(by omega) ≤ s.Q[i - 1]'(by omega) := by
              by_cases e : up i c = i - 1
              · simp only [e]; exact Int.le_refl _
              · have := List.pairwise_iff_getElem.1 h.inc (up i c) (i - 1) (by omega) (by omega) (by omega)
                omega
            omega
    refine ⟨ml.1, by show (markG _ _).length = _; rw [markG_length]; exact ml.2, fun b hb => ?_, fun b hb => ?_, ?_, ?_, ?_, ?_, ?_, ?_⟩
    · -- lives
      rw [hliv, hL]
      show (g.move m.1 m.2).lives.getD b false = _
      unfold Gh.move
      have hl := h.ll
      by_cases k1 : m.1 = 1
      · rw [if_pos k1]
        show (g.lives ++ [true]).getD b false = _
        by_cases hbl : b = s.blocks.length
        · rw [if_pos ⟨k1, hbl⟩]; subst hbl; rw [← hl]; simp [List.getD]
        · rw [if_neg (fun e => hbl e.2), if_neg (by omega), List.getD_eq_getElem?_getD, List.getElem?_append_left (by rw [hlen, if_pos k1] at hb; omega), ← List.getD_eq_getElem?_getD]
          exact h.lv b (by rw [hlen, if_pos k1] at hb; omega)
      · rw [if_neg k1, if_neg (show ¬ (m.1 = 1 ∧ b = s.blocks.length) from fun e => k1 e.1)]
        have hb' : b < s.blocks.length := by rw [hlen, if_neg k1] at hb; exact hb
        by_cases k2 : m.1 = 2
        · rw [if_pos k2]
          show (g.lives.set m.2 false).getD b false = _
          simp only [List.getD_eq_getElem?_getD, List.getElem?_set]
          by_cases hbm : m.2 = b
          · rw [if_pos hbm, if_pos (show m.2 < g.lives.length by omega), if_pos (show m.1 = 2 ∧ b = m.2 from ⟨k2, hbm.symm⟩)]; rfl
          · rw [if_neg hbm, if_neg (show ¬ (m.1 = 2 ∧ b = m.2) from fun e => hbm e.2.symm), ← List.getD_eq_getElem?_getD]; exact h.lv b hb'
        · rw [if_neg k2, if_neg (show ¬ (m.1 = 2 ∧ b = m.2) from fun e => k2 e.1)]
          split
          · exact h.lv b hb'
          · exact h.lv b hb'
    · -- gone
      show (markG (g.move m.1 m.2).gone x.2).getD b false = _
      rw [markG_get _ _ b (by rw [ml.2]; exact hb) (fun y hy => (hb0 y hy).1), List.count_append]
      by_cases hbl : b < s.blocks.length
      · rw [hgold b hbl, h.gc b hbl]
        by_cases h1 : (b : Int) ∈ x.2
        · have : 0 < x.2.count (b : Int) := List.count_pos_iff.2 h1
          simp [h1]; omega
        · have : x.2.count (b : Int) = 0 := List.count_eq_zero.2 h1
          rw [this]; simp [h1]
      · -- a birth
        have k1 : m.1 = 1 := by
          rcases Int.lt_trichotomy m.1 1 with hq | hq | hq
          · rw [hlen, if_neg (by omega)] at hb; omega
          · exact hq
          · rw [hlen, if_neg (by omega)] at hb; omega
        have hbe : b = s.blocks.length := by rw [hlen, if_pos k1] at hb; omega
        have hl' : s'.lives b = true := by rw [hliv, hL, if_pos ⟨k1, hbe⟩]
        have h1 := hc1 (b : Int)
        rw [Int.toNat_natCast, hl', if_neg (by simp), List.count_append] at h1
        have h2 : x.2.count (b : Int) = 0 := by omega
        have h3 : back.count (b : Int) = 0 := by omega
        have h4 : ¬ (b : Int) ∈ x.2 := List.count_eq_zero.1 h2
        have h5 : (g.move m.1 m.2).gone.getD b false = false := by
          unfold Gh.move
          rw [if_pos k1, hbe, ← h.gl]
          simp [List.getD]
        rw [h5, h2, h3]; simp [h4]
    · -- how many snapshots
      show ((g.move m.1 m.2).shots.length : Int) = s'.kept
      have hk := h.sk
      rw [move_shots]
      rcases hnum with ⟨_, _, a3, a4, _⟩ | ⟨a0, _, _, a3⟩ | ⟨a0, a3, _⟩
      · rw [a3, ← hk, if_neg a4]
      · rw [if_pos a0, a3, ← hk]; simp
      · rw [if_neg (by omega), a3, ← hk]
    · rcases hnum with ⟨_, a2, _⟩ | ⟨_, _, a2, _⟩ | ⟨_, _, i, _, _, a2⟩
      · show (s'.shots.map (·.made)).Pairwise _; rw [a2]; exact h.inc
      · show (s'.shots.map (·.made)).Pairwise _; rw [a2]
        exact List.pairwise_append.2 ⟨h.inc, List.pairwise_singleton _ _, fun p hp q hq => by have := List.mem_singleton.1 hq; have := h.le p hp; omega⟩
      · show (s'.shots.map (·.made)).Pairwise _; rw [a2]; exact h.inc.sublist (List.eraseIdx_sublist _ _)
    · intro q hq
      rw [hn]
      rcases hnum with ⟨_, a2, _⟩ | ⟨_, _, a2, _⟩ | ⟨_, _, i, _, _, a2⟩
      · have hq' : q ∈ s.Q := by rw [← a2]; exact hq
        have := h.le q hq'; omega
      · have hq' : q ∈ s.Q ++ [s.now + 1] := by rw [← a2]; exact hq
        rcases List.mem_append.1 hq' with h1 | h1
        · have := h.le q h1; omega
        · have := List.mem_singleton.1 h1; omega
      · have hq' : q ∈ s.Q.eraseIdx i := by rw [← a2]; exact hq
        have := h.le q ((List.eraseIdx_sublist _ _).mem hq'); omega
    · -- n1
      intro i num q hpi hqi b hnd
      have hlb : s.blocks.length ≤ s'.blocks.length := by rw [hlen]; omega
      have old : ∀ i0 : Nat, s.P[i0]? = some num → s.Q[i0]? = some q → b < s'.blocks.length ∧ s'.born b < q := by
        intro i0 h1 h2
        rw [hneed num (List.mem_of_getElem? h1) b] at hnd
        have := h.n1 i0 num q h1 h2 b hnd
        exact ⟨by omega, by rw [hborn b this.1]; exact this.2⟩
      rcases hnum with ⟨a1, a2, _⟩ | ⟨a0, a1, a2, _⟩ | ⟨_, _, i1, _, a1, a2⟩
      · exact old i (by rw [← a1]; exact hpi) (by rw [← a2]; exact hqi)
      · have hpi' : (s.P ++ [s.kept])[i]? = some num := by rw [← a1]; exact hpi
        have hqi' : (s.Q ++ [s.now + 1])[i]? = some q := by rw [← a2]; exact hqi
        have hPQ : s.P.length = s.Q.length := by unfold Kp.P Kp.Q; simp
        by_cases hil : i < s.P.length
        · rw [List.getElem?_append_left hil] at hpi'
          rw [List.getElem?_append_left (by omega)] at hqi'
          exact old i hpi' hqi'
        · rw [List.getElem?_append_right (by omega)] at hpi' hqi'
          have hi1 : i - s.P.length = 0 := by
            have := (List.getElem?_eq_some_iff.1 hpi').1
            simp at this; omega
          rw [hi1] at hpi'
          rw [← hPQ, hi1] at hqi'
          obtain rfl : s.kept = num := by simpa using hpi'
          obtain rfl : s.now + 1 = q := by simpa using hqi'
          have hnd' : (((g.move m.1 m.2).shots.getD s.kept.toNat []).getD b false) = true := hnd
          unfold Gh.move at hnd'
          rw [if_neg (by omega), if_neg (by omega), if_pos a0] at hnd'
          have hkl : s.kept.toNat = g.shots.length := by have := h.sk; omega
          rw [hkl] at hnd'
          have e1 : (g.shots ++ [g.lives]).getD g.shots.length [] = g.lives := by simp [List.getD]
          have hnd2 : g.lives.getD b false = true := by rw [← e1]; exact hnd'
          have hbl : b < s.blocks.length := by
            rcases Nat.lt_or_ge b g.lives.length with h1 | h1
            · have := h.ll; omega
            · rw [List.getD_eq_getElem?_getD, List.getElem?_eq_none h1] at hnd2; cases hnd2
          refine ⟨by omega, ?_⟩
          rw [hborn b hbl]
          have := (hi.bb _ (List.getElem_mem hbl)).2
          have e2 : ({ s with now := s.now + 1 } : Kp).born b = s.blocks[b].1 := by unfold Kp.born; simp [List.getD, hbl]
          rw [e2]; omega
      · exact old (up i1 i) (by rw [← erase_get, ← a1]; exact hpi) (by rw [← erase_get, ← a2]; exact hqi)
    · -- n2
      intro i j y num hy hj hij b hb
      have hjm : num ∈ s'.P := List.mem_of_getElem? hj
      cases hg with
      | birth hk hb' hs hp hg' =>
        rw [hs] at hy
        have hj' : s.P[j]? = some num := by unfold Kp.P at hj ⊢; rw [hs] at hj; exact hj
        rw [hneed num (List.mem_of_getElem? hj')]
        exact h.n2 i j y num hy hj' hij b hb
      | shot hk hb' hs hp hg' =>
        have hj' : (s.P ++ [s.kept])[j]? = some num := by unfold Kp.P at hj ⊢; rw [hs, List.map_append] at hj; exact hj
        rw [hs] at hy
        have hy' : (s.shots ++ [⟨s.kept, s.now + 1, []⟩])[i]? = some y := hy
        have hPl : s.P.length = s.shots.length := by unfold Kp.P; simp
        have hjl := (List.getElem?_eq_some_iff.1 hj').1
        rw [List.length_append, List.length_singleton] at hjl
        rw [List.getElem?_append_left (by omega)] at hy'
        by_cases hjl2 : j < s.P.length
        · rw [List.getElem?_append_left hjl2] at hj'
          rw [hneed num (List.mem_of_getElem? hj')]
          exact h.n2 i j y num hy' hj' hij b hb
        · -- the new snapshot needs what lives
          have hbd : b ∈ s.dead := List.mem_flatMap.2 ⟨y, List.mem_of_getElem? hy', hb⟩
          have hd := hi.dv b hbd
          rw [List.getElem?_append_right (by omega), show j - s.P.length = 0 by omega] at hj'
          obtain rfl : s.kept = num := by simpa using hj'
          show ((g.move m.1 m.2).shots.getD s.kept.toNat []).getD b.toNat false = false
          unfold Gh.move
          rw [if_neg (by omega), if_neg (by omega), if_pos hk, show s.kept.toNat = g.shots.length by have := h.sk; omega]
          have e1 : (g.shots ++ [g.lives]).getD g.shots.length [] = g.lives := by simp [List.getD]
          show ((g.shots ++ [g.lives]).getD g.shots.length []).getD b.toNat false = false
          rw [e1, h.lv b.toNat (by omega)]
          exact hd.2.2
      | kill hk hw hl hb' hp hs =>
        have hPe : s'.P = s.P := by
          rcases hnum with ⟨a1, _⟩ | ⟨a0, _⟩ | ⟨a0, _⟩
          · exact a1
          · omega
          · omega
        rw [hPe] at hj
        rw [hneed num (List.mem_of_getElem? hj)]
        rcases hs with ⟨_, hs, _⟩ | ⟨_, z, hz, _, hs⟩
        · rw [hs] at hy; exact h.n2 i j y num hy hj hij b hb
        · rw [hs, List.getElem?_set] at hy
          have hPl : s.P.length = s.shots.length := by unfold Kp.P; simp
          have hjl := (List.getElem?_eq_some_iff.1 hj).1
          rw [if_neg (by show ¬ s.shots.length - 1 = i; omega)] at hy
          exact h.n2 i j y num hy hj hij b hb
      | drop hk hb' hp i0 y0 hy0 hyn hs hg' =>
        have hil := (List.getElem?_eq_some_iff.1 hy0).1
        have hP' : s'.P = s.P.eraseIdx i0 := by unfold Kp.P; rw [hs, map_eraseIdxP]; exact congrArg (fun l => List.eraseIdx l i0) (mix_nums s i0 y0.dead hil).1
        rw [hP', erase_get] at hj
        rw [hneed num (List.mem_of_getElem? hj)]
        rw [hs, erase_get] at hy
        have huu : up i0 i < up i0 j := by unfold up; split <;> split <;> omega
        have hne : up i0 j ≠ i0 := by unfold up; split <;> omega
        rcases mix_get _ i0 y0.dead (up i0 i) y hy with ⟨z, hz, hzd⟩ | ⟨h0', hai, z, hz, hzd⟩
        · rw [hzd] at hb; exact h.n2 _ _ z num hz hj huu b hb
        · rw [hzd] at hb
          rcases List.mem_append.1 hb with hb1 | hb1
          · exact h.n2 _ _ z num hz hj huu b hb1
          · unfold Kp.rest at hb1
            have := (List.mem_filter.1 hb1).1
            exact h.n2 i0 (up i0 j) y0 num hy0 hj (by omega) b this
    · -- n3
      intro num hnp b hb
      rw [List.count_append] at hb
      by_cases hnp2 : num ∈ s.P
      · rw [hneed num hnp2]
        by_cases hb1 : 0 < back.count (b : Int)
        · exact h.n3 num hnp2 b hb1
        · exact hgone num hnp hnp2 b (by omega)
      · -- the new snapshot
        rcases hnum with ⟨a1, _⟩ | ⟨a0, a1, _⟩ | ⟨_, _, i, _, a1, _⟩
        · exact absurd (by rw [← a1]; exact hnp) hnp2
        · have hnp' : num ∈ s.P ++ [s.kept] := by rw [← a1]; exact hnp
          rcases List.mem_append.1 hnp' with h1 | h1
          · exact absurd h1 hnp2
          · obtain rfl := List.mem_singleton.1 h1
            show ((g.move m.1 m.2).shots.getD s.kept.toNat []).getD b false = false
            unfold Gh.move
            rw [if_neg (by omega), if_neg (by omega), if_pos a0, show s.kept.toNat = g.shots.length by have := h.sk; omega]
            have e1 : (g.shots ++ [g.lives]).getD g.shots.length [] = g.lives := by simp [List.getD]
            show ((g.shots ++ [g.lives]).getD g.shots.length []).getD b false = false
            rw [e1]
            have h2 := hc1 (b : Int)
            rw [List.count_append] at h2
            split at h2
            · rename_i h3
              obtain ⟨_, h4, h5⟩ := h3
              rw [Int.toNat_natCast, hliv, if_neg (by omega), if_neg (by omega)] at h5
              rw [h.lv b (by rw [hlen, if_neg (by omega)] at h4; omega)]
              exact h5
            · omega
        · have hnp' : num ∈ s.P.eraseIdx i := by rw [← a1]; exact hnp
          exact absurd ((List.eraseIdx_sublist _ _).mem hnp') hnp2
theorem safe {ms : List (Int × Nat)} (hm : ∀ m ∈ ms, MoveOk m) : ∀ n, n ≤ ms.length → Safe (kp0.fin (ms.take n)) (ghAt ms n) (kp0.backs (ms.take n))
  | 0, _ => Safe.start
  | n + 1, h => by
    have ih := safe hm n (by omega)
    have hx := List.getElem?_eq_getElem (show n < ms.length by omega)
    have ht : ms.take (n + 1) = ms.take n ++ [ms[n]] := List.take_succ_eq_append_getElem (by omega)
    have hc0 := conserve hm n (by omega)
    have hc1 := conserve hm (n + 1) h
    have hfs := fin_take_succ kp0 ms n _ hx
    have hbk : kp0.backs (ms.take (n + 1)) = kp0.backs (ms.take n) ++ ((kp0.fin (ms.take n)).step ms[n]).2.2 := by rw [ht, backs_snoc]
    rw [hfs, hbk] at hc1
    rw [hfs, hbk, ghAt, hx]
    exact ih.step (Kp.Inv.take hm n (by omega)) (Kp.Nums.take hm n (by omega)) _ (hm _ (List.getElem_mem (show n < ms.length by omega))) hc0 hc1
end Go.Proofs.Ythjjfmnipemakaa
