/- The pool's laws, plain. -/
import Derived.Test.YtkbfohbpndjcpaaPoX
namespace Go.Proofs.Ytkbfohbpndjcpaa
open Go.RowKit
set_option linter.unusedVariables false

theorem doP_snaps_same {s : Pl} {c : Cm} (h : c.kind ≠ 7) (h2 : c.kind ≠ 10) : (doP s c).2.snaps = s.snaps := by
  unfold doP
  split
  · show (if _ then _ else _ : Pl).snaps = _
    split <;> rfl
  · split
    · rfl
    · split
      · rfl
      · split
        · unfold snapP
          rw [if_neg h]
          split
          · rfl
          · split
            · rfl
            · split <;> rfl
        · split
          · rfl
          · split
            · rfl
            · unfold objectP
              split
              · rfl
              · split
                · rfl
                · split
                  · split <;> rfl
                  · split <;> rfl
/-- What a snapshot command does to the snapshots. -/
theorem doP_snap7 (s : Pl) (c : Cm) (h : c.kind = 7) : doP s c = (noP (roomP s.snaps c.other 3), if roomP s.snaps c.other 3 = 0 then { s with snaps := putP c.other s.objs s.snaps } else s) := by
  unfold doP
  rw [if_neg (by omega), if_neg (by omega), if_neg (by omega), if_pos (by omega)]
  unfold snapP
  rw [if_pos h]
theorem doP_snap10 (s : Pl) (c : Cm) (h : c.kind = 10) : (doP s c).2 = { s with snaps := delP c.other s.snaps } ∨ ((doP s c).2 = s ∧ getP c.other s.snaps = none) := by
  unfold doP
  rw [if_neg (by omega), if_neg (by omega), if_neg (by omega), if_pos (by omega)]
  unfold snapP
  rw [if_neg (by omega)]
  cases hg : getP c.other s.snaps with
  | none => exact .inr ⟨rfl, rfl⟩
  | some l =>
    left
    simp only
    rw [if_neg (by omega), if_pos h]
theorem room_get {α : Type} {m : PM α} {n : Nm} {k : Nat} (h : roomP m n k = 0) : getP n m = none := by
  unfold roomP at h
  split at h
  · omega
  · split at h
    · omega
    · rename_i h2
      rw [hasP_get] at h2
      cases hg : getP n m with
      | none => rfl
      | some x => rw [hg] at h2; exact absurd rfl h2
/-- A snapshot that is not taken away stays what it is. -/
theorem snap_stays {s : Pl} {c : Cm} {n : Nm} {O : PM (List Int)} (h : getP n s.snaps = some O) (hc : ¬ (c.kind = 10 ∧ c.other = n)) : getP n (doP s c).2.snaps = some O := by
  by_cases h7 : c.kind = 7
  · rw [doP_snap7 s c h7]
    show getP n (if _ then _ else _ : Pl).snaps = _
    split
    · rename_i hr
      have hne : n ≠ c.other := fun e => by rw [e, room_get hr] at h; cases h
      show getP n (putP c.other s.objs s.snaps) = _
      rw [getP_put_other hne]; exact h
    · exact h
  · by_cases h10 : c.kind = 10
    · rcases doP_snap10 s c h10 with e | ⟨e, _⟩
      · rw [e]
        show getP n (delP c.other s.snaps) = _
        rw [getP_del_other (fun e => hc ⟨h10, e.symm⟩)]; exact h
      · rw [e]; exact h
    · rw [doP_snaps_same h7 h10]; exact h
theorem snap_stays_all {n : Nm} {O : PM (List Int)} : ∀ (cs : List Cm) (s : Pl), getP n s.snaps = some O → (∀ c ∈ cs, ¬ (c.kind = 10 ∧ c.other = n)) → getP n (finP s cs).snaps = some O
  | [], s, h, _ => h
  | c :: cs, s, h, hc => snap_stays_all cs _ (snap_stays h (hc c (List.mem_cons_self ..))) (fun x hx => hc x (List.mem_cons_of_mem _ hx))

/-! the names of the snapshots -/
def snapNames : List Nm := [[115], [116], [117, 48], [118]]
structure Named (s : Pl) : Prop where
  nodup : (keysP s.snaps).Nodup
  mem : ∀ k ∈ keysP s.snaps, k ∈ snapNames
theorem keys_ins {α : Type} (x : Nm × α) : ∀ m : PM α, (keysP (insP x m)).Perm (x.1 :: keysP m)
  | [] => List.Perm.refl _
  | y :: r => by
    unfold insP
    split
    · exact List.Perm.refl _
    · exact ((keys_ins x r).cons y.1).trans (List.Perm.swap ..)
theorem keys_del {α : Type} (n : Nm) (m : PM α) : keysP (delP n m) = (keysP m).filter fun k => !(k == n) := by
  unfold keysP delP; rw [List.filter_map]; rfl
theorem Named.put {s : Pl} (h : Named s) (n : Nm) (hn : n ∈ snapNames) (x : PM (List Int)) : Named { s with snaps := putP n x s.snaps } := by
  have hp : (keysP (putP n x s.snaps)).Perm (n :: (keysP s.snaps).filter fun k => !(k == n)) := by
    unfold putP; rw [← keys_del]; exact keys_ins (n, x) _
  refine ⟨hp.nodup_iff.2 (List.nodup_cons.2 ⟨fun hm => by have := (List.mem_filter.1 hm).2; simp at this, h.nodup.filter _⟩), fun k hk => ?_⟩
  rcases List.mem_cons.1 (hp.mem_iff.1 hk) with rfl | hk
  · exact hn
  · exact h.mem k (List.mem_filter.1 hk).1
theorem Named.del {s : Pl} (h : Named s) (n : Nm) : Named { s with snaps := delP n s.snaps } := by
  refine ⟨?_, fun k hk => ?_⟩
  · show (keysP (delP n s.snaps)).Nodup
    rw [keys_del]; exact h.nodup.filter _
  · have hk' : k ∈ keysP (delP n s.snaps) := hk
    rw [keys_del] at hk'
    exact h.mem k (List.mem_filter.1 hk').1
theorem Named.step {s : Pl} (h : Named s) (c : Cm) (hc : c.kind = 7 → c.other ∈ snapNames) : Named (doP s c).2 := by
  by_cases h7 : c.kind = 7
  · rw [doP_snap7 s c h7]
    show Named (if _ then _ else _)
    split
    · exact h.put _ (hc h7) _
    · exact h
  · by_cases h10 : c.kind = 10
    · rcases doP_snap10 s c h10 with e | ⟨e, _⟩
      · rw [e]; exact h.del _
      · rw [e]; exact h
    · have e := doP_snaps_same (s := s) h7 h10
      exact ⟨by rw [e]; exact h.nodup, by rw [e]; exact h.mem⟩
theorem Named.all : ∀ (cs : List Cm) (s : Pl), Named s → (∀ c ∈ cs, c.kind = 7 → c.other ∈ snapNames) → Named (finP s cs)
  | [], s, h, _ => h
  | c :: cs, s, h, hc => Named.all cs _ (h.step c (hc c (List.mem_cons_self ..))) (fun x hx => hc x (List.mem_cons_of_mem _ hx))
theorem Named.zero : Named pl0 := ⟨List.nodup_nil, fun k hk => (List.not_mem_nil hk).elim⟩
theorem snapN_mem (n : Int) : snapN n ∈ snapNames := by
  have h0 := Int.emod_nonneg n (b := 4) (by decide)
  have h1 := Int.emod_lt_of_pos n (b := 4) (by decide)
  have hk : n % 4 = 0 ∨ n % 4 = 1 ∨ n % 4 = 2 ∨ n % 4 = 3 := by omega
  unfold snapN
  rcases hk with hk | hk | hk | hk <;> rw [hk] <;> decide
theorem two_left (l : List Nm) (hn : l.Nodup) (hm : ∀ k ∈ l, k ∈ snapNames) (h1 : [115] ∉ l) (h2 : [116] ∉ l) : l.length ≤ 2 := by
  have hk : ∀ k ∈ l, k = [117, 48] ∨ k = [118] := fun k hk => by
    have := hm k hk
    unfold snapNames at this
    simp only [List.mem_cons, List.mem_nil_iff, or_false] at this
    rcases this with rfl | rfl | rfl | rfl
    · exact absurd hk h1
    · exact absurd hk h2
    · exact .inl rfl
    · exact .inr rfl
  match l, hn, hk with
  | [], _, _ => simp
  | [_], _, _ => simp
  | [_, _], _, _ => simp
  | a :: b :: c :: r, hn, hk =>
    exfalso
    have ha := hk a (by simp)
    have hb := hk b (by simp)
    have hc := hk c (by simp)
    have n1 : a ≠ b := fun e => (List.nodup_cons.1 hn).1 (by simp [e])
    have n2 : a ≠ c := fun e => (List.nodup_cons.1 hn).1 (by simp [e])
    have n3 : b ≠ c := fun e => (List.nodup_cons.1 (List.nodup_cons.1 hn).2).1 (by simp [e])
    rcases ha with rfl | rfl <;> rcases hb with rfl | rfl <;> rcases hc with rfl | rfl <;> simp_all
def unS : Cm := ⟨10, [], [115], 0, 0, []⟩
def unT : Cm := ⟨10, [], [116], 0, 0, []⟩
def snS : Cm := ⟨7, [], [115], 0, 0, []⟩
def ftC (n : Nm) : Cm := ⟨3, n, [], 0, 2000, []⟩
def lkC (n : Nm) : Cm := ⟨8, n, [115], 0, 2000, []⟩
def lsC : Cm := ⟨6, [], [], 0, 0, []⟩
def bkC : Cm := ⟨9, [], [115], 0, 0, []⟩
theorem gone_after (s : Pl) (c : Cm) (h : c.kind = 10) : getP c.other (doP s c).2.snaps = none ∧ (doP s c).2.objs = s.objs ∧ ∀ n, getP n s.snaps = none → getP n (doP s c).2.snaps = none := by
  rcases doP_snap10 s c h with e | ⟨e, h0⟩
  · rw [e]
    refine ⟨getP_del_same _ _, rfl, fun n hn => ?_⟩
    by_cases hne : n = c.other
    · rw [hne]; exact getP_del_same _ _
    · show getP n (delP c.other s.snaps) = none
      rw [getP_del_other hne]; exact hn
  · rw [e]; exact ⟨h0, rfl, fun n hn => hn⟩
theorem key_get {α : Type} {n : Nm} {m : PM α} (h : n ∈ keysP m) : getP n m ≠ none := by
  intro e
  have : hasP n m = false := by rw [hasP_get, e]; rfl
  unfold hasP at this
  rw [List.any_eq_false] at this
  obtain ⟨p, hp, rfl⟩ := List.mem_map.1 h
  exact this p hp (by simp)
/-- Behind the two that are taken away there is room for a snapshot. -/
theorem snap_room (s : Pl) (h : Named s) : (doP (doP (doP s unS).2 unT).2 snS).1.code = 0 ∧ (doP (doP (doP s unS).2 unT).2 snS).2.objs = s.objs ∧ getP [115] (doP (doP (doP s unS).2 unT).2 snS).2.snaps = some s.objs := by
  obtain ⟨g1, o1, k1⟩ := gone_after s unS rfl
  obtain ⟨g2, o2, k2⟩ := gone_after (doP s unS).2 unT rfl
  have n2 := (h.step unS (by decide)).step unT (by decide)
  obtain ⟨s2, hs2⟩ : ∃ s2, (doP (doP s unS).2 unT).2 = s2 := ⟨_, rfl⟩
  have k3 := k2 _ g1
  rw [hs2] at g2 o2 n2 k3 ⊢
  have hl : s2.snaps.length ≤ 2 := by
    have := two_left (keysP s2.snaps) n2.nodup n2.mem (fun hm => key_get hm k3) (fun hm => key_get hm g2)
    unfold keysP at this; rwa [List.length_map] at this
  have hr : roomP s2.snaps [115] 3 = 0 := by
    unfold roomP
    rw [if_neg (by decide), if_neg (by rw [hasP_get]; rw [show getP [115] s2.snaps = none from k3]; decide), if_neg (by omega)]
  rw [doP_snap7 s2 snS rfl]
  show roomP s2.snaps [115] 3 = 0 ∧ (if roomP s2.snaps [115] 3 = 0 then _ else _ : Pl).objs = _ ∧ getP _ (if roomP s2.snaps [115] 3 = 0 then _ else _ : Pl).snaps = _
  rw [hr]
  refine ⟨rfl, o2.trans o1, ?_⟩
  show getP [115] (putP [115] s2.objs s2.snaps) = _
  rw [getP_put_same, o2, o1]
theorem do_ft (s : Pl) (n : Nm) : doP s (ftC n) = (match getP n s.objs with | none => noP 6 | some x => fetchP x (ftC n), s) := by
  show (match getP n s.objs with | none => (noP 6, s) | some x => (fetchP x (ftC n), s)) = _
  cases getP n s.objs <;> rfl
theorem do_lk (s : Pl) (n : Nm) (O : PM (List Int)) (h : getP [115] s.snaps = some O) : doP s (lkC n) = (match getP n O with | none => noP 6 | some x => fetchP x (ftC n), s) := by
  show (match getP [115] s.snaps with
    | none => (noP 6, s)
    | some l => match getP n l with
        | none => (noP 6, s)
        | some x => (fetchP x (lkC n), s)) = _
  rw [h]
  simp only
  cases getP n O <;> rfl
theorem do_bk (s : Pl) (O : PM (List Int)) (h : getP [115] s.snaps = some O) : doP s bkC = (noP 0, { s with objs := O }) := by
  show (match getP [115] s.snaps with
    | none => (noP 6, s)
    | some l => (noP 0, { s with objs := l })) = _
  rw [h]
theorem get_at {α : Type} [Inhabited α] (A B : List α) (x : α) (i : Nat) (h : i = A.length) : (A ++ x :: B)[i]? = some x := by
  subst h; simp
/-- The four commands ahead: what they come to. -/
theorem ahead (s0 : Pl) (n : Nm) (h : Named s0) : ∃ a b c0 s1, c0.code = 0 ∧ outsP s0 [unS, unT, snS] = [a, b, c0] ∧ finP s0 [unS, unT, snS] = s1 ∧ s1.objs = s0.objs ∧ getP [115] s1.snaps = some s1.objs := by
  obtain ⟨h0, h1, h2⟩ := snap_room s0 h
  exact ⟨_, _, _, _, h0, rfl, rfl, h1, h2.trans (congrArg some h1.symm)⟩
/-- PoolSnaps. -/
theorem pool_snaps (A ms : List Cm) (n : Nm) (hA : ∀ c ∈ A, c.kind = 7 → c.other ∈ snapNames) (hm : ∀ c ∈ ms, ¬ (c.kind = 10 ∧ c.other = [115])) :
    ∃ r r0, (outsP pl0 (A ++ [unS, unT, snS] ++ [ftC n] ++ ms ++ [lkC n]))[A.length + 2]? = some r0 ∧ r0.code = 0 ∧ (outsP pl0 (A ++ [unS, unT, snS] ++ [ftC n] ++ ms ++ [lkC n]))[A.length + 3]? = some r ∧ (outsP pl0 (A ++ [unS, unT, snS] ++ [ftC n] ++ ms ++ [lkC n]))[A.length + 4 + ms.length]? = some r := by
  obtain ⟨a, b, c0, s1, h0, ho, hs, h1, h2⟩ := ahead (finP pl0 A) n (Named.zero.all A _ hA)
  have hf := do_ft s1 n
  have h3 := snap_stays_all ms s1 h2 hm
  have hl := do_lk (finP s1 ms) n _ h3
  obtain ⟨r, hr⟩ : ∃ r, (match getP n s1.objs with | none => noP 6 | some x => fetchP x (ftC n)) = r := ⟨_, rfl⟩
  rw [hr] at hf hl
  have f1 : finP s1 [ftC n] = s1 := by show (doP s1 (ftC n)).2 = s1; rw [hf]
  have o1 : outsP s1 [ftC n] = [r] := by show [(doP s1 (ftC n)).1] = [r]; rw [hf]
  have o2 : outsP (finP s1 ms) [lkC n] = [r] := by show [(doP (finP s1 ms) (lkC n)).1] = [r]; rw [hl]
  have e : outsP pl0 (A ++ [unS, unT, snS] ++ [ftC n] ++ ms ++ [lkC n]) = outsP pl0 A ++ [a, b, c0] ++ [r] ++ outsP s1 ms ++ [r] := by
    simp only [outsP_append, finP_append, ho, hs, f1, o1, o2]
  rw [e]
  have hlA : (outsP pl0 A).length = A.length := outsP_length _ _
  have hlm : (outsP s1 ms).length = ms.length := outsP_length _ _
  refine ⟨r, c0, ?_, h0, ?_, ?_⟩
  · have := get_at (outsP pl0 A ++ [a, b]) ([r] ++ outsP s1 ms ++ [r]) c0 (A.length + 2) (by simp [hlA])
    simpa using this
  · have := get_at (outsP pl0 A ++ [a, b, c0]) (outsP s1 ms ++ [r]) r (A.length + 3) (by simp [hlA])
    simpa using this
  · have := get_at (outsP pl0 A ++ [a, b, c0] ++ [r] ++ outsP s1 ms) [] r (A.length + 4 + ms.length) (by simp [hlA, hlm]; omega)
    have e5 : (outsP pl0 A ++ [a, b, c0] ++ [r] ++ outsP s1 ms ++ [r])[A.length + 4 + ms.length]? = some r := this
    exact e5
theorem snaps_same_all : ∀ (cs : List Cm) (s : Pl), (∀ c ∈ cs, c.kind ≠ 7 ∧ c.kind ≠ 10) → (finP s cs).snaps = s.snaps
  | [], s, _ => rfl
  | c :: cs, s, hc => (snaps_same_all cs _ (fun x hx => hc x (List.mem_cons_of_mem _ hx))).trans (doP_snaps_same (hc c (List.mem_cons_self ..)).1 (hc c (List.mem_cons_self ..)).2)
theorem do_ls (s : Pl) : doP s lsC = (⟨0, 0, [], namesP s.objs⟩, s) := rfl
/-- PoolBack. -/
theorem pool_back (A ms : List Cm) (n : Nm) (hA : ∀ c ∈ A, c.kind = 7 → c.other ∈ snapNames) (hm : ∀ c ∈ ms, c.kind ≠ 7 ∧ c.kind ≠ 10) :
    ∃ r q r0, (outsP pl0 (A ++ [unS, unT, snS] ++ [lsC, ftC n] ++ ms ++ [bkC, lsC, ftC n]))[A.length + 3]? = some q ∧ (outsP pl0 (A ++ [unS, unT, snS] ++ [lsC, ftC n] ++ ms ++ [bkC, lsC, ftC n]))[A.length + 4]? = some r ∧ r0.code = 0 ∧
      (outsP pl0 (A ++ [unS, unT, snS] ++ [lsC, ftC n] ++ ms ++ [bkC, lsC, ftC n]))[A.length + 5 + ms.length]? = some r0 ∧ (outsP pl0 (A ++ [unS, unT, snS] ++ [lsC, ftC n] ++ ms ++ [bkC, lsC, ftC n]))[A.length + 6 + ms.length]? = some q ∧ (outsP pl0 (A ++ [unS, unT, snS] ++ [lsC, ftC n] ++ ms ++ [bkC, lsC, ftC n]))[A.length + 7 + ms.length]? = some r := by
  obtain ⟨a, b, c0, s1, h0, ho, hs, h1, h2⟩ := ahead (finP pl0 A) n (Named.zero.all A _ hA)
  have hf := do_ft s1 n
  have h3 : getP [115] (finP s1 ms).snaps = some s1.objs := by rw [snaps_same_all ms s1 hm]; exact h2
  have hb := do_bk (finP s1 ms) _ h3
  obtain ⟨r, hr⟩ : ∃ r, (match getP n s1.objs with | none => noP 6 | some x => fetchP x (ftC n)) = r := ⟨_, rfl⟩
  obtain ⟨q, hq⟩ : ∃ q : Td, ⟨0, 0, [], namesP s1.objs⟩ = q := ⟨_, rfl⟩
  have hf2 := do_ft { (finP s1 ms) with objs := s1.objs } n
  rw [hr] at hf
  have hf2' : doP { (finP s1 ms) with objs := s1.objs } (ftC n) = (r, { (finP s1 ms) with objs := s1.objs }) := by rw [hf2, ← hr]
  have f1 : finP s1 [lsC, ftC n] = s1 := by show (doP s1 (ftC n)).2 = s1; rw [hf]
  have o1 : outsP s1 [lsC, ftC n] = [q, r] := by show [_, (doP s1 (ftC n)).1] = [q, r]; rw [hf, ← hq]; rfl
  have o2 : outsP (finP s1 ms) [bkC, lsC, ftC n] = [noP 0, q, r] := by
    show [(doP (finP s1 ms) bkC).1, (doP (doP (finP s1 ms) bkC).2 lsC).1, (doP (doP (doP (finP s1 ms) bkC).2 lsC).2 (ftC n)).1] = _
    rw [hb]
    show [noP 0, ⟨0, 0, [], namesP s1.objs⟩, (doP { (finP s1 ms) with objs := s1.objs } (ftC n)).1] = _
    rw [hf2', hq]
  have e : outsP pl0 (A ++ [unS, unT, snS] ++ [lsC, ftC n] ++ ms ++ [bkC, lsC, ftC n]) = outsP pl0 A ++ [a, b, c0] ++ [q, r] ++ outsP s1 ms ++ [noP 0, q, r] := by
    simp only [outsP_append, finP_append, ho, hs, f1, o1, o2]
  rw [e]
  have hlA : (outsP pl0 A).length = A.length := outsP_length _ _
  have hlm : (outsP s1 ms).length = ms.length := outsP_length _ _
  refine ⟨r, q, noP 0, ?_, ?_, rfl, ?_, ?_, ?_⟩
  · have := get_at (outsP pl0 A ++ [a, b, c0]) ([r] ++ outsP s1 ms ++ [noP 0, q, r]) q (A.length + 3) (by simp [hlA])
    simpa using this
  · have := get_at (outsP pl0 A ++ [a, b, c0, q]) (outsP s1 ms ++ [noP 0, q, r]) r (A.length + 4) (by simp [hlA])
    simpa using this
  · have := get_at (outsP pl0 A ++ [a, b, c0] ++ [q, r] ++ outsP s1 ms) [q, r] (noP 0) (A.length + 5 + ms.length) (by simp [hlA, hlm]; omega)
    simpa using this
  · have := get_at (outsP pl0 A ++ [a, b, c0] ++ [q, r] ++ outsP s1 ms ++ [noP 0]) [r] q (A.length + 6 + ms.length) (by simp [hlA, hlm]; omega)
    simpa using this
  · have := get_at (outsP pl0 A ++ [a, b, c0] ++ [q, r] ++ outsP s1 ms ++ [noP 0, q]) [] r (A.length + 7 + ms.length) (by simp [hlA, hlm]; omega)
    simpa using this
/-! PoolStores -/
def stC (n : Nm) (at_ : Nat) (d : List Int) : Cm := ⟨2, n, [], at_, 0, d⟩
theorem writeP_get (b : List Int) (off : Nat) (d : List Int) (i : Nat) (hi : i < max b.length (off + d.length)) : (writeP b off d).getD i 0 = if off ≤ i ∧ i < off + d.length then d.getD (i - off) 0 else if i < b.length then b.getD i 0 else 0 := by
  unfold writeP
  simp only [List.getD_eq_getElem?_getD]
  have hz : ∀ j, j < max b.length (off + d.length) → (b ++ List.replicate (off + d.length - b.length) (0 : Int))[j]?.getD 0 = if j < b.length then b[j]?.getD 0 else 0 := fun j hj => by
    by_cases h : j < b.length
    · rw [if_pos h, List.getElem?_append_left h]
    · rw [if_neg h, List.getElem?_append_right (by omega), List.getElem?_replicate]
      split <;> rfl
  have hzl : (b ++ List.replicate (off + d.length - b.length) (0 : Int)).length = max b.length (off + d.length) := by simp; omega
  obtain ⟨z, hzd⟩ : ∃ z, b ++ List.replicate (off + d.length - b.length) (0 : Int) = z := ⟨_, rfl⟩
  rw [hzd] at hz hzl ⊢
  by_cases h1 : i < off
  · rw [if_neg (by omega), ← hz i hi, List.append_assoc, List.getElem?_append_left (by rw [List.length_take]; omega), List.getElem?_take, if_pos h1]
  · by_cases h2 : i < off + d.length
    · rw [if_pos ⟨by omega, h2⟩, List.append_assoc, List.getElem?_append_right (by rw [List.length_take]; omega), List.getElem?_append_left (by rw [List.length_take]; omega), List.length_take, show i - min off z.length = i - off by omega]
    · rw [if_neg (by omega), ← hz i hi, List.getElem?_append_right (by rw [List.length_append, List.length_take]; omega), List.getElem?_drop, List.length_append, List.length_take, show off + d.length + (i - (min off z.length + d.length)) = i by omega]
theorem readP_all (x : List Int) (h : x.length ≤ 2000) : readP x 0 2000 = x := by unfold readP; rw [List.drop_zero, List.take_of_length_le h]
theorem pool_stores (A : List Cm) (n : Nm) (o : Nat) (d : List Int) (hA : ∀ c ∈ A, c.Ok) (hd : 1 ≤ d.length ∧ d.length ≤ 400) (ho : o + d.length ≤ 1024) :
    ∃ p q r, outsP pl0 (A ++ [ftC n, stC n o d, ftC n]) = outsP pl0 A ++ [p, q, r] ∧
      ((p.code = 6 ∧ q.code = 6 ∧ r.code = 6) ∨ (p.code = 0 ∧ q.code = 0 ∧ r.code = 0 ∧ r.data.length = max p.data.length (o + d.length) ∧ q.size = r.data.length ∧ r.size = r.data.length ∧ r.data.length ≤ 1024 ∧
        ∀ i, i < r.data.length → r.data.getD i 0 = if o ≤ i ∧ i < o + d.length then d.getD (i - o) 0 else if i < p.data.length then p.data.getD i 0 else 0)) := by
  have hok := finP_ok A pl0 pl0_ok hA
  obtain ⟨s, hs⟩ : ∃ s, finP pl0 A = s := ⟨_, rfl⟩
  rw [hs] at hok
  refine ⟨_, _, _, by rw [outsP_append, hs]; rfl, ?_⟩
  rw [do_ft]
  have e2 : doP s (stC n o d) = (match getP n s.objs with | none => (noP 6, s) | some x => (⟨0, (writeP x o d).length, [], []⟩, { s with objs := putP n (writeP x o d) s.objs })) := by
    show (match getP n s.objs with | none => (noP 6, s) | some x => (if o + d.length > 1024 then (noP 2, s) else (⟨0, (writeP x o d).length, [], []⟩, { s with objs := putP n (writeP x o d) s.objs }))) = _
    cases getP n s.objs with
    | none => rfl
    | some x => simp only; rw [if_neg (by omega)]
  rw [e2]
  cases hg : getP n s.objs with
  | none =>
    left
    simp only
    refine ⟨rfl, rfl, ?_⟩
    rw [do_ft, hg]; rfl
  | some x =>
    right
    simp only
    obtain ⟨p, hp, hp1, hp2⟩ := mem_getP hg
    have hx : x.length ≤ 1024 := by have := hok.len p hp; rwa [hp2] at this
    rw [do_ft]
    show _ ∧ _ ∧ (match getP n (putP n (writeP x o d) s.objs) with | none => noP 6 | some x => fetchP x (ftC n)).code = 0 ∧ _
    rw [getP_put_same]
    have hw : (writeP x o d).length = max x.length (o + d.length) := writeP_length ..
    have r1 : readP x 0 2000 = x := readP_all x (by omega)
    have r2 : readP (writeP x o d) 0 2000 = writeP x o d := readP_all _ (by omega)
    refine ⟨rfl, trivial, rfl, ?_⟩
    show (readP (writeP x o d) 0 2000).length = max (readP x 0 2000).length (o + d.length) ∧ (writeP x o d).length = (readP (writeP x o d) 0 2000).length ∧ (writeP x o d).length = (readP (writeP x o d) 0 2000).length ∧ (readP (writeP x o d) 0 2000).length ≤ 1024 ∧ ∀ i, i < (readP (writeP x o d) 0 2000).length → (readP (writeP x o d) 0 2000).getD i 0 = if o ≤ i ∧ i < o + d.length then d.getD (i - o) 0 else if i < (readP x 0 2000).length then (readP x 0 2000).getD i 0 else 0
    rw [r1, r2]
    exact ⟨hw, rfl, rfl, by omega, fun i hi => writeP_get x o d i (by omega)⟩
/-! PoolRefused -/
theorem refused_same (s : Pl) (c : Cm) : (doP s c).1.code ≠ 0 → (doP s c).2 = s := by
  unfold doP
  split
  · intro h
    have h' : roomP s.objs c.name 4 ≠ 0 := h
    show (if _ then _ else _) = s
    rw [if_neg h']
  · split
    · exact fun _ => rfl
    · split
      · exact fun _ => rfl
      · split
        · unfold snapP
          split
          · intro h
            have h' : roomP s.snaps c.other 3 ≠ 0 := h
            show (if _ then _ else _) = s
            rw [if_neg h']
          · split
            · exact fun _ => rfl
            · split
              · exact fun h => absurd rfl h
              · split
                · exact fun h => absurd rfl h
                · split
                  · exact fun _ => rfl
                  · exact fun _ => rfl
        · split
          · exact fun _ => rfl
          · split
            · exact fun _ => rfl
            · unfold objectP
              split
              · exact fun _ => rfl
              · split
                · exact fun h => absurd rfl h
                · split
                  · split
                    · exact fun _ => rfl
                    · exact fun h => absurd rfl h
                  · split
                    · exact fun _ => rfl
                    · exact fun h => absurd rfl h
def fewP (cs : List Cm) (ts : List Td) : List Cm := (cs.zip ts).filterMap fun p => if p.2.code = 0 then some p.1 else none
def wantP (ts : List Td) : List Td := ts.filter fun r => r.code == 0
theorem pool_refused : ∀ (cs : List Cm) (s : Pl), outsP s (fewP cs (outsP s cs)) = wantP (outsP s cs)
  | [], s => rfl
  | c :: cs, s => by
    have ih := pool_refused cs (doP s c).2
    show outsP s (fewP (c :: cs) ((doP s c).1 :: outsP (doP s c).2 cs)) = wantP ((doP s c).1 :: outsP (doP s c).2 cs)
    unfold fewP wantP at *
    rw [List.zip_cons_cons, List.filterMap_cons, List.filter_cons]
    by_cases h : (doP s c).1.code = 0
    · simp only [h, if_true, beq_self_eq_true]
      exact congrArg ((doP s c).1 :: ·) ih
    · have h' : ((doP s c).1.code == 0) = false := by simpa using h
      simp only [h, if_false, h', Bool.false_eq_true]
      have e := refused_same s c h
      rw [e] at ih ⊢
      exact ih
theorem fewP_succ (cs : List Cm) (ts : List Td) (i : Nat) (c : Cm) (r : Td) (hc : cs[i]? = some c) (hr : ts[i]? = some r) :
    fewP (cs.take (i + 1)) (ts.take (i + 1)) = fewP (cs.take i) (ts.take i) ++ (if r.code = 0 then [c] else []) ∧ wantP (ts.take (i + 1)) = wantP (ts.take i) ++ (if r.code = 0 then [r] else []) := by
  obtain ⟨h1, h2⟩ := List.getElem?_eq_some_iff.1 hc
  obtain ⟨h3, h4⟩ := List.getElem?_eq_some_iff.1 hr
  unfold fewP wantP
  rw [List.take_succ_eq_append_getElem h1, List.take_succ_eq_append_getElem h3, h2, h4, List.zip_append (by rw [List.length_take, List.length_take]; omega), List.filterMap_append, List.filter_append]
  by_cases h : r.code = 0 <;> simp [h]
theorem fewP_mem {cs : List Cm} {ts : List Td} {c : Cm} (h : c ∈ fewP cs ts) : c ∈ cs := by
  unfold fewP at h
  obtain ⟨p, hp, hp2⟩ := List.mem_filterMap.1 h
  split at hp2
  · obtain rfl := Option.some.inj hp2
    exact (List.of_mem_zip hp).1
  · cases hp2
theorem fewP_length (cs : List Cm) (ts : List Td) : (fewP cs ts).length ≤ cs.length := by
  unfold fewP
  refine Nat.le_trans (List.length_filterMap_le _ _) ?_
  rw [List.length_zip]; omega
end Go.Proofs.Ytkbfohbpndjcpaa
