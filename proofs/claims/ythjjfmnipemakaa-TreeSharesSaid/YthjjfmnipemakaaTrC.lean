/- Package tree as plain data: versions, what a write and a resize make of them. -/
import Derived.Test.YthjjfmnipemakaaTrB
namespace Go.Proofs.Ythjjfmnipemakaa
set_option linter.unusedVariables false

structure Ver where
  root : Option Rt
  size : Nat
structure Fo where
  vers : List Ver
  made : Nat
def ver0 : Ver := ⟨none, 0⟩
def fo0 : Fo := ⟨[ver0], 0⟩
def levelOf (s : Nat) : Nat := if s ≤ 64 then 0 else if s ≤ 256 then 1 else if s ≤ 1024 then 2 else 3
theorem room_levels : room 0 = 64 ∧ room 1 = 256 ∧ room 2 = 1024 ∧ room 3 = 4096 := by decide
theorem levelOf_room {s : Nat} (h : s ≤ 4096) : s ≤ room (levelOf s) := by
  have := room_levels
  unfold levelOf
  split
  · omega
  · split
    · omega
    · split <;> omega
theorem levelOf_mono {a b : Nat} (h : a ≤ b) : levelOf a ≤ levelOf b := by
  unfold levelOf
  repeat' split
  all_goals omega
/-- A level lower would not do. -/
theorem levelOf_least {s : Nat} (h : 0 < levelOf s) : room (levelOf s - 1) < s := by
  have := room_levels
  unfold levelOf at h ⊢
  by_cases h1 : s ≤ 64
  · rw [if_pos h1] at h; omega
  · rw [if_neg h1] at h ⊢
    by_cases h2 : s ≤ 256
    · rw [if_pos h2]; show room 0 < s; omega
    · rw [if_neg h2] at h ⊢
      by_cases h3 : s ≤ 1024
      · rw [if_pos h3]; show room 1 < s; omega
      · rw [if_neg h3]; show room 2 < s; omega
def atRoot (n : Nat) (x : Option (T n) × Nat) : Option Rt × Nat := (x.1.map fun t => (⟨n, t⟩ : Rt), x.2)
def wrote (cur level off : Nat) (data : List Int) (r : Option Rt) (made : Nat) : Option Rt × Nat :=
  match r with
  | none => atRoot level (T.write cur off data level 0 none made)
  | some r => atRoot (raise cur (level - r.1) r made).1.1 (T.write cur off data (raise cur (level - r.1) r made).1.1 0 (some (raise cur (level - r.1) r made).1.2) (raise cur (level - r.1) r made).2)
def newSize (v : Ver) (off len : Nat) : Nat := max v.size (off + len)
def Fo.wrote (f : Fo) (v : Ver) (off : Nat) (data : List Int) : Ver × Nat :=
  (⟨(Go.Proofs.Ythjjfmnipemakaa.wrote f.vers.length (levelOf (newSize v off data.length)) off data v.root f.made).1, newSize v off data.length⟩, (Go.Proofs.Ythjjfmnipemakaa.wrote f.vers.length (levelOf (newSize v off data.length)) off data v.root f.made).2)
def cutRoot (cur size : Nat) (r : Option Rt) (made : Nat) : Option Rt × Nat := match r with
  | none => (none, made)
  | some r => atRoot r.1 (T.cut cur size r.1 0 (some r.2) made)
def lowered (cur size : Nat) (r : Option Rt) (made : Nat) : Option Rt := (cutRoot cur size r made).1.bind fun r => lower (levelOf size) r.1 r.2
def Fo.resized (f : Fo) (v : Ver) (size : Nat) : Ver × Nat :=
  match lowered f.vers.length size v.root f.made with
  | none => if 0 < size then (⟨some ⟨levelOf size, T.fresh (levelOf size) f.vers.length (cutRoot f.vers.length size v.root f.made).2 none⟩, size⟩, (cutRoot f.vers.length size v.root f.made).2 + 1) else (⟨none, size⟩, (cutRoot f.vers.length size v.root f.made).2)
  | some r => (⟨some (raise f.vers.length (levelOf size - r.1) r (cutRoot f.vers.length size v.root f.made).2).1, size⟩, (raise f.vers.length (levelOf size - r.1) r (cutRoot f.vers.length size v.root f.made).2).2)

structure Ver.Good (v : Ver) : Prop where
  ok : Rt.Ok v.root
  zero : ∀ p, v.size ≤ p → Rt.get v.root p = 0
  small : v.size ≤ 4096
  nil : v.root = none ↔ v.size = 0
  level : ∀ r, v.root = some r → r.1 = levelOf v.size
theorem ver0_good : ver0.Good := ⟨trivial, fun _ _ => rfl, by decide, ⟨fun _ => rfl, fun _ => rfl⟩, fun r hr => by cases hr⟩
theorem atRoot_get (n : Nat) (x : Option (T n) × Nat) (p : Nat) : Rt.get (atRoot n x).1 p = if p < room n then T.get n x.1 p else 0 := by
  obtain ⟨t, m⟩ := x
  cases t with
  | none => show (0 : Int) = _; rw [T.get_none]; split <;> rfl
  | some t => rfl
theorem atRoot_ok (n : Nat) (x : Option (T n) × Nat) (h : T.Ok n x.1) : Rt.Ok (atRoot n x).1 := by
  obtain ⟨t, m⟩ := x
  cases t with
  | none => trivial
  | some t => exact h
theorem write_some (cur off : Nat) (data : List Int) (n base : Nat) (t : Option (T n)) (made : Nat) (h : ¬ (off ≥ base + room n ∨ off + data.length ≤ base)) : ∃ t', (T.write cur off data n base t made).1 = some t' := by
  cases n with
  | zero =>
    unfold T.write
    rw [if_neg h]
    by_cases h2 : t.all (fun t => decide (T.birthOf t < cur)) = true
    · rw [if_pos h2]; exact ⟨_, rfl⟩
    · rw [if_neg h2]
      cases t with
      | none => exact absurd rfl h2
      | some t => exact ⟨_, rfl⟩
  | succ n =>
    unfold T.write
    rw [if_neg h]
    by_cases h2 : t.all (fun t => decide (T.birthOf t < cur)) = true
    · rw [if_pos h2]; exact ⟨_, rfl⟩
    · rw [if_neg h2]
      cases t with
      | none => exact absurd rfl h2
      | some t => exact ⟨_, rfl⟩
theorem none_ok (n : Nat) : T.Ok n none := by cases n <;> trivial
/-- A write: what it says, and nothing else. -/
theorem wrote_good (f : Fo) (v : Ver) (off : Nat) (data : List Int) (hv : v.Good) (hd : 0 < data.length) (hs : off + data.length ≤ 4096) :
    (f.wrote v off data).1.Good ∧ ∀ p, Rt.get (f.wrote v off data).1.root p = if off ≤ p ∧ p < off + data.length then data.getD (p - off) 0 else Rt.get v.root p := by
  obtain ⟨S, hS⟩ : ∃ S, newSize v off data.length = S := ⟨_, rfl⟩
  have hS1 : v.size ≤ S := by rw [← hS]; exact Nat.le_max_left _ _
  have hS2 : off + data.length ≤ S := by rw [← hS]; exact Nat.le_max_right _ _
  have hS3 : S ≤ 4096 := by rw [← hS]; have := hv.small; unfold newSize; omega
  have hroom := levelOf_room hS3
  have hS4 : S = v.size ∨ S = off + data.length := by rw [← hS]; unfold newSize; omega
  have e : (f.wrote v off data).1 = ⟨(wrote f.vers.length (levelOf S) off data v.root f.made).1, S⟩ := by unfold Fo.wrote; rw [hS]
  rw [e]
  obtain ⟨R, hR⟩ : ∃ R, (wrote f.vers.length (levelOf S) off data v.root f.made).1 = R := ⟨_, rfl⟩
  rw [hR]
  have key : Rt.Ok R ∧ (∀ p, Rt.get R p = if off ≤ p ∧ p < off + data.length then data.getD (p - off) 0 else Rt.get v.root p) ∧ ∃ r, R = some r ∧ r.1 = levelOf S := by
    rw [← hR]
    cases hr : v.root with
    | none =>
      show Rt.Ok (atRoot _ _).1 ∧ (∀ p, Rt.get (atRoot _ _).1 p = _) ∧ _
      refine ⟨atRoot_ok _ _ (write_ok _ _ _ _ _ _ _ (none_ok _)), fun p => ?_, ?_⟩
      · rw [atRoot_get]
        by_cases hp : p < room (levelOf S)
        · rw [if_pos hp, write_get _ _ _ _ _ _ _ (none_ok _) p hp, Nat.zero_add]
          split
          · rfl
          · rw [T.get_none]; rfl
        · rw [if_neg hp, if_neg (by omega)]; rfl
      · obtain ⟨t', ht'⟩ := write_some f.vers.length off data (levelOf S) 0 none f.made (by omega)
        exact ⟨⟨levelOf S, t'⟩, by show (atRoot _ _).1 = _; unfold atRoot; rw [ht']; rfl, rfl⟩
    | some r =>
      have hlv := hv.level r hr
      have hle : r.1 ≤ levelOf S := by rw [hlv]; exact levelOf_mono hS1
      obtain ⟨u, hu⟩ : ∃ u, raise f.vers.length (levelOf S - r.1) r f.made = u := ⟨_, rfl⟩
      have hul : u.1.1 = levelOf S := by rw [← hu, raise_level]; omega
      have hug : ∀ p, Rt.get (some u.1) p = Rt.get (some r) p := fun p => by rw [← hu, raise_get]
      have huo : Rt.Ok (some u.1) := by rw [← hu]; refine raise_ok _ _ _ _ ?_; have := hv.ok; rw [hr] at this; exact this
      show Rt.Ok (atRoot (raise f.vers.length (levelOf S - r.1) r f.made).1.1 (T.write f.vers.length off data (raise f.vers.length (levelOf S - r.1) r f.made).1.1 0 (some (raise f.vers.length (levelOf S - r.1) r f.made).1.2) (raise f.vers.length (levelOf S - r.1) r f.made).2)).1 ∧ (∀ p, Rt.get (atRoot (raise f.vers.length (levelOf S - r.1) r f.made).1.1 (T.write f.vers.length off data (raise f.vers.length (levelOf S - r.1) r f.made).1.1 0 (some (raise f.vers.length (levelOf S - r.1) r f.made).1.2) (raise f.vers.length (levelOf S - r.1) r f.made).2)).1 p = _) ∧ ∃ q, (atRoot (raise f.vers.length (levelOf S - r.1) r f.made).1.1 (T.write f.vers.length off data (raise f.vers.length (levelOf S - r.1) r f.made).1.1 0 (some (raise f.vers.length (levelOf S - r.1) r f.made).1.2) (raise f.vers.length (levelOf S - r.1) r f.made).2)).1 = some q ∧ q.1 = levelOf S
      rw [hu]
      obtain ⟨⟨n, t⟩, md⟩ := u
      simp only at hul
      subst hul
      have huo' : T.Ok (levelOf S) (some t) := huo
      refine ⟨atRoot_ok _ _ (write_ok _ _ _ _ _ _ _ huo'), fun p => ?_, ?_⟩
      · rw [atRoot_get, ← hug p]
        show (if p < room (levelOf S) then _ else _) = if _ then _ else (if p < room (levelOf S) then T.get _ (some t) p else 0)
        by_cases hp : p < room (levelOf S)
        · rw [if_pos hp, if_pos hp]
          have := write_get f.vers.length off data (levelOf S) 0 (some t) md huo' p hp
          rw [Nat.zero_add] at this
          exact this
        · rw [if_neg hp, if_neg hp, if_neg (by omega)]
      · obtain ⟨t', ht'⟩ := write_some f.vers.length off data (levelOf S) 0 (some t) md (by omega)
        exact ⟨⟨levelOf S, t'⟩, by unfold atRoot; rw [ht']; rfl, rfl⟩
  obtain ⟨k1, k2, r, k3, k4⟩ := key
  refine ⟨⟨k1, fun p hp => ?_, hS3, ⟨fun h => ?_, fun h => ?_⟩, fun q hq => ?_⟩, k2⟩
  · have hp' : S ≤ p := hp
    show Rt.get R p = 0
    rw [k2, if_neg (by omega)]
    exact hv.zero p (by omega)
  · have h' : R = none := h
    rw [k3] at h'; cases h'
  · have h' : S = 0 := h
    omega
  · have hq' : R = some q := hq
    rw [k3] at hq'
    obtain rfl := Option.some.inj hq'
    exact k4
/-- A resize: what is left, and zeros. -/
theorem resized_good (f : Fo) (v : Ver) (size : Nat) (hv : v.Good) (hs : size ≤ 4096) :
    (f.resized v size).1.Good ∧ (f.resized v size).1.size = size ∧ ∀ p, Rt.get (f.resized v size).1.root p = if p < size then Rt.get v.root p else 0 := by
  have hroom := levelOf_room hs
  have hc : Rt.Ok (cutRoot f.vers.length size v.root f.made).1 ∧ ∀ p, Rt.get (cutRoot f.vers.length size v.root f.made).1 p = if p < size then Rt.get v.root p else 0 := by
    have hok := hv.ok
    cases hr : v.root with
    | none => exact ⟨trivial, fun p => by show (0 : Int) = if p < size then 0 else 0; split <;> rfl⟩
    | some r =>
      rw [hr] at hok
      obtain ⟨n, t⟩ := r
      refine ⟨atRoot_ok _ _ (cut_ok _ _ _ _ _ _ hok), fun p => ?_⟩
      show Rt.get (atRoot n (T.cut f.vers.length size n 0 (some t) f.made)).1 p = if p < size then (if p < room n then T.get n (some t) p else 0) else 0
      rw [atRoot_get]
      by_cases hp : p < room n
      · rw [if_pos hp, if_pos hp, cut_get _ _ _ _ _ _ hok p hp, Nat.zero_add]
      · rw [if_neg hp, if_neg hp]; split <;> rfl
  have hl : Rt.Ok (lowered f.vers.length size v.root f.made) ∧ (∀ p, p < room (levelOf size) → Rt.get (lowered f.vers.length size v.root f.made) p = if p < size then Rt.get v.root p else 0) ∧ ∀ r, lowered f.vers.length size v.root f.made = some r → r.1 ≤ levelOf size := by
    unfold lowered
    obtain ⟨c, hcc⟩ : ∃ c, (cutRoot f.vers.length size v.root f.made).1 = c := ⟨_, rfl⟩
    rw [hcc] at hc ⊢
    cases c with
    | none => exact ⟨trivial, fun p hp => hc.2 p, fun r hr => by cases hr⟩
    | some r =>
      obtain ⟨n, t⟩ := r
      have hok : T.Ok n (some t) := hc.1
      refine ⟨(lower_get (levelOf size) n t 0 (room_pos _) hok).2.1, fun p hp => ?_, fun r hr => ?_⟩
      · show Rt.get (lower (levelOf size) n t) p = _
        rw [(lower_get (levelOf size) n t p hp hok).1]
        exact hc.2 p
      · have := (lower_get (levelOf size) n t 0 (room_pos _) hok).2.2 r hr
        omega
  unfold Fo.resized
  cases hq : lowered f.vers.length size v.root f.made with
  | none =>
    rw [hq] at hl
    have hz : ∀ p, (if p < size then Rt.get v.root p else 0) = 0 := fun p => by
      by_cases hp : p < room (levelOf size)
      · rw [← hl.2.1 p hp]; rfl
      · rw [if_neg (by omega)]
    by_cases h0 : 0 < size
    · show (if 0 < size then _ else _ : Ver × Nat).1.Good ∧ _
      rw [if_pos h0]
      obtain ⟨md, hmd⟩ : ∃ md, (cutRoot f.vers.length size v.root f.made).2 = md := ⟨_, rfl⟩
      rw [hmd]
      have hg : ∀ p, Rt.get (some ⟨levelOf size, T.fresh (levelOf size) f.vers.length md none⟩) p = 0 := fun p => by
        show (if p < room (levelOf size) then T.get _ (some (T.fresh (levelOf size) f.vers.length md none)) p else 0) = 0
        split
        · rename_i hp; rw [fresh_get _ _ _ _ p hp, T.get_none]
        · rfl
      refine ⟨⟨fresh_ok _ _ _ _ (none_ok _), fun p _ => hg p, hs, ⟨fun h => (by cases h), fun h => (by have h' : size = 0 := h; omega)⟩, fun r hr => by obtain rfl := Option.some.inj hr; rfl⟩, rfl, fun p => by rw [hz]; exact hg p⟩
    · show (if 0 < size then _ else _ : Ver × Nat).1.Good ∧ _
      rw [if_neg h0]
      refine ⟨⟨trivial, fun p _ => rfl, hs, ⟨fun _ => by show size = 0; omega, fun _ => rfl⟩, fun r hr => by cases hr⟩, rfl, fun p => by rw [hz]; rfl⟩
  | some r =>
    rw [hq] at hl
    have hle := hl.2.2 r rfl
    obtain ⟨md, hmd⟩ : ∃ md, (cutRoot f.vers.length size v.root f.made).2 = md := ⟨_, rfl⟩
    rw [hmd]
    have hg : ∀ p, Rt.get (some (raise f.vers.length (levelOf size - r.1) r md).1) p = if p < size then Rt.get v.root p else 0 := fun p => by
      rw [raise_get]
      by_cases hp : p < room (levelOf size)
      · exact hl.2.1 p hp
      · rw [if_neg (by omega)]
        obtain ⟨n, t⟩ := r
        show (if p < room n then _ else 0) = (0 : Int)
        have := room_mono hle
        rw [if_neg (by show ¬ p < room n; have h2 : room n ≤ room (levelOf size) := this; omega)]
    have h0 : 0 < size ∨ size = 0 := by omega
    have hsz : 0 < size := by
      rcases h0 with h | h
      · exact h
      · -- nothing is left of a tree of size 0
        exfalso
        subst h
        unfold lowered cutRoot at hq
        cases hr : v.root with
        | none => rw [hr] at hq; cases hq
        | some r0 =>
          rw [hr] at hq
          obtain ⟨n, t⟩ := r0
          have : (T.cut f.vers.length 0 n 0 (some t) f.made).1 = none := by cases n <;> (unfold T.cut; rw [if_pos (by omega)])
          simp only [atRoot, this] at hq
          cases hq
    refine ⟨⟨raise_ok _ _ _ _ hl.1, fun p hp => ?_, hs, ⟨fun h => (by cases h), fun h => ?_⟩, fun q hq' => ?_⟩, rfl, hg⟩
    · have hp' : size ≤ p := hp
      show Rt.get (some (raise f.vers.length (levelOf size - r.1) r md).1) p = 0
      rw [hg, if_neg (by omega)]
    · have h' : size = 0 := h
      omega
    · obtain rfl := Option.some.inj hq'
      show (raise f.vers.length (levelOf size - r.1) r md).1.1 = levelOf size
      rw [raise_level]; omega
end Go.Proofs.Ythjjfmnipemakaa
