/- Maps by names, plain; what a pool does. No program here. -/
import Derived.Maps.OwnSet
import Derived.Sort.KeysCollected
import Derived.Test.YtkbfohbpndjcpaaBase
namespace Go.Proofs.Ytkbfohbpndjcpaa
open Go.RowKit
set_option linter.unusedVariables false

abbrev Nm := List UInt8
abbrev PM (α : Type) := List (Nm × α)
def insP {α : Type} (x : Nm × α) : PM α → PM α
  | [] => [x]
  | y :: r => if bytesBefore x.1 y.1 then x :: y :: r else y :: insP x r
def delP {α : Type} (n : Nm) (m : PM α) : PM α := m.filter fun p => !(p.1 == n)
def putP {α : Type} (n : Nm) (x : α) (m : PM α) : PM α := insP (n, x) (delP n m)
def getP {α : Type} (n : Nm) (m : PM α) : Option α := (m.find? fun p => p.1 == n).map (·.2)
def hasP {α : Type} (n : Nm) (m : PM α) : Bool := m.any fun p => p.1 == n
def mapP {α β : Type} (g : α → β) (m : PM α) : PM β := m.map fun p => (p.1, g p.2)
def keysP {α : Type} (m : PM α) : List Nm := m.map fun p => p.1
def namesP {α : Type} (m : PM α) : List Nm := (keysP m).mergeSort (fun x y => decide (x ≤ y))

theorem mapP_ins {α β : Type} (g : α → β) (x : Nm × α) : ∀ m : PM α, mapP g (insP x m) = insP (x.1, g x.2) (mapP g m)
  | [] => rfl
  | y :: r => by
    show mapP g (if bytesBefore x.1 y.1 then x :: y :: r else y :: insP x r) = if bytesBefore x.1 y.1 then _ else _
    split
    · rfl
    · show (y.1, g y.2) :: mapP g (insP x r) = _
      rw [mapP_ins g x r]; rfl
theorem mapP_del {α β : Type} (g : α → β) (n : Nm) (m : PM α) : mapP g (delP n m) = delP n (mapP g m) := by
  unfold mapP delP; rw [List.filter_map]; rfl
theorem mapP_put {α β : Type} (g : α → β) (n : Nm) (x : α) (m : PM α) : mapP g (putP n x m) = putP n (g x) (mapP g m) := by
  unfold putP; rw [mapP_ins, mapP_del]
theorem getP_map {α β : Type} (g : α → β) (n : Nm) (m : PM α) : getP n (mapP g m) = (getP n m).map g := by
  unfold getP mapP; rw [List.find?_map]; cases h : m.find? ((fun p => p.1 == n) ∘ fun p => (p.1, g p.2)) with
  | none => rw [show m.find? (fun p => p.1 == n) = none from h]; rfl
  | some y => rw [show m.find? (fun p => p.1 == n) = some y from h]; rfl
theorem hasP_map {α β : Type} (g : α → β) (n : Nm) (m : PM α) : hasP n (mapP g m) = hasP n m := by
  unfold hasP mapP; rw [List.any_map]; rfl
theorem keysP_map {α β : Type} (g : α → β) (m : PM α) : keysP (mapP g m) = keysP m := by
  unfold keysP mapP; rw [List.map_map]; rfl
theorem namesP_map {α β : Type} (g : α → β) (m : PM α) : namesP (mapP g m) = namesP m := by unfold namesP; rw [keysP_map]
theorem mapP_length {α β : Type} (g : α → β) (m : PM α) : (mapP g m).length = m.length := by unfold mapP; rw [List.length_map]
theorem hasP_get {α : Type} (n : Nm) : ∀ m : PM α, hasP n m = (getP n m).isSome
  | [] => rfl
  | y :: r => by
    show ((y.1 == n) || hasP n r) = (((y :: r).find? fun p => p.1 == n).map (·.2)).isSome
    rw [List.find?_cons]
    cases h : (y.1 == n) with
    | true => rfl
    | false => simpa [getP] using hasP_get n r
theorem find_ins_hit {α : Type} {f : Nm × α → Bool} {x : Nm × α} (hx : f x = true) : ∀ m : PM α, (∀ p ∈ m, f p = false) → (insP x m).find? f = some x
  | [], _ => by show List.find? f [x] = _; rw [List.find?_cons, hx]
  | y :: r, h => by
    unfold insP
    split
    · rw [List.find?_cons, hx]
    · rw [List.find?_cons, h y (List.mem_cons_self ..)]; exact find_ins_hit hx r (fun p hp => h p (List.mem_cons_of_mem _ hp))
theorem find_ins_miss {α : Type} {f : Nm × α → Bool} {x : Nm × α} (hx : f x = false) : ∀ m : PM α, (insP x m).find? f = m.find? f
  | [] => by show List.find? f [x] = _; rw [List.find?_cons, hx]
  | y :: r => by
    unfold insP
    split
    · rw [List.find?_cons, hx]
    · rw [List.find?_cons, List.find?_cons]; split
      · rfl
      · exact find_ins_miss hx r
theorem getP_put_same {α : Type} (n : Nm) (x : α) (m : PM α) : getP n (putP n x m) = some x := by
  unfold getP putP
  rw [find_ins_hit (f := fun p => p.1 == n) (by simp) (delP n m) (fun p hp => by have := (List.mem_filter.1 hp).2; simpa using this)]; rfl
theorem find_del_other {α : Type} {n n' : Nm} (h : n' ≠ n) : ∀ m : PM α, (delP n m).find? (fun p => p.1 == n') = m.find? (fun p => p.1 == n')
  | [] => rfl
  | y :: r => by
    unfold delP
    rw [List.filter_cons]
    by_cases hy : y.1 = n'
    · have e : (!(y.1 == n)) = true := by simp; intro e; exact h (hy.symm.trans e)
      rw [if_pos e, List.find?_cons, List.find?_cons]; simp [hy]
    · have e2 : (y.1 == n') = false := by simpa using hy
      split
      · rw [List.find?_cons, List.find?_cons, e2]; exact find_del_other h r
      · rw [List.find?_cons, e2]; exact find_del_other h r
theorem getP_put_other {α : Type} {n n' : Nm} (h : n' ≠ n) (x : α) (m : PM α) : getP n' (putP n x m) = getP n' m := by
  unfold getP putP
  rw [find_ins_miss (f := fun p => p.1 == n') (by simp; exact fun e => h e.symm), find_del_other h]
theorem getP_del_same {α : Type} (n : Nm) (m : PM α) : getP n (delP n m) = none := by
  unfold getP delP
  rw [List.find?_eq_none.2 (fun p hp => by have := (List.mem_filter.1 hp).2; simpa using this)]; rfl
theorem getP_del_other {α : Type} {n n' : Nm} (h : n' ≠ n) (m : PM α) : getP n' (delP n m) = getP n' m := by unfold getP; rw [find_del_other h]
theorem mem_ins {α : Type} {x p : Nm × α} : ∀ {m : PM α}, p ∈ insP x m → p = x ∨ p ∈ m
  | [], h => .inl (List.mem_singleton.1 h)
  | y :: r, h => by
    unfold insP at h
    split at h
    · exact List.mem_cons.1 h
    · rcases List.mem_cons.1 h with h | h
      · exact .inr (h ▸ List.mem_cons_self ..)
      · rcases mem_ins h with h | h
        · exact .inl h
        · exact .inr (List.mem_cons_of_mem _ h)
theorem mem_delP {α : Type} {n : Nm} {p : Nm × α} {m : PM α} (h : p ∈ delP n m) : p ∈ m := (List.mem_filter.1 h).1
theorem mem_putP {α : Type} {n : Nm} {x : α} {p : Nm × α} {m : PM α} (h : p ∈ putP n x m) : p = (n, x) ∨ p ∈ m := by
  rcases mem_ins h with h | h
  · exact .inl h
  · exact .inr (mem_delP h)
theorem mem_getP {α : Type} {n : Nm} {x : α} {m : PM α} (h : getP n m = some x) : ∃ p ∈ m, p.1 = n ∧ p.2 = x := by
  unfold getP at h
  cases hf : m.find? (fun p => p.1 == n) with
  | none => rw [hf] at h; cases h
  | some p =>
    rw [hf] at h
    exact ⟨p, List.mem_of_find?_eq_some hf, by simpa using List.find?_some hf, by simpa using h⟩
theorem ins_length {α : Type} (x : Nm × α) : ∀ m : PM α, (insP x m).length = m.length + 1
  | [] => rfl
  | y :: r => by
    unfold insP
    split
    · rfl
    · rw [List.length_cons, ins_length x r, List.length_cons]
theorem del_length {α : Type} (n : Nm) (m : PM α) : (delP n m).length ≤ m.length := List.length_filter_le _ _
theorem del_length_has {α : Type} (n : Nm) : ∀ m : PM α, hasP n m = true → (delP n m).length + 1 ≤ m.length
  | [], h => by cases h
  | y :: r, h => by
    unfold delP
    rw [List.filter_cons]
    cases hy : (y.1 == n) with
    | true => simp only [Bool.not_true, Bool.false_eq_true, if_false, List.length_cons]; exact Nat.succ_le_succ (List.length_filter_le _ _)
    | false =>
      simp only [Bool.not_false, if_true, List.length_cons]
      have : hasP n r = true := by
        have h2 : ((y.1 == n) || hasP n r) = true := h
        rw [hy] at h2; exact h2
      exact Nat.succ_le_succ (del_length_has n r this)
theorem put_length {α : Type} (n : Nm) (x : α) (m : PM α) : (putP n x m).length ≤ m.length + 1 := by
  unfold putP; rw [ins_length]; have := del_length n m; omega
theorem put_length_has {α : Type} (n : Nm) (x : α) (m : PM α) (h : hasP n m = true) : (putP n x m).length ≤ m.length := by
  unfold putP; rw [ins_length]; exact del_length_has n m h

/-! the datum of such a map -/
def RV : Value → Option (DataW Value × List MemPlace) := fun v => some (.held v, [])
def datE {α : Type} (f : α → Value) (m : PM α) : List (Lit × DataW Value) := m.map fun p => (.string p.1, .held (f p.2))
def datP {α : Type} (f : α → Value) (m : PM α) : DataW Value := .map (datE f m)
theorem dat_has {α : Type} (f : α → Value) (n : Nm) (m : PM α) : Maps.has (datP f m) (.string n) = hasP n m := by
  unfold datP datE hasP; rw [Maps.has_eq, List.any_map]; rfl
theorem dat_size {α : Type} (f : α → Value) (m : PM α) : Maps.size (datP f m) = m.length := by
  unfold datP datE; rw [Maps.size_eq, List.length_map]
theorem dat_keys {α : Type} (f : α → Value) (m : PM α) : strKeys (datP f m) = keysP m := by
  show (datE f m).map (fun p => strOf p.1) = _
  unfold datE keysP; rw [List.map_map]; rfl
theorem dat_at {α : Type} (f : α → Value) (n : Nm) (m : PM α) (z : Value) : (datP f m).atKey (.string n) (.held z) = .held (match getP n m with | some x => f x | none => z) := by
  unfold datP DataW.atKey
  simp only
  unfold datE getP
  rw [List.find?_map]
  have e : ((fun p : Lit × DataW Value => p.1.sameKey (.string n)) ∘ fun p : Nm × α => (Lit.string p.1, DataW.held (f p.2))) = fun p => p.1 == n := rfl
  rw [e]
  cases m.find? (fun p => p.1 == n) <;> rfl
theorem dat_del {α : Type} (f : α → Value) (n : Nm) (m : PM α) : (datP f m).del (.string n) = datP f (delP n m) := by
  show DataW.map ((datE f m).filter fun p => !p.1.sameKey (.string n)) = DataW.map (datE f (delP n m))
  unfold datE delP; rw [List.filter_map]; rfl
theorem datE_ins {α : Type} (f : α → Value) (x : Nm × α) : ∀ m : PM α, DataW.insert (.string x.1, .held (f x.2)) (datE f m) = datE f (insP x m)
  | [] => rfl
  | y :: r => by
    show (if (Lit.string x.1).before (.string y.1) = true then _ else _ :: DataW.insert _ (datE f r)) = datE f (if bytesBefore x.1 y.1 then x :: y :: r else y :: insP x r)
    rw [datE_ins f x r]
    show (if bytesBefore x.1 y.1 = true then _ else _) = _
    split <;> rfl
theorem dat_put {α : Type} (f : α → Value) (n : Nm) (x : α) (m : PM α) : (datP f m).put (.string n) (.held (f x)) = datP f (putP n x m) := by
  show DataW.map (DataW.insert (.string n, .held (f x)) ((datE f m).filter fun p => !p.1.sameKey (.string n))) = _
  have e : (datE f m).filter (fun p => !p.1.sameKey (.string n)) = datE f (delP n m) := by unfold datE delP; rw [List.filter_map]; rfl
  rw [e, show DataW.insert (Lit.string n, DataW.held (f x)) (datE f (delP n m)) = datE f (insP (n, x) (delP n m)) from datE_ins f (n, x) _]; rfl

/-! what a pool does -/
structure Pl where
  objs : PM (List Int)
  snaps : PM (PM (List Int))
structure Cm where
  kind : Nat
  name : Nm
  other : Nm
  off : Nat
  count : Nat
  data : List Int
instance : Inhabited Cm := ⟨⟨12, [], [], 0, 0, []⟩⟩
structure Td where
  code : Nat
  size : Nat
  data : List Int
  names : List Nm
instance : Inhabited Td := ⟨⟨0, 0, [], []⟩⟩
def noP (e : Nat) : Td := ⟨e, 0, [], []⟩
def charOk (c : UInt8) : Bool := (97 ≤ c.toNat && c.toNat ≤ 122) || (48 ≤ c.toNat && c.toNat ≤ 57)
def nameOk (n : Nm) : Bool := n.all charOk && (1 ≤ n.length && n.length ≤ 8)
def roomP {α : Type} (m : PM α) (n : Nm) (most : Nat) : Nat := if nameOk n = false then 4 else if hasP n m then 7 else if m.length = most then 8 else 0
def readP (b : List Int) (off count : Nat) : List Int := (b.drop off).take count
def writeP (b : List Int) (off : Nat) (d : List Int) : List Int :=
  let z := b ++ List.replicate (off + d.length - b.length) 0
  z.take off ++ d ++ z.drop (off + d.length)
def sizeP (b : List Int) (n : Nat) : List Int := b.take n ++ List.replicate (n - b.length) 0
def fetchP (x : List Int) (c : Cm) : Td := ⟨0, x.length, readP x c.off c.count, []⟩
def objectP (s : Pl) (x : List Int) (c : Cm) : Td × Pl :=
  if c.kind = 3 then (fetchP x c, s)
  else if c.kind = 5 then (noP 0, { s with objs := delP c.name s.objs })
  else if c.kind = 2 then
    if c.off + c.data.length > 1024 then (noP 2, s) else (⟨0, (writeP x c.off c.data).length, [], []⟩, { s with objs := putP c.name (writeP x c.off c.data) s.objs })
  else if c.count > 1024 then (noP 2, s) else (⟨0, (sizeP x c.count).length, [], []⟩, { s with objs := putP c.name (sizeP x c.count) s.objs })
def snapP (s : Pl) (c : Cm) : Td × Pl :=
  if c.kind = 7 then (noP (roomP s.snaps c.other 3), if roomP s.snaps c.other 3 = 0 then { s with snaps := putP c.other s.objs s.snaps } else s)
  else match getP c.other s.snaps with
    | none => (noP 6, s)
    | some l =>
      if c.kind = 9 then (noP 0, { s with objs := l })
      else if c.kind = 10 then (noP 0, { s with snaps := delP c.other s.snaps })
      else match getP c.name l with
        | none => (noP 6, s)
        | some x => (fetchP x c, s)
def doP (s : Pl) (c : Cm) : Td × Pl :=
  if c.kind = 1 then (noP (roomP s.objs c.name 4), if roomP s.objs c.name 4 = 0 then { s with objs := putP c.name [] s.objs } else s)
  else if c.kind = 6 then (⟨0, 0, [], namesP s.objs⟩, s)
  else if c.kind = 11 then (⟨0, 0, [], namesP s.snaps⟩, s)
  else if 7 ≤ c.kind ∧ c.kind ≤ 10 then snapP s c
  else if c.kind = 12 then (noP 0, s)
  else match getP c.name s.objs with
    | none => (noP 6, s)
    | some x => objectP s x c
structure Cm.Ok (c : Cm) : Prop where
  lo : 1 ≤ c.kind
  hi : c.kind ≤ 12
  off : c.off ≤ 2000
  count : c.count ≤ 2000
  data : c.kind = 2 → 1 ≤ c.data.length ∧ c.data.length ≤ 400
  nlen : c.name.length ≤ 100
  olen : c.other.length ≤ 100
structure Pl.Ok (s : Pl) : Prop where
  objs : s.objs.length ≤ 4
  snaps : s.snaps.length ≤ 3
  len : ∀ p ∈ s.objs, p.2.length ≤ 1024
  shots : ∀ p ∈ s.snaps, p.2.length ≤ 4 ∧ ∀ q ∈ p.2, q.2.length ≤ 1024
def finP (s : Pl) : List Cm → Pl
  | [] => s
  | c :: cs => finP (doP s c).2 cs
def outsP (s : Pl) : List Cm → List Td
  | [] => []
  | c :: cs => (doP s c).1 :: outsP (doP s c).2 cs
def pl0 : Pl := ⟨[], []⟩
theorem finP_append (s : Pl) : ∀ (xs ys : List Cm), finP s (xs ++ ys) = finP (finP s xs) ys := by
  intro xs
  induction xs generalizing s with
  | nil => intro ys; rfl
  | cons x xs ih => intro ys; exact ih (doP s x).2 ys
theorem outsP_append (s : Pl) : ∀ (xs ys : List Cm), outsP s (xs ++ ys) = outsP s xs ++ outsP (finP s xs) ys := by
  intro xs
  induction xs generalizing s with
  | nil => intro ys; rfl
  | cons x xs ih => intro ys; exact congrArg ((doP s x).1 :: ·) (ih (doP s x).2 ys)
theorem outsP_length (s : Pl) : ∀ (xs : List Cm), (outsP s xs).length = xs.length := by
  intro xs
  induction xs generalizing s with
  | nil => rfl
  | cons x xs ih => show _ + 1 = _ + 1; rw [ih]
theorem writeP_length (b : List Int) (off : Nat) (d : List Int) : (writeP b off d).length = max b.length (off + d.length) := by
  unfold writeP; simp only [List.length_append, List.length_take, List.length_drop, List.length_replicate]; omega
theorem sizeP_length (b : List Int) (n : Nat) : (sizeP b n).length = n := by
  unfold sizeP; simp only [List.length_append, List.length_take, List.length_replicate]; omega
theorem doP_ok {s : Pl} {c : Cm} (h : s.Ok) (hc : c.Ok) : (doP s c).2.Ok := by
  have putOk : ∀ (n : Nm) (x : List Int), x.length ≤ 1024 → (putP n x s.objs).length ≤ 4 → Pl.Ok { s with objs := putP n x s.objs } := fun n x hx hl =>
    ⟨hl, h.snaps, fun p hp => by
      rcases mem_putP hp with rfl | hp
      · exact hx
      · exact h.len p hp, h.shots⟩
  unfold doP
  split
  · show Pl.Ok (if _ then _ else _)
    split
    · rename_i hr
      refine putOk _ _ (by simp) ?_
      have := put_length c.name ([] : List Int) s.objs
      unfold roomP at hr
      split at hr
      · omega
      · split at hr
        · omega
        · split at hr
          · omega
          · have := h.objs; omega
    · exact h
  split
  · exact h
  split
  · exact h
  split
  · unfold snapP
    split
    · show Pl.Ok (if _ then _ else _)
      split
      · rename_i hr
        refine ⟨h.objs, ?_, h.len, fun p hp => ?_⟩
        · have := put_length c.other s.objs s.snaps
          show (putP c.other s.objs s.snaps).length ≤ 3
          unfold roomP at hr
          split at hr
          · omega
          · split at hr
            · omega
            · split at hr
              · omega
              · have := h.snaps; omega
        · rcases mem_putP hp with rfl | hp
          · exact ⟨h.objs, h.len⟩
          · exact h.shots p hp
      · exact h
    · split
      · exact h
      · rename_i l hl
        obtain ⟨p, hp, _, rfl⟩ := mem_getP hl
        split
        · exact ⟨(h.shots p hp).1, h.snaps, (h.shots p hp).2, h.shots⟩
        · split
          · exact ⟨h.objs, Nat.le_trans (del_length _ _) h.snaps, h.len, fun q hq => h.shots q (mem_delP hq)⟩
          · split <;> exact h
  split
  · exact h
  · split
    · exact h
    · rename_i x hx
      have hh : hasP c.name s.objs = true := by rw [hasP_get, hx]; rfl
      obtain ⟨p, hp, _, rfl⟩ := mem_getP hx
      have hpl := h.len p hp
      unfold objectP
      split
      · exact h
      split
      · exact ⟨Nat.le_trans (del_length _ _) h.objs, h.snaps, fun q hq => h.len q (mem_delP hq), h.shots⟩
      split
      · split
        · exact h
        · refine putOk _ _ (by rw [writeP_length]; omega) (Nat.le_trans (put_length_has _ _ _ hh) h.objs)
      · split
        · exact h
        · refine putOk _ _ (by rw [sizeP_length]; omega) (Nat.le_trans (put_length_has _ _ _ hh) h.objs)
theorem pl0_ok : pl0.Ok := ⟨Nat.zero_le _, Nat.zero_le _, fun p hp => (List.not_mem_nil hp).elim, fun p hp => (List.not_mem_nil hp).elim⟩
theorem finP_ok : ∀ (cs : List Cm) (s : Pl), s.Ok → (∀ c ∈ cs, c.Ok) → (finP s cs).Ok
  | [], s, h, _ => h
  | c :: cs, s, h, hc => finP_ok cs _ (doP_ok h (hc c (List.mem_cons_self ..))) (fun x hx => hc x (List.mem_cons_of_mem _ hx))
end Go.Proofs.Ytkbfohbpndjcpaa
