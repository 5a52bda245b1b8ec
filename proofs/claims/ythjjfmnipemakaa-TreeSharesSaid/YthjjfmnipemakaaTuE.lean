/- Births: no kid is younger than its node. -/
import Derived.Test.YthjjfmnipemakaaTsC
namespace Go.Proofs.Ythjjfmnipemakaa
set_option linter.unusedVariables false

def T.Bir (b : Nat) : (n : Nat) → Option (T n) → Prop
  | _, none => True
  | 0, some t => Lf.birth t ≤ b
  | n + 1, some t => In.birth t ≤ b ∧ ∀ k ∈ In.kids t, T.Bir (In.birth t) n k
theorem bir_none (b n : Nat) : T.Bir b n none := by cases n <;> trivial
theorem bir_mono {b b' : Nat} (h : b ≤ b') : ∀ (n : Nat) (t : Option (T n)), T.Bir b n t → T.Bir b' n t
  | n, none, _ => bir_none b' n
  | 0, some t, ht => Nat.le_trans (show Lf.birth t ≤ b from ht) h
  | n + 1, some t, ht => ⟨Nat.le_trans ht.1 h, ht.2⟩
theorem bir_le {b n : Nat} {t : T n} (h : T.Bir b n (some t)) : T.birthOf t ≤ b := by
  cases n with
  | zero => exact h
  | succ n => exact h.1
theorem bir_fresh (cur made n : Nat) (t : Option (T (n + 1))) (h : T.Bir cur (n + 1) t) : ∀ k ∈ In.kids (T.fresh (n + 1) cur made t), T.Bir cur n k := by
  cases t with
  | none =>
    intro k hk
    have : k = none := by simpa [T.fresh] using hk
    subst this; exact bir_none cur n
  | some t => exact fun k hk => bir_mono h.1 n k (h.2 k hk)
theorem mapA_all {α : Type} (P : Option α → Prop) (f : Nat → Option α → Nat → Option α × Nat) : ∀ (ks : List (Option α)) (i m : Nat), (∀ k ∈ ks, ∀ i m, P (f i k m).1) → ∀ k ∈ (mapA f i ks m).1, P k
  | [], i, m, _ => fun k hk => by simp [mapA] at hk
  | k :: ks, i, m, h => fun q hq => by
    rcases List.mem_cons.1 (show q ∈ (f i k m).1 :: (mapA f (i + 1) ks (f i k m).2).1 from hq) with rfl | hq
    · exact h k (List.mem_cons_self ..) i m
    · exact mapA_all P f ks (i + 1) _ (fun k hk => h k (List.mem_cons_of_mem _ hk)) q hq
theorem bir_write (cur off : Nat) (data : List Int) : ∀ (n base : Nat) (t : Option (T n)) (m : Nat), T.Bir cur n t → T.Bir cur n (T.write cur off data n base t m).1
  | 0, base, t, m, h => by
    unfold T.write
    split
    · exact h
    · split
      · exact Nat.le_refl _
      · cases t with
        | none => trivial
        | some t => exact h
  | n + 1, base, t, m, h => by
    unfold T.write
    split
    · exact h
    · split
      · refine ⟨Nat.le_refl _, ?_⟩
        exact mapA_all (T.Bir cur n) _ _ _ _ (fun k hk i m => bir_write cur off data n _ k m (bir_fresh cur _ n t h k hk))
      · cases t with
        | none => trivial
        | some t =>
          rename_i hb
          have hc : In.birth t = cur := by
            have h1 := h.1
            have h2 : ¬ In.birth t < cur := fun e => hb (by show decide (In.birth t < cur) = true; simpa using e)
            omega
          refine ⟨h.1, ?_⟩
          show ∀ k ∈ _, T.Bir (In.birth t) n k
          rw [hc]
          refine mapA_all (T.Bir cur n) _ _ _ _ (fun k hk i m => bir_write cur off data n _ k m ?_)
          have := h.2 k hk
          rw [hc] at this
          exact this
theorem bir_cut (cur e : Nat) : ∀ (n base : Nat) (t : Option (T n)) (m : Nat), T.Bir cur n t → T.Bir cur n (T.cut cur e n base t m).1
  | n, base, none, m, _ => by cases n <;> exact bir_none cur _
  | 0, base, some t, m, h => by
    unfold T.cut
    split
    · trivial
    · split
      · exact h
      · exact Nat.le_refl _
  | n + 1, base, some t, m, h => by
    unfold T.cut
    split
    · trivial
    · split
      · exact h
      · refine ⟨Nat.le_refl _, ?_⟩
        exact mapA_all (T.Bir cur n) _ _ _ _ (fun k hk i m => bir_cut cur e n _ k m (bir_mono h.1 n k (h.2 k hk)))
def Rt.Bir (b : Nat) (r : Option Rt) : Prop := match r with
  | none => True
  | some r => T.Bir b r.1 (some r.2)
theorem rbir_mono {b b' : Nat} (h : b ≤ b') (r : Option Rt) (hr : Rt.Bir b r) : Rt.Bir b' r := by
  cases r with
  | none => trivial
  | some r => exact bir_mono h r.1 _ hr
theorem bir_raise (cur : Nat) : ∀ (k : Nat) (r : Rt) (made : Nat), Rt.Bir cur (some r) → Rt.Bir cur (some (raise cur k r made).1)
  | 0, _, _, h => h
  | k + 1, r, made, h => by
    rw [raise]
    refine bir_raise cur k _ _ ⟨Nat.le_refl _, fun q hq => ?_⟩
    have hq' : q ∈ ([some r.2, none, none, none] : List (Option (T r.1))) := hq
    rcases List.mem_cons.1 hq' with rfl | hq'
    · exact h
    · have : q = none := by simpa using hq'
      subst this; exact bir_none _ _
theorem bir_lower (b level : Nat) : ∀ (n : Nat) (t : T n), T.Bir b n (some t) → Rt.Bir b (lower level n t)
  | 0, t, h => h
  | n + 1, t, h => by
    unfold lower
    split
    · exact h
    · rw [List.getD_eq_getElem?_getD]
      cases hq : (In.kids t)[0]? with
      | none => trivial
      | some k =>
        cases k with
        | none => trivial
        | some k => exact bir_lower b level n k (bir_mono h.1 n _ (h.2 _ (List.mem_of_getElem? hq)))
theorem bir_atRoot (b n : Nat) (x : Option (T n) × Nat) (h : T.Bir b n x.1) : Rt.Bir b (atRoot n x).1 := by
  obtain ⟨t, m⟩ := x
  cases t with
  | none => trivial
  | some t => exact h
theorem bir_wrote (f : Fo) (v : Ver) (off : Nat) (data : List Int) (h : Rt.Bir f.vers.length v.root) : Rt.Bir f.vers.length (f.wrote v off data).1.root := by
  show Rt.Bir _ (wrote _ _ _ _ _ _).1
  unfold wrote
  cases hr : v.root with
  | none => exact bir_atRoot _ _ _ (bir_write _ _ _ _ _ _ _ (bir_none _ _))
  | some r =>
    rw [hr] at h
    exact bir_atRoot _ _ _ (bir_write _ _ _ _ _ _ _ (bir_raise _ _ _ _ h))
theorem bir_resized (f : Fo) (v : Ver) (size : Nat) (h : Rt.Bir f.vers.length v.root) : Rt.Bir f.vers.length (f.resized v size).1.root := by
  have hc : Rt.Bir f.vers.length (cutRoot f.vers.length size v.root f.made).1 := by
    cases hr : v.root with
    | none => trivial
    | some r =>
      rw [hr] at h
      exact bir_atRoot _ _ _ (bir_cut _ _ _ _ _ _ h)
  have hl : Rt.Bir f.vers.length (lowered f.vers.length size v.root f.made) := by
    unfold lowered
    cases hq : (cutRoot f.vers.length size v.root f.made).1 with
    | none => trivial
    | some r => rw [hq] at hc; exact bir_lower _ _ _ _ hc
  unfold Fo.resized
  cases hq : lowered f.vers.length size v.root f.made with
  | none =>
    by_cases h0 : 0 < size
    · simp only [if_pos h0]
      have : ∀ n made, T.Bir f.vers.length n (some (T.fresh n f.vers.length made none)) := by
        intro n made
        cases n with
        | zero => exact Nat.le_refl _
        | succ n => exact ⟨Nat.le_refl _, bir_fresh _ _ _ none (bir_none _ _)⟩
      exact this _ _
    · simp only [if_neg h0]; trivial
  | some r =>
    rw [hq] at hl
    exact bir_raise _ _ _ _ hl
/-- Each version's nodes are no younger than the version. -/
def Fo.Bir (f : Fo) : Prop := ∀ i v, f.vers[i]? = some v → Rt.Bir i v.root
theorem fo0_bir : fo0.Bir := fun i v h => by
  have : v = ver0 := by
    have := List.mem_of_getElem? h
    exact List.mem_singleton.1 this
  subst this; trivial
theorem Fo.step_bir (f : Fo) (s : St) (h : f.Bir) (hs : s.Ok f.vers.length) : (f.step s).1.Bir := by
  have hv : f.vers[s.version]? = some (f.vers.getD s.version ver0) := by
    rw [List.getD_eq_getElem?_getD, List.getElem?_eq_getElem hs.version]; rfl
  have hb := rbir_mono (Nat.le_of_lt hs.version) _ (h _ _ hv)
  have push : ∀ x : Ver × Nat, Rt.Bir f.vers.length x.1.root → (f.push x).Bir := fun x hx i v hi => by
    have hi' : (f.vers ++ [x.1])[i]? = some v := hi
    by_cases hl : i < f.vers.length
    · rw [List.getElem?_append_left hl] at hi'; exact h i v hi'
    · have h1 := (List.getElem?_eq_some_iff.1 hi').1
      simp at h1
      obtain rfl : i = f.vers.length := by omega
      rw [List.getElem?_append_right (by omega)] at hi'
      simp at hi'
      subst hi'; exact hx
  unfold Fo.step
  by_cases h1 : s.kind = 1
  · rw [if_pos h1]; exact push _ (bir_wrote f _ _ _ hb)
  · rw [if_neg h1]
    by_cases h2 : s.kind = 2
    · rw [if_pos h2]; exact push _ (bir_resized f _ _ hb)
    · rw [if_neg h2]; exact h
theorem Fo.fin_bir : ∀ (ss : List St) (f : Fo), f.Bir → f.Okays ss → (f.fin ss).Bir
  | [], f, h, _ => h
  | s :: ss, f, h, hs => fin_bir ss (f.step s).1 (Fo.step_bir f s h hs.1) hs.2
theorem verAt_bir (ss : List St) (h : fo0.Okays ss) (i : Nat) : Rt.Bir i (verAt ss i).root := by
  unfold verAt
  rw [List.getD_eq_getElem?_getD]
  cases hq : (fo0.fin ss).vers[i]? with
  | none => trivial
  | some v => exact Fo.fin_bir ss fo0 fo0_bir h i v hq
end Go.Proofs.Ythjjfmnipemakaa
