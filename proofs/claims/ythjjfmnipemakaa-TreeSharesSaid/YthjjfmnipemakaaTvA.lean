/- What a write leaves alone, told by places. -/
import Derived.Test.YthjjfmnipemakaaTuE
namespace Go.Proofs.Ythjjfmnipemakaa
set_option linter.unusedVariables false

/-- A node at its place. -/
structure Pl where
  level : Nat
  base : Nat
  id : Nat
  birth : Nat
  data : List Int
def kpl {α : Type} (f : Nat → α → List Pl) : Nat → List (Option α) → List Pl
  | _, [] => []
  | i, none :: ks => kpl f (i + 1) ks
  | i, some k :: ks => f i k ++ kpl f (i + 1) ks
def T.pl : (n base : Nat) → T n → List Pl
  | 0, base, t => [⟨0, base, Lf.id t, Lf.birth t, Lf.data t⟩]
  | n + 1, base, t => ⟨n + 1, base, In.id t, In.birth t, []⟩ :: kpl (fun i k => T.pl n (base + i * room n) k) 0 (In.kids t)
def opl (n base : Nat) (t : Option (T n)) : List Pl := match t with
  | none => []
  | some t => T.pl n base t
theorem mem_kpl {α : Type} {f : Nat → α → List Pl} {x : Pl} : ∀ {ks : List (Option α)} {i : Nat}, x ∈ kpl f i ks ↔ ∃ j k, ks[j]? = some (some k) ∧ x ∈ f (i + j) k
  | [], i => by simp [kpl]
  | none :: ks, i => by
    show x ∈ kpl f (i + 1) ks ↔ _
    rw [mem_kpl]
    constructor
    · rintro ⟨j, k, h, hx⟩
      exact ⟨j + 1, k, by simpa using h, by rw [show i + (j + 1) = i + 1 + j by omega]; exact hx⟩
    · rintro ⟨j, k, h, hx⟩
      cases j with
      | zero => simp at h
      | succ j => exact ⟨j, k, by simpa using h, by rw [show i + 1 + j = i + (j + 1) by omega]; exact hx⟩
  | some y :: ks, i => by
    show x ∈ f i y ++ kpl f (i + 1) ks ↔ _
    rw [List.mem_append, mem_kpl]
    constructor
    · rintro (hx | ⟨j, k, h, hx⟩)
      · exact ⟨0, y, rfl, hx⟩
      · exact ⟨j + 1, k, by simpa using h, by rw [show i + (j + 1) = i + 1 + j by omega]; exact hx⟩
    · rintro ⟨j, k, h, hx⟩
      cases j with
      | zero =>
        have : y = k := by simpa using h
        subst this; exact .inl hx
      | succ j => exact .inr ⟨j, k, by simpa using h, by rw [show i + 1 + j = i + (j + 1) by omega]; exact hx⟩
theorem mem_pl {n base : Nat} {t : T (n + 1)} {x : Pl} : x ∈ T.pl (n + 1) base t ↔ x = ⟨n + 1, base, In.id t, In.birth t, []⟩ ∨ ∃ j k, (In.kids t)[j]? = some (some k) ∧ x ∈ T.pl n (base + j * room n) k := by
  show x ∈ _ :: _ ↔ _
  rw [List.mem_cons, mem_kpl]
  simp only [Nat.zero_add]
theorem pl_in : ∀ (n base : Nat) (t : T n), T.Ok n (some t) → ∀ x ∈ T.pl n base t, base ≤ x.base ∧ x.base + room x.level ≤ base + room n ∧ x.level ≤ n
  | 0, base, t, _, x, hx => by
    obtain rfl := List.mem_singleton.1 hx
    exact ⟨Nat.le_refl _, Nat.le_refl _, Nat.le_refl _⟩
  | n + 1, base, t, hok, x, hx => by
    rcases mem_pl.1 hx with rfl | ⟨j, k, hj, hx⟩
    · exact ⟨Nat.le_refl _, Nat.le_refl _, Nat.le_refl _⟩
    · obtain ⟨h1, h2, h3⟩ := pl_in n _ k (hok.2 _ (List.mem_of_getElem? hj)) x hx
      have hj4 : j < 4 := by have := (List.getElem?_eq_some_iff.1 hj).1; have := hok.1; omega
      have hm : (j + 1) * room n ≤ 4 * room n := Nat.mul_le_mul_right _ hj4
      rw [Nat.add_mul, Nat.one_mul] at hm
      have hs := room_succ n
      exact ⟨by omega, by omega, by omega⟩
/-- Above a level all nodes are new, below it they are old. -/
def T.Mix (cur c top : Nat) : (n : Nat) → Option (T n) → Prop
  | _, none => True
  | 0, some t => Lf.birth t ≤ c
  | n + 1, some t => if n + 1 ≤ top then T.Bir c (n + 1) (some t) else In.birth t = cur ∧ ∀ k ∈ In.kids t, T.Mix cur c top n k
theorem mix_none (cur c top n : Nat) : T.Mix cur c top n none := by cases n <;> trivial
theorem mix_bir {cur c top n : Nat} (h : n ≤ top) {t : Option (T n)} (ht : T.Bir c n t) : T.Mix cur c top n t := by
  cases t with
  | none => exact mix_none ..
  | some t =>
    cases n with
    | zero => exact ht
    | succ n => unfold T.Mix; rw [if_pos h]; exact ht
theorem pl_bir {c : Nat} : ∀ (n base : Nat) (t : T n), T.Bir c n (some t) → ∀ x ∈ T.pl n base t, x.birth ≤ c
  | 0, base, t, h, x, hx => by obtain rfl := List.mem_singleton.1 hx; exact h
  | n + 1, base, t, h, x, hx => by
    rcases mem_pl.1 hx with rfl | ⟨j, k, hj, hx⟩
    · exact h.1
    · exact pl_bir n _ k (bir_mono h.1 n _ (h.2 _ (List.mem_of_getElem? hj))) x hx
theorem pl_mix {cur c top : Nat} : ∀ (n base : Nat) (t : T n), T.Ok n (some t) → T.Mix cur c top n (some t) → ∀ x ∈ T.pl n base t, (top < x.level ∧ x.birth = cur) ∨ (x.level ≤ top ∧ x.birth ≤ c)
  | 0, base, t, _, h, x, hx => by obtain rfl := List.mem_singleton.1 hx; exact .inr ⟨Nat.zero_le _, h⟩
  | n + 1, base, t, hok, h, x, hx => by
    unfold T.Mix at h
    by_cases hn : n + 1 ≤ top
    · rw [if_pos hn] at h
      exact .inr ⟨Nat.le_trans (pl_in _ base t hok x hx).2.2 hn, pl_bir _ base t h x hx⟩
    · rw [if_neg hn] at h
      rcases mem_pl.1 hx with rfl | ⟨j, k, hj, hx⟩
      · exact .inl ⟨Nat.lt_of_not_le hn, h.1⟩
      · exact pl_mix n _ k (hok.2 _ (List.mem_of_getElem? hj)) (h.2 _ (List.mem_of_getElem? hj)) x hx
def Touched (off len : Nat) (x : Pl) : Prop := x.base < off + len ∧ off < x.base + room x.level
def Shares (cur off len top : Nat) (old : List Pl) (x : Pl) : Prop := (x.birth = cur ∧ (Touched off len x ∨ top < x.level)) ∨ (x.birth < cur ∧ ¬ Touched off len x ∧ x.level ≤ top ∧ x ∈ old)
theorem Shares.mono {cur off len top : Nat} {old old' : List Pl} {x : Pl} (h : Shares cur off len top old x) (ho : x.level ≤ top → x ∈ old → x ∈ old') : Shares cur off len top old' x := by
  rcases h with h | ⟨h1, h2, h3, h4⟩
  · exact .inl h
  · exact .inr ⟨h1, h2, h3, ho h3 h4⟩
theorem mapA_at {α : Type} (f : Nat → Option α → Nat → Option α × Nat) {ks : List (Option α)} {m j : Nat} {q : Option α} (h : (mapA f 0 ks m).1[j]? = some q) : ∃ k m', ks[j]? = some k ∧ q = (f j k m').1 := by
  have hj := (List.getElem?_eq_some_iff.1 h).1
  rw [mapA_length] at hj
  obtain ⟨m', hm⟩ := mapA_get f ks 0 m j hj
  rw [List.getD_eq_getElem?_getD, h, Nat.zero_add] at hm
  refine ⟨ks[j], m', List.getElem?_eq_getElem hj, ?_⟩
  have e : ks.getD j none = ks[j] := by rw [List.getD_eq_getElem?_getD, List.getElem?_eq_getElem hj]; rfl
  rw [e] at hm
  exact hm
theorem write_shares {cur c top off : Nat} {data : List Int} (hc : c < cur) (hd : 0 < data.length) : ∀ (n base : Nat) (t : Option (T n)) (made : Nat), T.Ok n t → T.Mix cur c top n t → ∀ x ∈ opl n base (T.write cur off data n base t made).1, Shares cur off data.length top (opl n base t) x := by
  have away : ∀ (n base : Nat) (t : Option (T n)), (off ≥ base + room n ∨ off + data.length ≤ base) → T.Ok n t → T.Mix cur c top n t → ∀ x ∈ opl n base t, Shares cur off data.length top (opl n base t) x := by
    intro n base t h hok hm x hx
    cases t with
    | none => cases hx
    | some t =>
      obtain ⟨h1, h2, h3⟩ := pl_in n base t hok x hx
      rcases pl_mix n base t hok hm x hx with ⟨h4, h5⟩ | ⟨h4, h5⟩
      · exact .inl ⟨h5, .inr h4⟩
      · refine .inr ⟨by omega, fun ⟨e1, e2⟩ => ?_, h4, hx⟩
        omega
  intro n
  induction n with
  | zero =>
    intro base t made hok hm x hx
    unfold T.write at hx
    by_cases h1 : off ≥ base + room 0 ∨ off + data.length ≤ base
    · rw [if_pos h1] at hx; exact away 0 base t h1 hok hm x hx
    · rw [if_neg h1] at hx
      have hto : ∀ y : Pl, y.level = 0 → y.base = base → Touched off data.length y := fun y e1 e2 => by unfold Touched; rw [e1, e2]; omega
      by_cases h2 : t.all (fun t => decide (T.birthOf t < cur)) = true
      · rw [if_pos h2] at hx
        obtain rfl := List.mem_singleton.1 hx
        exact .inl ⟨rfl, .inl (hto _ rfl rfl)⟩
      · cases t with
        | none => exact absurd rfl h2
        | some t =>
          exfalso
          apply h2
          show decide (Lf.birth t < cur) = true
          have : Lf.birth t ≤ c := hm
          simp; omega
  | succ n ih =>
    intro base t made hok hm x hx
    unfold T.write at hx
    by_cases h1 : off ≥ base + room (n + 1) ∨ off + data.length ≤ base
    · rw [if_pos h1] at hx; exact away (n + 1) base t h1 hok hm x hx
    · rw [if_neg h1] at hx
      have hto : ∀ y : Pl, y.level = n + 1 → y.base = base → Touched off data.length y := fun y e1 e2 => by unfold Touched; rw [e1, e2]; omega
      by_cases h2 : t.all (fun t => decide (T.birthOf t < cur)) = true
      · rw [if_pos h2] at hx
        rcases mem_pl.1 hx with rfl | ⟨j, k, hj, hx2⟩
        · exact .inl ⟨rfl, .inl (hto _ rfl rfl)⟩
        · obtain ⟨k0, m', hk0, hq⟩ := mapA_at _ (show (mapA _ 0 _ _).1[j]? = some (some k) from hj)
          cases t with
          | none =>
            have hk0' : ([none, none, none, none] : List (Option (T n)))[j]? = some k0 := hk0
            have : k0 = none := by
              have := List.mem_of_getElem? hk0'
              simpa using this
            subst this
            have := ih (base + j * room n) none m' (by cases n <;> trivial) (mix_none ..) x (by rw [← hq]; exact hx2)
            exact this.mono (fun _ h => by cases h)
          | some t =>
            have hb : In.birth t < cur := by
              have : decide (In.birth t < cur) = true := h2
              simpa using this
            unfold T.Mix at hm
            by_cases hn : n + 1 ≤ top
            · rw [if_pos hn] at hm
              have hk0' : (In.kids t)[j]? = some k0 := hk0
              have hkm := List.mem_of_getElem? hk0'
              have := ih (base + j * room n) k0 m' (hok.2 _ hkm) (mix_bir (by omega) (bir_mono hm.1 n _ (hm.2 _ hkm))) x (by rw [← hq]; exact hx2)
              refine this.mono (fun _ h => ?_)
              cases k0 with
              | none => cases h
              | some k0 => exact mem_pl.2 (.inr ⟨j, k0, hk0', h⟩)
            · rw [if_neg hn] at hm
              have := hm.1
              omega
      · rw [if_neg h2] at hx
        cases t with
        | none => exact absurd rfl h2
        | some t =>
          have hb : ¬ In.birth t < cur := fun e => h2 (by show decide (In.birth t < cur) = true; simpa using e)
          unfold T.Mix at hm
          by_cases hn : n + 1 ≤ top
          · rw [if_pos hn] at hm
            have := hm.1
            omega
          · rw [if_neg hn] at hm
            rcases mem_pl.1 hx with rfl | ⟨j, k, hj, hx2⟩
            · exact .inl ⟨hm.1, .inr (Nat.lt_of_not_le hn)⟩
            · obtain ⟨k0, m', hk0, hq⟩ := mapA_at _ (show (mapA _ 0 (In.kids t) _).1[j]? = some (some k) from hj)
              have hkm := List.mem_of_getElem? hk0
              have := ih (base + j * room n) k0 m' (hok.2 _ hkm) (hm.2 _ hkm) x (by rw [← hq]; exact hx2)
              refine this.mono (fun _ h => ?_)
              cases k0 with
              | none => cases h
              | some k0 => exact mem_pl.2 (.inr ⟨j, k0, hk0, h⟩)
def plR (r : Option Rt) : List Pl := match r with
  | none => []
  | some r => T.pl r.1 0 r.2
theorem up_mix {cur c top : Nat} (made : Nat) (r : Rt) (hl : top ≤ r.1) (h : T.Mix cur c top r.1 (some r.2)) : T.Mix cur c top (upOf cur made r).1 (some (upOf cur made r).2) := by
  obtain ⟨n, t⟩ := r
  have hl' : top ≤ n := hl
  show T.Mix cur c top (n + 1) (some (⟨made + 1, cur, [some t, none, none, none]⟩ : In (T n)))
  unfold T.Mix
  rw [if_neg (by omega)]
  refine ⟨rfl, fun q hq => ?_⟩
  have hq' : q ∈ ([some t, none, none, none] : List (Option (T n))) := hq
  rcases List.mem_cons.1 hq' with rfl | hq'
  · exact h
  · have : q = none := by simpa using hq'
    subst this; exact mix_none ..
theorem raise_mix {cur c top : Nat} : ∀ (k : Nat) (r : Rt) (made : Nat), top ≤ r.1 → T.Mix cur c top r.1 (some r.2) → T.Mix cur c top (raise cur k r made).1.1 (some (raise cur k r made).1.2)
  | 0, _, _, _, h => h
  | k + 1, r, made, hl, h => by
    rw [raise]
    exact raise_mix k _ _ (by show top ≤ r.1 + 1; omega) (up_mix made r hl h)
theorem raise_pl {cur top : Nat} : ∀ (k : Nat) (r : Rt) (made : Nat), top ≤ r.1 → ∀ x ∈ plR (some (raise cur k r made).1), x.level ≤ top → x ∈ plR (some r)
  | 0, _, _, _, x, h, _ => h
  | k + 1, r, made, hl, x, h, hx => by
    rw [raise] at h
    have := raise_pl k _ _ (by show top ≤ r.1 + 1; omega) x h hx
    rcases mem_pl.1 (show x ∈ T.pl (r.1 + 1) 0 _ from this) with rfl | ⟨j, q, hj, hq⟩
    · exfalso
      have : r.1 + 1 ≤ top := hx
      omega
    · have hj' : ([some r.2, none, none, none] : List (Option (T r.1)))[j]? = some (some q) := hj
      match j, hj' with
      | 0, hj' =>
        have : r.2 = q := by simpa using hj'
        subst this
        rw [Nat.zero_mul] at hq
        exact hq
      | 1, hj' => simp at hj'
      | 2, hj' => simp at hj'
      | 3, hj' => simp at hj'
      | j + 4, hj' => simp at hj'
/-- The level of the old root, as the statement takes it. -/
def topOf (r : Option Rt) : Nat := match r with
  | none => 100
  | some r => r.1
theorem atRoot_pl (n : Nat) (x : Option (T n) × Nat) : plR (atRoot n x).1 = opl n 0 x.1 := by
  obtain ⟨t, m⟩ := x
  cases t <;> rfl
theorem wrote_shares {cur c level off : Nat} {data : List Int} {r : Option Rt} (made : Nat) (hc : c < cur) (hd : 0 < data.length) (hl : level ≤ 100) (hok : Rt.Ok r) (hb : Rt.Bir c r) : ∀ x ∈ plR (wrote cur level off data r made).1, Shares cur off data.length (topOf r) (plR r) x := by
  cases r with
  | none =>
    intro x hx
    have hx' : x ∈ plR (atRoot level (T.write cur off data level 0 none made)).1 := hx
    rw [atRoot_pl] at hx'
    exact (write_shares hc hd level 0 none made (by cases level <;> trivial) (mix_none ..) x hx').mono (fun _ h => by cases h)
  | some r =>
    intro x hx
    have hx' : x ∈ plR (atRoot (raise cur (level - r.1) r made).1.1 (T.write cur off data (raise cur (level - r.1) r made).1.1 0 (some (raise cur (level - r.1) r made).1.2) (raise cur (level - r.1) r made).2)).1 := hx
    rw [atRoot_pl] at hx'
    have hm : T.Mix cur c r.1 r.1 (some r.2) := mix_bir (Nat.le_refl _) hb
    refine (write_shares hc hd _ 0 _ _ (raise_ok cur _ r made hok) (raise_mix _ r made (Nat.le_refl _) hm) x hx').mono (fun h1 h2 => ?_)
    exact raise_pl (level - r.1) r made (Nat.le_refl _) x h2 h1
theorem shares_law (ss : List St) (h : fo0.Okays ss) (hm : Makes ss) (v off : Nat) (data : List Int) (hv : v < ss.length + 1) (hd : 0 < data.length) : ∀ x ∈ plR (verAt (ss ++ [(⟨1, v, off, 0, data⟩ : St)]) (ss.length + 1)).root, Shares (ss.length + 1) off data.length (topOf (verAt ss v).root) (plR (verAt ss v).root) x := by
  have hcnt := fin_count ss hm
  obtain ⟨f, hf⟩ : ∃ f, fo0.fin ss = f := ⟨_, rfl⟩
  have e : verAt (ss ++ [(⟨1, v, off, 0, data⟩ : St)]) (ss.length + 1) = (f.wrote (f.vers.getD v ver0) off data).1 := by
    unfold verAt
    rw [Fo.fin_append, hf]
    show (f.vers ++ [_]).getD (ss.length + 1) ver0 = _
    rw [hf] at hcnt
    rw [List.getD_eq_getElem?_getD, List.getElem?_append_right (by omega), hcnt, Nat.sub_self]; rfl
  rw [e]
  have hva : verAt ss v = f.vers.getD v ver0 := by unfold verAt; rw [hf]
  rw [hf] at hcnt
  rw [hva, ← hcnt]
  have hg := verAt_good ss h v
  have hb := verAt_bir ss h v
  rw [hva] at hg hb
  intro x hx
  exact wrote_shares (r := (f.vers.getD v ver0).root) f.made (show v < f.vers.length by omega) hd (Nat.le_trans (levelOf_le _) (by decide)) hg.ok hb x hx
end Go.Proofs.Ythjjfmnipemakaa
