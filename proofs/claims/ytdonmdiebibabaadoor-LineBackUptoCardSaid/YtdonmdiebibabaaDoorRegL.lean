/- A region that draws its order: T is asked of the world only until the first of the late operations D (its stores) has come up; what is taken first comes ahead of these. -/
import Derived.OrdersHeld
import Derived.Deep.RegionHeld
namespace Go.Proofs.YtdonmdiebibabaaDoor
open Go
set_option linter.unusedVariables false
section
variable {P : Program} {ops : Array Oper} {Q : Exit → Act → World → Prop} {md : Region.Mode} {D : List Nat} {T : World → Prop}

/-- What has come up, has come up behind what it waits for. -/
def Closed (md : Region.Mode) (ops : Array Oper) (L : Array Bool) : Prop := ∀ j oj, ops[j]? = some oj → L.getD j false = true → ∀ e ∈ oj.after, Region.binds md e = true → L.getD e.on false = true
def closedB (md : Region.Mode) (ops : Array Oper) (L : Array Bool) : Bool :=
  (List.range ops.size).all fun j => !L.getD j false || ((ops[j]?).map (·.after.all fun e => !Region.binds md e || L.getD e.on false)).getD true
theorem closedB_spec {L : Array Bool} (h : closedB md ops L = true) : Closed md ops L := fun j oj hj hl e he hb => by
  simp only [closedB, List.all_eq_true, List.mem_range] at h
  have h1 := h j (Array.getElem?_eq_some_iff.1 hj).1
  simp only [hl, hj, Option.map_some, Option.getD_some, Bool.not_true, Bool.false_or] at h1
  have h2 := Array.all_eq_true_iff_forall_mem.1 h1 e he
  simpa [hb] using h2
theorem getD_set_of {L : Array Bool} {i q : Nat} (h : (L.setIfInBounds i true).getD q false = false) : L.getD q false = false := by
  cases hq : L.getD q false with
  | false => rfl
  | true => rw [getD_set_true hq] at h; cases h
theorem Closed.set {L : Array Bool} {i : Nat} (h : Closed md ops L) (hi : i ∈ Region.ready md ops L) : Closed md ops (L.setIfInBounds i true) := fun j oj hj hl e he hb => by
  by_cases hij : i = j
  · subst hij
    obtain ⟨_, o, ho, hall⟩ := mem_ready.1 hi
    rw [hj] at ho
    obtain rfl := Option.some.inj ho
    exact getD_set_true (hall e he hb)
  · rw [getD_set_ne false hij] at hl
    exact getD_set_true (h j oj hj hl e he hb)
/-- Behind what has not come up nothing has that waits for it. -/
theorem Closed.back {L : Array Bool} (h : Closed md ops L) (j k : Nat) (hw : ((ops[j]?).map (·.after.any fun e => Region.binds md e && e.on == k)).getD false = true) (hk : L.getD k false = false) : L.getD j false = false := by
  cases hj : ops[j]? with
  | none => rw [hj] at hw; cases hw
  | some oj =>
    rw [hj] at hw
    simp only [Option.map_some, Option.getD_some] at hw
    obtain ⟨e, he, h2⟩ := Array.any_eq_true'.1 hw
    simp only [Bool.and_eq_true, beq_iff_eq] at h2
    cases hl : L.getD j false with
    | false => rfl
    | true =>
      have := h j oj hj hl e he h2.1
      rw [h2.2, hk] at this
      cases this
/-- T stands till a late operation has come up. -/
def Till (D : List Nat) (T : World → Prop) (L : Array Bool) (w : World) : Prop := (∀ d ∈ D, L.getD d false = false) → T w
theorem Till.set {L : Array Bool} {w : World} (h : Till D T L w) (i : Nat) : Till D T (L.setIfInBounds i true) w := fun hq => h (fun d hd => getD_set_of (hq d hd))
def anyN (P : Program) (md : Region.Mode) (ops : Array Oper) (Q : Exit → Act → World → Prop) (D : List Nat) (T : World → Prop) : Nat → Array Bool → Act → World → Prop
  | 0, listed, a, w => Region.ready md ops listed = [] ∧ Q .normal a w
  | fuel + 1, listed, a, w =>
    (Region.ready md ops listed = [] → Q .normal a w) ∧
    ∀ i ∈ Region.ready md ops listed, wpOp P ops Q i (fun a' w' => Till D T (listed.setIfInBounds i true) w' ∧ anyN P md ops Q D T fuel (listed.setIfInBounds i true) a' w') a w
theorem any_of_N : ∀ (fuel : Nat) (listed : Array Bool) (a : Act) (w : World), anyN P md ops Q D T fuel listed a w → wpAny P md ops Q fuel listed a w
  | 0, _, _, _, h => h
  | fuel + 1, _, _, _, h => ⟨h.1, fun i hi => wpOp_mono (fun a' w' h' => any_of_N fuel _ a' w' h'.2) (h.2 i hi)⟩
theorem anyN_first {i : Nat} {oi : Oper} {v : Value} (hi : ops[i]? = some oi) (hsel : ∀ (j : Nat) (o : Oper) cs b, ops[j]? = some o → o.op ≠ .select cs b)
    (hQ : ∀ c a w, Q (.panic c) (a.put oi.dst v) w → Q (.panic c) a w) (hiD : i ∉ D)
    (late : ∀ L, Closed md ops L → L.getD i false = false → ∀ d ∈ D, L.getD d false = false) :
    ∀ (fuel : Nat) (listed : Array Bool) (a : Act) (w : World),
      (∀ j oj, ops[j]? = some oj → j ≠ i → listed.getD j true = false → (∀ e ∈ oj.after, Region.binds md e = true → e.on ≠ i) → oi.apart ops oj = true) →
      Closed md ops listed →
      i ∈ Region.ready md ops listed → YieldsIf P ops T oi v a → Till D T listed w →
      anyN P md ops Q D T fuel (listed.setIfInBounds i true) (a.put oi.dst v) w → anyN P md ops Q D T (fuel + 1) listed a w := by
  have un : ∀ listed, i ∈ Region.ready md ops listed → listed.getD i false = false := fun listed hr => by
    have h0 := (mem_ready.1 hr).1
    rcases Nat.lt_or_ge i listed.size with h' | h'
    · simp [h'] at h0 ⊢; exact h0
    · simp [Array.getElem?_eq_none h']
  intro fuel
  induction fuel with
  | zero =>
    intro listed a w _ hC hr hy hS H
    refine ⟨fun h => (by rw [h] at hr; cases hr), fun j hj => ?_⟩
    by_cases hji : j = i
    · subst hji; exact hy.wpOp hi (hS (late _ hC (un _ hr))) ⟨hS.set _, H⟩
    · have := ready_mono hj hji
      rw [H.1] at this
      cases this
  | succ fuel ih =>
    intro listed a w hfree hC hr hy hS H
    refine ⟨fun h => (by rw [h] at hr; cases hr), fun j hj => ?_⟩
    by_cases hji : j = i
    · subst hji; exact hy.wpOp hi (hS (late _ hC (un _ hr))) ⟨hS.set _, H⟩
    · have h1 := H.2 j (ready_mono hj hji)
      obtain ⟨hjun, oj, hoj, hall⟩ := mem_ready.1 hj
      have hnot : ∀ e ∈ oj.after, Region.binds md e = true → e.on ≠ i := fun e he hb heq => by
        have h1 := hall e he hb
        have h0 := un _ hr
        rw [heq, h0] at h1; cases h1
      have h2 := wpOp_putIf hoj (hfree j oj hoj hji hjun hnot) (fun cs b => hsel i oi cs b hi) (fun cs b => hsel j oj cs b hoj) hQ hy h1
      have hfree' : ∀ k ok, ops[k]? = some ok → k ≠ i → (listed.setIfInBounds j true).getD k true = false →
          (∀ e ∈ ok.after, Region.binds md e = true → e.on ≠ i) → oi.apart ops ok = true := fun k ok hk hki hun hno => by
        refine hfree k ok hk hki ?_ hno
        by_cases hjk : j = k
        · subst hjk; exact hjun
        · rw [getD_set_ne true hjk] at hun; exact hun
      have hri := ready_mono hr (Ne.symm hji)
      refine wpOp_mono (fun a' w' h3 => ?_) h2
      have hN : Till D T (listed.setIfInBounds j true) w' := fun hd => by
        refine h3.2.1 (fun d hdD => ?_)
        rw [← Array.setIfInBounds_comm _ _ hji, getD_set_ne false (fun e => hiD (by rw [e]; exact hdD))]
        exact hd d hdD
      refine ⟨hN, ih (listed.setIfInBounds j true) a' w' hfree' (hC.set hj) hri h3.1 hN ?_⟩
      rw [Array.setIfInBounds_comm _ _ hji]
      exact h3.2.2
theorem anyN_take {i : Nat} {oi : Oper} {v : Value} {fuel : Nat} {listed : Array Bool} {a : Act} {w : World} (hi : ops[i]? = some oi)
    (hs : Region.noSelect ops = true) (hf : Region.free md ops listed i = true) (hr : (Region.ready md ops listed).contains i = true) (hc : closedB md ops listed = true) (hiD : D.contains i = false)
    (hQ : ∀ c a w, Q (.panic c) (a.put oi.dst v) w → Q (.panic c) a w) (late : ∀ L, Closed md ops L → L.getD i false = false → ∀ d ∈ D, L.getD d false = false) (hy : YieldsIf P ops T oi v a) (hS : T w)
    (h : anyN P md ops Q D T fuel (listed.setIfInBounds i true) (a.put oi.dst v) w) : anyN P md ops Q D T (fuel + 1) listed a w :=
  anyN_first hi (Region.noSelect_spec hs) hQ (by simpa using hiD) late fuel listed a w (Region.free_spec hi hf) (closedB_spec hc) (by simpa using hr) hy (fun _ => hS) h
def AllReadyN (P : Program) (md : Region.Mode) (ops : Array Oper) (Q : Exit → Act → World → Prop) (D : List Nat) (T : World → Prop) (fuel : Nat) (listed : Array Bool) (a : Act) (w : World) (rs : List Nat) : Prop :=
  ∀ i ∈ rs, wpOp P ops Q i (fun a' w' => Till D T (listed.setIfInBounds i true) w' ∧ anyN P md ops Q D T fuel (listed.setIfInBounds i true) a' w') a w
theorem AllReadyN.nil {fuel : Nat} {listed : Array Bool} {a : Act} {w : World} : AllReadyN P md ops Q D T fuel listed a w [] := fun _ h => by cases h
theorem AllReadyN.cons {fuel : Nat} {listed : Array Bool} {a : Act} {w : World} {i : Nat} {o : Oper} {rs : List Nat} (ho : ops[i]? = some o)
    (h : ∀ K' : Act → World → Prop, Shut (∀ a w, T w → (T w → anyN P md ops Q D T fuel (listed.setIfInBounds i true) a w) → K' a w) → if Region.wanted o (yielded ops a.tmps) = true then Oper.wp P o a w K' Q else K' (a.put o.dst undef) w)
    (hs : AllReadyN P md ops Q D T fuel listed a w rs) : AllReadyN P md ops Q D T fuel listed a w (i :: rs) := fun j hj => by
  rcases List.mem_cons.1 hj with rfl | hj
  · exact wpOp_step ho (fun K' hK => h K' (fun a w hS hW => hK a w ⟨fun _ => hS, hW hS⟩))
  · exact hs j hj
/-- A late operation: nothing is to be shown behind it. -/
theorem AllReadyN.last {fuel : Nat} {listed : Array Bool} {a : Act} {w : World} {i : Nat} {o : Oper} {rs : List Nat} (ho : ops[i]? = some o) (hiD : D.contains i = true) (hlt : i < listed.size)
    (h : ∀ K' : Act → World → Prop, Shut (∀ a w, anyN P md ops Q D T fuel (listed.setIfInBounds i true) a w → K' a w) → if Region.wanted o (yielded ops a.tmps) = true then Oper.wp P o a w K' Q else K' (a.put o.dst undef) w)
    (hs : AllReadyN P md ops Q D T fuel listed a w rs) : AllReadyN P md ops Q D T fuel listed a w (i :: rs) := fun j hj => by
  rcases List.mem_cons.1 hj with rfl | hj
  · exact wpOp_step ho (fun K' hK => h K' (fun a w hW => hK a w ⟨fun hd => by have := hd j (by simpa using hiD); simp [hlt] at this, hW⟩))
  · exact hs j hj
theorem anyN_ready {rs : List Nat} {fuel : Nat} {listed : Array Bool} {a : Act} {w : World} (hr : Region.ready md ops listed = rs) (hne : rs ≠ [])
    (h : AllReadyN P md ops Q D T fuel listed a w rs) : anyN P md ops Q D T (fuel + 1) listed a w := ⟨fun h0 => absurd (hr ▸ h0) hne, hr ▸ h⟩
theorem anyN_done {listed : Array Bool} {a : Act} {w : World} (hr : Region.ready md ops listed = []) (h : Q .normal a w) :
    ∀ fuel, anyN P md ops Q D T fuel listed a w
  | 0 => ⟨hr, h⟩
  | _ + 1 => ⟨fun _ => h, by rw [hr]; simp⟩
theorem wp_region_N (D : List Nat) (T : World → Prop) {id : Nat} {a : Act} {w : World} (hm : P.follows .mixedOrders = true) (hS : T w.drew)
    (h : T w.drew → anyN P .any ops Q D T ops.size (Array.replicate ops.size false) a w.drew) : (Code.region id ops true).wp P Q a w :=
  wp_region_any hm (any_of_N _ _ _ _ (h hS))
end
end Go.Proofs.YtdonmdiebibabaaDoor
