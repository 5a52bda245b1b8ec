/- Arguments that came in, with the form's own reach; the statement of BestNewest. -/
import Derived.Test.YteidmdakglkkfaaLbB
namespace Go.Proofs.Yteidmdakglkkfaa
open Go.RowKit Go.ChangeShapes Go.WideShapes Go.Deep
set_option linter.unusedVariables false

/-- As Opens, for data whose every slice is within the form's reach. -/
def OpensS {α : Type} (P : Program) (t : TypeId) (L : Lay α) : Prop :=
  ∀ {H : Type} {enc : TypeId × Value → H} {w : World} {base : Nat} {spare : Nat → Bool} {held : Bool} {fuel : Nat} {cs : List Value} {x : DataW H × List MemPlace},
    DataW.trod enc P w base spare held fuel t cs = some x → (∀ n ∈ x.1.weights P t, n ≤ reachBytes) → ∃ d, L.at_ w (fun _ => True) d cs
theorem opens_byteRow : OpensS Try.prog 59 byteL := by
  intro H enc w base spare held fuel cs x h hw
  obtain ⟨d, a, len, cap, rfl, hr⟩ := opens_bytes h
  refine ⟨d, ⟨a, len, cap, rfl, hr⟩, ?_⟩
  rw [hr.1]
  rcases open_slice Try.underlying59 h with ⟨h1, _⟩ | ⟨a', len', cap', m, n, D, Pl, h1, _, _, _, _, hx, _⟩
  · simp at h1; omega
  · simp at h1
    obtain ⟨_, rfl, _⟩ := h1
    have := hw ((len + (m - len)) * Try.prog.bytesOf 5) (by rw [hx]; simp [DataW.weights, Try.underlying59])
    rw [show Try.prog.bytesOf 5 = 1 from by kernel_rfl, reachBytes] at this
    omega
theorem weightsAll_mem {H : Type} {P : Program} {e : TypeId} : ∀ {ds : List (DataW H)} {d : DataW H}, d ∈ ds → ∀ n ∈ d.weights P e, n ∈ DataW.weightsAll P e ds
  | c :: ds, d, hd, n, hn => by
    simp only [DataW.weightsAll, List.mem_append]
    rcases List.mem_cons.1 hd with rfl | hd
    · exact .inl hn
    · exact .inr (weightsAll_mem hd n hn)
theorem opens_slice_S {α : Type} [Inhabited α] {P : Program} {t e : TypeId} {L : Lay α} (ht : P.underlying t = some (.slice e)) (he : OpensS P e L) (hC : P.cellsOf e = L.size) : OpensS P t L.slice := by
  intro H enc w base spare held fuel cs x h hw
  rcases open_slice ht h with ⟨rfl, _⟩ | ⟨a, len, cap, m, n, D, Pl, rfl, hb, hl, hm, hmm, hx, hi⟩
  · exact ⟨[], none, 0, 0, rfl, SRow.nil _ _ _⟩
  · have hlm : len ≤ m := by rw [hmm]; split <;> omega
    rw [hC] at hi
    have hpos := L.pos
    obtain ⟨V, hV⟩ := choose_lt (α := List Value × α) (n := len) (p := fun i v => (∀ j, j < L.size → w.cell? ((a.add (i * L.size)).add j) = v.1[j]?) ∧ L.at_ w (fun _ => True) v.2 v.1) (fun i hi' => by
      obtain ⟨cs', h1, h2⟩ := hi i (by omega)
      obtain ⟨d, hd⟩ := he h2 (fun k hk => hw k (by
        rw [hx]
        simp only [DataW.weights, ht, List.mem_cons, List.mem_append]
        exact .inr (.inl (weightsAll_mem (List.mem_map.2 ⟨i, List.mem_range.2 hi', rfl⟩) k hk))))
      exact ⟨(cs', d), (World.cells?_some h1).2.2, hd⟩)
    have hsz : ∀ vs ∈ (List.range len).map (fun i => (V i).1), vs.length = L.size := by
      intro vs hv
      obtain ⟨i, hi', rfl⟩ := List.mem_map.1 hv
      exact L.len (hV i (List.mem_range.1 hi')).2
    refine ⟨(List.range len).map (fun i => (V i).2), some a, len, cap, rfl, by simp, fun _ _ _ => trivial, (List.range len).map (fun i => (V i).1), ⟨?_, hl, hm, (fun h => by cases h), ?_⟩, ?_⟩
    · rw [flatten_length L.size _ hsz]; simp
    · by_cases h0 : len = 0
      · left; rw [h0, Nat.zero_mul]
      · right
        obtain ⟨b, off, spot⟩ := a
        have hsp : spot = none := by
          have h1 := (hV 0 (by omega)).1 0 hpos
          have h2 := L.len (hV 0 (by omega)).2
          rw [List.getElem?_eq_getElem (by omega)] at h1
          simpa [Addr.add] using World.cell?_spot h1
        subst hsp
        refine ⟨b, off, rfl, fun i hi' => ?_⟩
        have hq : i / L.size < len := Nat.div_lt_of_lt_mul (by rw [Nat.mul_comm]; exact hi')
        have hr : i % L.size < L.size := Nat.mod_lt _ hpos
        have e : i = (i / L.size) * L.size + i % L.size := by rw [Nat.mul_comm]; exact (Nat.div_add_mod i L.size).symm
        have h1 := (hV _ hq).1 _ hr
        have hadd := addr_add b off i
        rw [add_add, ← e, hadd] at h1
        rw [h1]
        have h2 := flatten_at L.size ((List.range len).map (fun i => (V i).1)) hsz (i / L.size) (i % L.size) hr
        rw [← e] at h2
        rw [h2]
        simp [hq]
    · refine ⟨by simp, fun i x vs hx hv => ?_⟩
      rw [List.getElem?_map] at hx hv
      by_cases hi' : i < len
      · rw [List.getElem?_range hi'] at hx hv
        simp only [Option.map_some, Option.some.injEq] at hx hv
        subst hx hv
        exact (hV i hi').2
      · rw [List.getElem?_eq_none (by simp; omega)] at hx; cases hx
theorem opens_junk : OpensS Try.prog 70 byteL.slice := opens_slice_S Try.underlying70 opens_byteRow (by kernel_rfl)
theorem opens_bool {P : Program} {t : TypeId} (ht : P.underlying t = some .bool) : Opens P t Lay.bool := by
  intro H enc w base spare held fuel cs x h
  obtain ⟨b, rfl, _⟩ := DataW.trod_bool ht h
  exact ⟨b, rfl⟩
theorem opens_bools : Opens Try.prog 38 Lay.bool.slice := opens_slice Try.underlying38 (opens_bool Try.underlying4) (by kernel_rfl)
theorem opens_tags : Opens Try.prog 69 tagL.slice := opens_slice Try.underlying69 opens_tag (by kernel_rfl)
theorem reach_of {P : Program} {H : Type} {ts : List TypeId} {ds : List (DataW H)} (h : (DataW.weightsEach P ts ds).all (· ≤ reachBytes) = true) (j : Nat) {t : TypeId} {d : DataW H} (ht : ts[j]? = some t) (hd : ds[j]? = some d) : ∀ n ∈ d.weights P t, n ≤ reachBytes :=
  fun n hn => of_decide_eq_true (List.all_eq_true.1 h n (DataW.weights_mem_each ht hd n hn))
end Go.Proofs.Yteidmdakglkkfaa
