/- Steps all of which make a version: what the versions are; what is read of them. -/
import Derived.Test.YthjjfmnipemakaaTsB
namespace Go.Proofs.Ythjjfmnipemakaa
set_option linter.unusedVariables false

/-- All of them make a version. -/
def Makes (ss : List St) : Prop := ∀ s ∈ ss, s.kind = 1 ∨ s.kind = 2
theorem step_makes (f : Fo) (s : St) (h : s.kind = 1 ∨ s.kind = 2) : ∃ v, (f.step s).1.vers = f.vers ++ [v] := by
  unfold Fo.step
  by_cases h1 : s.kind = 1
  · rw [if_pos h1]; exact ⟨_, rfl⟩
  · rw [if_neg h1, if_pos (by omega)]; exact ⟨_, rfl⟩
theorem fin_makes : ∀ (ss : List St) (f : Fo), Makes ss → ∃ l, (f.fin ss).vers = f.vers ++ l ∧ l.length = ss.length
  | [], f, _ => ⟨[], by show f.vers = _; simp, rfl⟩
  | s :: ss, f, h => by
    obtain ⟨v, hv⟩ := step_makes f s (h s (List.mem_cons_self ..))
    obtain ⟨l, hl, hn⟩ := fin_makes ss (f.step s).1 (fun x hx => h x (List.mem_cons_of_mem _ hx))
    exact ⟨v :: l, by show ((f.step s).1.fin ss).vers = _; rw [hl, hv, List.append_assoc]; rfl, by simp [hn]⟩
theorem fin_count (ss : List St) (h : Makes ss) : (fo0.fin ss).vers.length = ss.length + 1 := by
  obtain ⟨l, hl, hn⟩ := fin_makes ss fo0 h
  rw [hl, List.length_append, hn]
  show 1 + _ = _
  omega
theorem stepsFrom_makes : ∀ (es : List Ed) (i : Nat), Makes (stepsFrom i es)
  | [], _ => fun s hs => by cases hs
  | e :: es, i => fun s hs => by
    rcases List.mem_cons.1 hs with rfl | hs
    · unfold stOf; split
      · exact .inr rfl
      · exact .inl rfl
    · exact stepsFrom_makes es (i + 1) s hs
theorem verOf_lt (i : Nat) (e : Ed) : verOf i e < i + 1 := by
  unfold verOf
  have h1 := Int.emod_nonneg ((i : Int) - e.back % 3) (b := (i : Int) + 1) (by omega)
  have h2 := Int.emod_lt_of_pos ((i : Int) - e.back % 3) (b := (i : Int) + 1) (by omega)
  omega
theorem stOf_ok (i : Nat) (e : Ed) : (stOf i e).Ok (i + 1) := by
  unfold stOf
  have hv := verOf_lt i e
  split
  · refine ⟨.inr (.inl rfl), hv, fun h => (by cases h), fun _ => ?_⟩
    have := Int.emod_lt_of_pos e.off (b := 2600) (by decide)
    have := Int.emod_nonneg e.off (b := 2600) (by decide)
    show (e.off % 2600).toNat ≤ 4096
    omega
  · refine ⟨.inl rfl, hv, fun _ => ?_, fun h => (by cases h)⟩
    have := Int.emod_lt_of_pos e.off (b := 2000) (by decide)
    have := Int.emod_nonneg e.off (b := 2000) (by decide)
    have hb := blockP_len e.data 300 (by decide)
    exact ⟨hb.1, by show (e.off % 2000).toNat + (blockP e.data 300).length ≤ 4096; omega⟩
theorem stepsFrom_ok : ∀ (es : List Ed) (i : Nat) (f : Fo), f.vers.length = i + 1 → f.Okays (stepsFrom i es)
  | [], _, _, _ => trivial
  | e :: es, i, f, h => by
    refine ⟨by rw [h]; exact stOf_ok i e, stepsFrom_ok es (i + 1) _ ?_⟩
    obtain ⟨v, hv⟩ := step_makes f (stOf i e) (stepsFrom_makes [e] i _ (List.mem_cons_self ..))
    rw [hv, List.length_append, h]; rfl
theorem stepsP_ok (es : List Ed) (n : Nat) : fo0.Okays (stepsP es n) ∧ Makes (stepsP es n) := ⟨stepsFrom_ok _ 0 fo0 rfl, stepsFrom_makes _ 0⟩
/-- The bytes of a version. -/
def bytesV (v : Ver) : List Int := (List.range v.size).map fun p => Rt.get v.root p
theorem bytesV_read (v : Ver) (h : v.size ≤ 4096) : readO v 0 4096 = bytesV v := by
  unfold readO bytesV
  by_cases h0 : v.size ≤ 0
  · rw [if_pos h0, show v.size = 0 by omega]; rfl
  · rw [if_neg h0, show min 4096 (v.size - 0) = v.size by omega]
    apply List.map_congr_left
    intro p _
    rw [Nat.zero_add]
theorem bytesV_length (v : Ver) : (bytesV v).length = v.size := by simp [bytesV]
theorem bytesV_get (v : Ver) (p : Nat) (hp : p < v.size) : (bytesV v).getD p 0 = Rt.get v.root p := by
  unfold bytesV
  rw [List.getD_eq_getElem?_getD, List.getElem?_map, List.getElem?_range hp]; rfl
def readS (ver : Nat) : St := ⟨3, ver, 0, 4096, []⟩
def verAt (ss : List St) (i : Nat) : Ver := (fo0.fin ss).vers.getD i ver0
theorem verAt_good (ss : List St) (h : fo0.Okays ss) (i : Nat) : (verAt ss i).Good := Fo.pick_good _ (Fo.fin_good ss fo0 fo0_good h).1 i
/-- What a read behind steps is told. -/
theorem outs_read (ss : List St) (h : fo0.Okays ss) (ver : Nat) (hv : ver < (fo0.fin ss).vers.length) :
    fo0.Okays (ss ++ [readS ver]) ∧ fo0.outs (ss ++ [readS ver]) = fo0.outs ss ++ [⟨0, 0, (verAt ss ver).size, bytesV (verAt ss ver)⟩] := by
  refine ⟨(Fo.okays_append _ _ _).2 ⟨h, ⟨.inr (.inr rfl), hv, fun h => (by cases h), fun h => (by cases h)⟩, trivial⟩, ?_⟩
  rw [Fo.outs_append]
  have : (fo0.fin ss).outs [readS ver] = [⟨0, 0, (verAt ss ver).size, readO (verAt ss ver) 0 4096⟩] := rfl
  rw [this, bytesV_read _ (verAt_good ss h ver).small]
/-- A write changes what it says. -/
theorem reads_law (ss : List St) (h : fo0.Okays ss) (hm : Makes ss) (v off : Nat) (data : List Int) (hv : v < ss.length + 1) (hd : 0 < data.length) (ho : off + data.length ≤ 4096) :
    fo0.Okays (ss ++ [⟨1, v, off, 0, data⟩]) ∧ (verAt (ss ++ [⟨1, v, off, 0, data⟩]) (ss.length + 1)).size = max (verAt ss v).size (off + data.length) ∧
      ∀ p, p < (verAt (ss ++ [⟨1, v, off, 0, data⟩]) (ss.length + 1)).size → (bytesV (verAt (ss ++ [⟨1, v, off, 0, data⟩]) (ss.length + 1))).getD p 0 = if off ≤ p ∧ p < off + data.length then data.getD (p - off) 0 else if p < (verAt ss v).size then (bytesV (verAt ss v)).getD p 0 else 0 := by
  have hc := fin_count ss hm
  have hg := verAt_good ss h v
  have hw := wrote_good (fo0.fin ss) (verAt ss v) off data hg hd ho
  have e : verAt (ss ++ [⟨1, v, off, 0, data⟩]) (ss.length + 1) = ((fo0.fin ss).wrote (verAt ss v) off data).1 := by
    unfold verAt
    rw [Fo.fin_append]
    show ((fo0.fin ss).vers ++ [_]).getD (ss.length + 1) ver0 = _
    rw [List.getD_eq_getElem?_getD, List.getElem?_append_right (by omega), hc, Nat.sub_self]; rfl
  rw [e]
  refine ⟨(Fo.okays_append _ _ _).2 ⟨h, ⟨.inl rfl, by rw [hc]; exact hv, fun _ => ⟨hd, ho⟩, fun h => (by cases h)⟩, trivial⟩, rfl, fun p hp => ?_⟩
  rw [bytesV_get _ p hp, hw.2 p]
  by_cases h1 : off ≤ p ∧ p < off + data.length
  · rw [if_pos h1, if_pos h1]
  · rw [if_neg h1, if_neg h1]
    by_cases h2 : p < (verAt ss v).size
    · rw [if_pos h2, bytesV_get _ p h2]
    · rw [if_neg h2]; exact hg.zero p (by omega)
end Go.Proofs.Ythjjfmnipemakaa
