/- Package snap: what the law SnapSafe asks of each move. -/
import Derived.Test.YthjjfmnipemakaaKpU
namespace Go.Proofs.Ythjjfmnipemakaa
set_option linter.unusedVariables false

/-- The lists behind the switch, ahead of the marks. -/
def ghMid (ms : List (Int × Nat)) (i : Nat) (m : Int × Nat) (x : Int × List Int) : Gh := if x.1 = 0 then (ghAt ms i).move m.1 m.2 else ghAt ms i
structure Asked (ms : List (Int × Nat)) (i : Nat) (m : Int × Nat) (x : Int × List Int) (L : Nat) : Prop where
  next : ghAt ms (i + 1) = { ghMid ms i m x with gone := markG (ghMid ms i m x).gone x.2 }
  ll : (ghMid ms i m x).lives.length = L
  gl : (ghMid ms i m x).gone.length = L
  sl : (ghMid ms i m x).shots.length = (bT ms (i + 1)).length
  lb : L ≤ 1000 ∧ (bT ms (i + 1)).length ≤ 1000
  each : ∀ (k : Nat) (v : Int), x.2[k]? = some v → 0 ≤ v ∧ v < L ∧ (ghMid ms i m x).lives.getD v.toNat false = false ∧ (markG (ghMid ms i m x).gone (x.2.take k)).getD v.toNat false = false ∧
    ∀ s : Nat, (bT ms (i + 1)).getD s false = true → ((ghMid ms i m x).shots.getD s []).getD v.toNat false = false
  few : x.2.length ≤ 1000
  kill : x.1 = 0 → m.1 = 2 → m.2 < (ghAt ms i).lives.length ∧ (ghAt ms i).lives.getD m.2 false = true
  drop : x.1 = 0 → m.1 = 4 → m.2 < (bT ms i).length ∧ (bT ms i).getD m.2 false = true
  old : (ghAt ms i).lives.length ≤ 1000 ∧ (ghAt ms i).gone.length ≤ 1000 ∧ (ghAt ms i).shots.length ≤ 1000 ∧ (bT ms i).length ≤ 1000
theorem onOf_all {th : List Bool} {s : Nat} (h : th.getD s false = true) : s ∈ onOf th th.length := by
  have hl : s < th.length := by
    rcases Nat.lt_or_ge s th.length with h1 | h1
    · exact h1
    · rw [List.getD_eq_getElem?_getD, List.getElem?_eq_none h1] at h; cases h
  exact List.mem_filter.2 ⟨List.mem_range.2 hl, h⟩
theorem asked {ms : List (Int × Nat)} (hm : ∀ m ∈ ms, MoveOk m) (hlen : ms.length ≤ 900) (i : Nat) (m : Int × Nat) (hmi : ms[i]? = some m) :
    Asked ms i m ((kp0.fin (ms.take i)).step m).2 (kp0.fin (ms.take (i + 1))).blocks.length := by
  have hil := (List.getElem?_eq_some_iff.1 hmi).1
  have h0 := safe hm i (by omega)
  have h1 := safe hm (i + 1) (by omega)
  have b0 := births hm i (by omega)
  have b1 := births hm (i + 1) (by omega)
  have v0 := Kp.Inv.take hm i (by omega)
  have v1 := Kp.Inv.take hm (i + 1) (by omega)
  have hc1 := conserve hm (i + 1) (by omega)
  have hfs := fin_take_succ kp0 ms i m hmi
  have ht : ms.take (i + 1) = ms.take i ++ [m] := by
    have h := List.getElem?_eq_some_iff.1 hmi
    rw [List.take_succ_eq_append_getElem h.1, h.2]
  have hbk : kp0.backs (ms.take (i + 1)) = kp0.backs (ms.take i) ++ ((kp0.fin (ms.take i)).step m).2.2 := by rw [ht, backs_snoc]
  have hmo := hm m (List.mem_of_getElem? hmi)
  have hgn : ghAt ms (i + 1) = { ghMid ms i m ((kp0.fin (ms.take i)).step m).2 with gone := markG (ghMid ms i m ((kp0.fin (ms.take i)).step m).2).gone ((kp0.fin (ms.take i)).step m).2.2 } := by
    rw [ghAt, hmi]; rfl
  have b0m := b0.ml; have b0t := b0.tl; have b1m := b1.ml; have b1t := b1.tl
  have k0 := v0.kept; have k1 := v1.kept
  have s0 := h0.sk; have s1 := h1.sk
  have l0 := h0.ll; have g0 := h0.gl; have l1 := h1.ll; have g1 := h1.gl
  have e0 := v0.bl; have e1 := v1.bl
  obtain ⟨s, hs⟩ : ∃ s, kp0.fin (ms.take i) = s := ⟨_, rfl⟩
  obtain ⟨s', hs'⟩ : ∃ s', kp0.fin (ms.take (i + 1)) = s' := ⟨_, rfl⟩
  rw [hs] at h0 b0 v0 hfs hbk hgn k0 l0 g0 e0 b0m s0 ⊢
  rw [hs'] at h1 b1 v1 hfs hc1 k1 l1 g1 e1 b1m s1 ⊢
  obtain ⟨x, hx⟩ : ∃ x, (s.step m).2 = x := ⟨_, rfl⟩
  have hstep := step_cases s m hmo
  rw [hx] at hbk hgn hstep ⊢
  obtain ⟨g, hg⟩ : ∃ g, ghMid ms i m x = g := ⟨_, rfl⟩
  rw [hg] at hgn
  have gL : g.lives = (ghAt ms (i + 1)).lives := by rw [hgn]
  have gS : g.shots = (ghAt ms (i + 1)).shots := by rw [hgn]
  have gG : (ghAt ms (i + 1)).gone = markG g.gone x.2 := by rw [hgn]
  have gGl : g.gone.length = s'.blocks.length := by have := markG_length g.gone x.2; rw [← gG] at this; omega
  have hone : ∀ b : Int, (kp0.backs (ms.take (i + 1))).count b ≤ 1 := fun b => by have := hc1 b; split at this <;> omega
  have hb0 : ∀ b ∈ x.2, 0 ≤ b ∧ b < s'.blocks.length ∧ s'.lives b.toNat = false := by
    intro b hb
    have h2 := hc1 b
    have h3 : 0 < x.2.count b := List.count_pos_iff.2 hb
    rw [hbk, List.count_append] at h2
    split at h2
    · rename_i h4; exact h4
    · omega
  refine ⟨by rw [hg]; exact hgn, by rw [hg, gL]; exact l1, by rw [hg]; exact gGl, by rw [hg, gS]; omega, ⟨by omega, by omega⟩, fun k v hk => ?_, ?_, fun hc hk => ?_, fun hc hk => ?_, ⟨by omega, by omega, by omega, by omega⟩⟩
  · rw [hg]
    have hv := List.mem_of_getElem? hk
    obtain ⟨p1, p2, p3⟩ := hb0 v hv
    obtain ⟨vn, rfl⟩ := Int.eq_ofNat_of_zero_le p1
    rw [Int.toNat_natCast] at p3 ⊢
    have hvl : vn < s'.blocks.length := by omega
    have hcnt := hone vn
    rw [hbk, List.count_append] at hcnt
    have h3 : 0 < x.2.count (vn : Int) := List.count_pos_iff.2 hv
    refine ⟨p1, p2, by rw [gL, h1.lv vn hvl]; exact p3, ?_, fun sn hsn => ?_⟩
    · rw [markG_get _ _ vn (by omega) (fun y hy => (hb0 y (List.mem_of_mem_take hy)).1)]
      have q1 : ¬ (vn : Int) ∈ x.2.take k := by
        intro hq
        have hk' := List.getElem?_eq_some_iff.1 hk
        have h5 : x.2.take (k + 1) = x.2.take k ++ [(vn : Int)] := by rw [List.take_succ_eq_append_getElem hk'.1, hk'.2]
        have h6 : (x.2.take (k + 1)).count (vn : Int) ≤ x.2.count (vn : Int) := (List.take_sublist _ _).count_le _
        rw [h5, List.count_append] at h6
        have h7 : 0 < (x.2.take k).count (vn : Int) := List.count_pos_iff.2 hq
        simp at h6
        omega
      have q2 : g.gone.getD vn false = false := by
        rw [← hg]
        unfold ghMid
        have ho : ∀ (l : List Bool), l.length = s.blocks.length → l = (ghAt ms i).gone → l.getD vn false = false := by
          intro l hl he
          by_cases hvo : vn < s.blocks.length
          · rw [he, h0.gc vn hvo, show (kp0.backs (ms.take i)).count (vn : Int) = 0 by omega]; rfl
          · rw [List.getD_eq_getElem?_getD, List.getElem?_eq_none (by omega)]; rfl
        split
        · unfold Gh.move
          split
          · show ((ghAt ms i).gone ++ [false]).getD vn false = false
            rw [List.getD_eq_getElem?_getD]
            by_cases hvo : vn < (ghAt ms i).gone.length
            · rw [List.getElem?_append_left hvo, ← List.getD_eq_getElem?_getD]; exact ho _ g0 rfl
            · rw [List.getElem?_append_right (by omega)]
              cases hq : vn - (ghAt ms i).gone.length with
              | zero => rfl
              | succ q => simp
          · split
            · exact ho _ g0 rfl
            · split
              · exact ho _ g0 rfl
              · exact ho _ g0 rfl
        · exact ho _ g0 rfl
      rw [q2]; simp [q1]
    · have hmem := onOf_all hsn
      have hP : (sn : Int) ∈ s'.P := by
        unfold Kp.P
        rw [b1.on]
        exact List.mem_map.2 ⟨sn, hmem, rfl⟩
      have hcn : 0 < (kp0.backs (ms.take (i + 1))).count (vn : Int) := by rw [hbk, List.count_append]; omega
      have := h1.n3 _ hP vn hcn
      unfold needs at this
      rw [Int.toNat_natCast, ← gS] at this
      exact this
  · have := cnt_len s'.blocks.length x.2 (fun b hb => ⟨(hb0 b hb).1, (hb0 b hb).2.1⟩) (fun b => by have := hone b; rw [hbk, List.count_append] at this; omega)
    omega
  · rcases hstep with ⟨q, _⟩ | ⟨_, _, hgo⟩
    · exact absurd hc q
    · cases hgo with
      | birth hk' => omega
      | shot hk' => omega
      | drop hk' => omega
      | kill hk' hw hl =>
        have hw' : m.2 < s.blocks.length := hw
        exact ⟨by omega, by rw [h0.lv m.2 hw']; exact hl⟩
  · rcases hstep with ⟨q, _⟩ | ⟨_, _, hgo⟩
    · exact absurd hc q
    · rcases hgo.nums with ⟨_, _, _, _, a5⟩ | ⟨a0, _⟩ | ⟨_, _, j, aj, _⟩
      · exact absurd hk a5
      · omega
      · have haj : (s.shots.map (·.num))[j]? = some (m.2 : Int) := aj
        rw [b0.on] at haj
        obtain ⟨q, hq, hqm⟩ := List.mem_map.1 (List.mem_of_getElem? haj)
        have hq2 := onOf_mem hq
        have : q = m.2 := by omega
        subst this
        exact hq2
end Go.Proofs.Ythjjfmnipemakaa
