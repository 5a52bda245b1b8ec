/- The walk of package span's swept, once for each closure that it is given. -/
import Derived.Test.YtddjkcogfpihpaaSnT
import Derived.Test.YtddjkcogfpihpaaLay2
import Derived.Deep.CutBlock
import Derived.Deep.DeepCutAuto
namespace Go.Proofs.Ytddjkcogfpihpaa
open Go.RowKit Go.Sort
set_option linter.unusedVariables false
set_option maxRecDepth 100000

theorem Box.grownR {w w' : World} {g : Nat} {vs : Array Value} {t : TypeId} (h : Box w g vs t) {row : Option Nat} (hb : w.grownBy w' row) (hg : some g ≠ row) : Box w' g vs t := (hb.block g h.lt hg).trans h
theorem sumB_bd {E : List Rg} (h : ∀ e ∈ E, e.2 = 1 ∨ e.2 = -1) : -(E.length : Int) ≤ sumB E ∧ sumB E ≤ E.length := by
  induction E with
  | nil => simp [sumB]
  | cons e E ih =>
    have h1 := h e (List.mem_cons_self ..)
    have h2 := ih (fun f hf => h f (List.mem_cons_of_mem _ hf))
    simp only [sumB, List.length_cons]
    omega
/-- What a sweep comes to. -/
structure Res (want : Int → Bool) (E : List Rg) (out : List Rg) : Prop where
  canon : Canon out
  ends : ∀ r ∈ out, (∃ e ∈ E, e.1 = r.1) ∧ ∃ e ∈ E, e.1 = r.2
  mem : ∀ x, memR out x ↔ want (dep E x) = true
  few : 2 * out.length ≤ E.length
theorem Swept.fin {want : Int → Bool} {E E' out : List Rg} {f : Int} (h : Swept want E' out f) (hp : E'.Perm E) (hs : sumB E = 0) (hw : want 0 = false) : Res want E out := by
  have hf : f = -1 := Classical.byContradiction fun hn => by
    have := h.is_.1 hn
    rw [sumB_perm hp, hs, hw] at this; cases this
  refine ⟨h.canon, fun r hr => ?_, fun x => ?_, ?_⟩
  · obtain ⟨⟨e, he, h1⟩, ⟨e2, he2, h2⟩⟩ := h.ends r hr
    exact ⟨⟨e, hp.mem_iff.1 he, h1⟩, ⟨e2, hp.mem_iff.1 he2, h2⟩⟩
  · rw [← dep_perm hp x, h.mem x]
    exact ⟨.inl, fun h' => h'.elim id (fun h' => absurd hf h'.1)⟩
  · have := h.few
    rw [if_pos hf, hp.length_eq] at this; omega
def SweptPost (B : Nat) (want : Int → Bool) (E : List Rg) (w : World) (e : Ending) (w' : World) : Prop :=
  ∃ a n c out, e = .returned (.slice a n c) ∧ Hid (SOwn rgL w' w.heap.size 30 (fun _ => False) a n c out) ∧ Hid (Below B w w') ∧ Hid (Res want E out)
theorem take_grp (E : List Rg) (k j : Nat) (hkj : k ≤ j) : E.take j = E.take k ++ (E.drop k).take (j - k) := by
  rw [← List.take_append_drop k (E.take j), List.take_take, Nat.min_eq_left hkj, List.drop_take]
theorem grp_mem {E : List Rg} {k j : Nat} {e : Rg} (h : e ∈ (E.drop k).take (j - k)) : ∃ t, k ≤ t ∧ t < j ∧ t < E.length ∧ E.getD t (0, 0) = e := by
  obtain ⟨i, hi, e1⟩ := List.mem_iff_getElem.1 h
  rw [List.length_take, List.length_drop] at hi
  refine ⟨k + i, by omega, by omega, by omega, ?_⟩
  rw [← e1, List.getElem_take, List.getElem_drop]
  simp [List.getD, show k + i < E.length by omega]
theorem take_mem {E : List Rg} {k : Nat} {e : Rg} (h : e ∈ E.take k) : ∃ t, t < k ∧ t < E.length ∧ E.getD t (0, 0) = e := by
  obtain ⟨i, hi, e1⟩ := List.mem_iff_getElem.1 h
  rw [List.length_take] at hi
  refine ⟨i, by omega, by omega, ?_⟩
  rw [← e1, List.getElem_take]
  simp [List.getD, show i < E.length by omega]
theorem getD_memR {E : List Rg} {t : Nat} (h : t < E.length) : E.getD t (0, 0) ∈ E := by
  rw [show E.getD t (0, 0) = E[t] by simp [List.getD, h]]; exact List.getElem_mem h
/-- What is known of a place once its edges are counted. -/
structure Grp (E : List Rg) (k j : Nat) (at_ d : Int) : Prop where
  d_ : d = sumB (E.take j)
  all : ∀ t, k ≤ t → t < j → (E.getD t (0, 0)).1 = at_
/-- The steps of a sweep, by places. -/
theorem swept_at {want : Int → Bool} {E out : List Rg} {k j : Nat} {f at_ d : Int} (hS : Swept want (E.take k) out f) (hord : E.Pairwise fun a b => a.1 ≤ b.1) (hA : ∀ i j, i < k → k ≤ j → j < E.length → (E.getD i (0, 0)).1 < (E.getD j (0, 0)).1) (hk : k < E.length) (hkj : k < j) (hj : j ≤ E.length)
    (hG : Grp E k j at_ d) (hat : (E.getD k (0, 0)).1 = at_) (hlow : ∀ e ∈ E, 0 ≤ e.1) (hend : j < E.length → (E.getD j (0, 0)).1 ≠ at_) :
    ((want d = true → f = -1 → Swept want (E.take j) out at_) ∧ (want d = true → f ≠ -1 → Swept want (E.take j) out f) ∧ (want d = false → f ≠ -1 → Swept want (E.take j) (out ++ [(f, at_)]) (-1)) ∧ (want d = false → f = -1 → Swept want (E.take j) out (-1))) ∧
    (f ≠ -1 → 0 ≤ f) ∧ (∀ i j', i < j → j ≤ j' → j' < E.length → (E.getD i (0, 0)).1 < (E.getD j' (0, 0)).1) := by
  have e := take_grp E k j (by omega)
  refine ⟨?_, fun hf => ?_, fun i j' hi hj' hl => ?_⟩
  · rw [hG.d_, e]
    refine hS.step (fun x hx => ?_) (fun x hx => ?_) (fun h0 => ?_) ?_ (fun x hx => hlow x (List.mem_of_mem_take hx))
    · obtain ⟨t, h1, h2, rfl⟩ := take_mem hx
      rw [← hat]; exact hA t k h1 (Nat.le_refl _) hk
    · obtain ⟨t, h1, h2, _, rfl⟩ := grp_mem hx
      exact hG.all t h1 h2
    · have := congrArg List.length h0
      rw [List.length_take, List.length_drop] at this
      simp at this; omega
    · rw [← hat]; exact hlow _ (getD_memR hk)
  · obtain ⟨⟨x, hx, h1⟩, _⟩ := hS.open_ hf
    rw [← h1]; exact hlow x (List.mem_of_mem_take hx)
  · by_cases h : i < k
    · exact hA i j' h (by omega) hl
    · rw [hG.all i (by omega) hi]
      have h1 := hend (by omega)
      have mono : ∀ p q, p ≤ q → q < E.length → (E.getD p (0, 0)).1 ≤ (E.getD q (0, 0)).1 := fun p q hpq hq => by
        by_cases e2 : p = q
        · subst e2; exact Int.le_refl _
        · have := List.pairwise_iff_getElem.1 hord p q (by omega) hq (by omega)
          simpa [List.getD, hq, show p < E.length by omega] using this
      have h2 := mono k j (by omega) (by omega)
      have h3 := mono j j' hj' hl
      omega
theorem want_add (d : Int) (w : World) : Calls Try.prog 22 #[.int .i64 d] w fun e w' => e = .returned (.bool (decide (0 < d))) ∧ w = w' := by
  go_enter Try.func22, Try.ntmps22
  go_wp2
  go_ret
  exact ⟨rfl, rfl⟩
set_option maxHeartbeats 8000000 in
theorem sweptW_add (B : Nat) (a : Option Addr) (len cap : Nat) (E : List Rg) (w : World) (ho : SOwn rgL w B 52 (fun _ => False) a len cap E) (hBw : B ≤ w.heap.size) (hsum : sumB E = 0) (hby : ∀ e ∈ E, e.2 = 1 ∨ e.2 = -1) (hlow : ∀ e ∈ E, 0 ≤ e.1 ∧ e.1 ≤ 1048576) (hlen : len ≤ 1000) :
    Calls Try.prog 20 #[.slice a len cap, .func (.func 22) #[] #[]] w (SweptPost B (fun d => decide (0 < d)) E w) := by
  have hle := ho.hle
  have hmx := ho.hmax
  unfold maxLen at hmx
  obtain ⟨g, hg⟩ : ∃ g, Hid (w.heap.size = g) := ⟨_, rfl⟩
  have O0 := Lib.hid (ho.alloc (.cells #[.slice a len cap] 46))
  have L0 : Hid (Below B w (w.alloc (.cells #[.slice a len cap] 46))) := (Below_alloc1 _).mono hBw
  have X0 := Lib.hid (Box.new (w := w) (vs := #[.slice a len cap]) (t := 46) rfl)
  have hne : ∀ k, (Value.slice a len cap).ownBlock = some k → k ≠ g := fun k hk => by have := (ho.lt k hk).2; have := hg.out; omega
  have HSUM := Lib.hid hsum
  have HBY := Lib.hid hby
  have HLOW := Lib.hid hlow
  clear ho hsum hby hlow
  go_enter Try.func20, Try.ntmps20
  go_wp2_with fail
  obtain ⟨W0, hW0⟩ : ∃ W, w.alloc (.cells #[.slice a len cap] 46) = W := ⟨_, rfl⟩
  rw [hW0] at O0 L0 X0 ⊢
  rw [hg.out] at X0 ⊢
  have hs0 : w.heap.size ≤ W0.heap.size := by rw [← hW0]; simp
  refine (sortE a len cap g E W0 B O0.out (X0.out.cell 0) X0.out.lt hne hlen).mono ?_
  rintro e w1 ⟨rfl, E', hp, hord, ho1, hg1⟩
  have X1 := Lib.hid (X0.out.grownR hg1 (fun e => hne g e.symm rfl))
  have L1 := Lib.hid (O0.out.grown L0.out (Nat.le_refl _) (by omega) hg1)
  have hEl : E'.length = len := ho1.1
  have hs1 : w.heap.size ≤ w1.heap.size := by have := hg1.size; omega
  obtain ⟨B2, hB2⟩ : ∃ b, Hid (w1.heap.size = b) := ⟨_, rfl⟩
  have R1 := Lib.hid ho1.sRow
  have HP := Lib.hid hp
  have HORD := Lib.hid hord
  have HL' : Hid (∀ e ∈ E', 0 ≤ e.1 ∧ e.1 ≤ 1048576) := fun e he => HLOW.out e (hp.mem_iff.1 he)
  have HB' : Hid (∀ e ∈ E', e.2 = 1 ∨ e.2 = -1) := fun e he => HBY.out e (hp.mem_iff.1 he)
  have hEL := Lib.hid hEl
  clear hp hord ho1 hg1 hW0 O0 X0 L0 hEl
  go_wp2_with fail
  go_loopw [5, 6, 7, 8] (fun ov dv fv iv wr => ∃ (k lo co : Nat) (ao : Option Addr) (out : List Rg) (d f : Int), k ≤ len ∧ iv = .int .i64 k ∧ ov = .slice ao lo co ∧ dv = .int .i64 d ∧ fv = .int .i64 f ∧ lo ≤ 1000 ∧ Hid (SOwn rgL wr B2 30 (fun _ => False) ao lo co out) ∧ Hid (Below B2 w1 wr) ∧ Hid (d = sumB (E'.take k)) ∧ Hid (Swept (fun d => decide (0 < d)) (E'.take k) out f) ∧ Hid (∀ i j, i < k → k ≤ j → j < E'.length → (E'.getD i (0, 0)).1 < (E'.getD j (0, 0)).1)) (fun _ _ _ iv _ => len - (intOf iv).toNat)
  case atStart => exact ⟨0, 0, 0, none, [], 0, -1, by omega, rfl, rfl, rfl, rfl, by omega, SOwn.nil .., Below.refl _ _, rfl, Swept.nil (by decide), fun i j hi => absurd hi (by omega)⟩
  case round =>
    obtain ⟨k, lo, co, ao, out, d, f, hk, rfl, rfl, rfl, rfl, hlo, hO, hL, hD, hS, hA⟩ := hrel
    have hBr : B2 ≤ wr.heap.size := by have := hL.out.size; have := hB2.out; omega
    have hLw : Below w1.heap.size w1 wr := by rw [hB2.out]; exact hL.out
    have XR := Lib.hid (X1.out.below hLw X1.out.lt)
    have RR := Lib.hid (R1.out.below hLw)
    clear hLw
    have c0 : wr.cell? ⟨g, 0, none⟩ = some (.slice a len cap) := XR.out.cell 0
    by_cases hlt : k < len
    · have kI : (k : Int) < (len : Int) := by omega
      obtain ⟨blk, off, vs, rfl, _, _, hat, hcell⟩ := RR.out.get k hlt
      have hkE : k < E'.length := by rw [hEL.out]; exact hlt
      have hvs := hat (E'.getD k (0, 0)) (by rw [List.getElem?_eq_getElem hkE]; simp [List.getD, hkE])
      obtain ⟨⟨at_, by0⟩, hr⟩ : ∃ r : Rg, Hid (E'.getD k (0, 0) = r) := ⟨_, rfl⟩
      rw [hr.out] at hvs
      have hvs' : vs = [.int .i64 at_, .int .i64 by0] := hvs
      subst hvs'
      have e0 : wr.cell? ⟨blk, off + k * 2, none⟩ = some (.int .i64 at_) := hcell 0 (by decide)
      clear hat hvs hcell
      go_upto_block 2 with fail
      go_cut [6, 8] (fun dv iv wx => ∃ (j : Nat) (d' : Int), k < j ∧ j ≤ len ∧ iv = .int .i64 j ∧ dv = .int .i64 d' ∧ wr = wx ∧ Hid (Grp E' k j at_ d') ∧ Hid (j < E'.length → (E'.getD j (0, 0)).1 ≠ at_))
      case first =>
       go_wp2_with fail
       go_loopw [6, 8] (fun dv iv wi => ∃ (j : Nat) (d' : Int), k ≤ j ∧ j ≤ len ∧ iv = .int .i64 j ∧ dv = .int .i64 d' ∧ wr = wi ∧ Hid (Grp E' k j at_ d')) (fun _ iv _ => len - (intOf iv).toNat)
       case atStart => exact ⟨k, d, Nat.le_refl _, by omega, rfl, rfl, rfl, ⟨hD.out, fun t h1 h2 => absurd h1 (by omega)⟩⟩
       case round =>
         obtain ⟨j, d', hkj, hj, rfl, rfl, rfl, hG⟩ := hrel
         have hdb := sumB_bd (E := E'.take j) (fun e he => HB'.out e (List.mem_of_mem_take he))
         rw [← hG.out.d_, List.length_take, hEL.out] at hdb
         by_cases hjl : j < len
         · have jI : (j : Int) < (len : Int) := by omega
           have hjE : j < E'.length := by rw [hEL.out]; exact hjl
           obtain ⟨blk', off', vs', hab, _, _, hat', hcell'⟩ := RR.out.get j hjl
           obtain ⟨rfl, rfl⟩ : blk = blk' ∧ off = off' := by simpa using hab
           have hvs' := hat' (E'.getD j (0, 0)) (by rw [List.getElem?_eq_getElem hjE]; simp [List.getD, hjE])
           have hst : Hid (sumB (E'.take (j + 1)) = sumB (E'.take j) + (E'.getD j (0, 0)).2) := by
             show _ = _
             rw [List.take_succ_eq_append_getElem hjE, sumB_append]
             simp [sumB, List.getD, hjE]
           have hby := HB'.out _ (getD_memR hjE)
           obtain ⟨⟨at', by'⟩, hr'⟩ : ∃ r : Rg, Hid (E'.getD j (0, 0) = r) := ⟨_, rfl⟩
           rw [hr'.out] at hvs' hst hby
           simp only at hby
           have hv2 : vs' = [.int .i64 at', .int .i64 by'] := hvs'
           subst hv2
           have e2 : wr.cell? ⟨blk, off + j * 2, none⟩ = some (.int .i64 at') := hcell' 0 (by decide)
           have e3 : wr.cell? ⟨blk, off + j * 2 + 1, none⟩ = some (.int .i64 by') := hcell' 1 (by decide)
           clear hat' hcell' hvs' hab
           by_cases hat : at' = at_
           · have qE : (at' == at_) = true := by simp [hat]
             have hGn : Hid (Grp E' k (j + 1) at_ (d' + by')) := ⟨by rw [hst.out, hG.out.d_], fun t h1 h2 => by
               by_cases e : t = j
               · subst e; rw [hr'.out]; exact hat
               · exact hG.out.all t h1 (by omega)⟩
             have hb1 : -2000 ≤ d' := by omega
             have hb2 : d' ≤ 2000 := by omega
             clear hat hst hG hdb
             go_wp2_with fail
             go_roundw
             case rel => exact ⟨j + 1, d' + by', by omega, by omega, by go_num, rfl, by first | rfl | trivial, hGn⟩
             case measure => simp [intOf]; omega
           · have qE : (at' == at_) = false := by simp [hat]
             have hkj2 : k < j := by
               rcases Nat.lt_or_ge k j with h | h
               · exact h
               · obtain rfl : j = k := by omega
                 have := hr'.out.symm.trans hr.out
                 injection this with h1 h2
                 exact absurd h1 hat
             have hEnd : Hid (j < E'.length → (E'.getD j (0, 0)).1 ≠ at_) := fun _ => by rw [hr'.out]; exact hat
             clear hat hst hdb
             go_wp2_with fail
             go_meet
             exact ⟨j, d', hkj2, hj, rfl, rfl, by first | rfl | trivial, hG, hEnd⟩
         · obtain rfl : j = len := by omega
           have jF : decide ((j : Int) < (j : Int)) = false := by simp
           have hEnd : Hid (j < E'.length → (E'.getD j (0, 0)).1 ≠ at_) := fun h => absurd h (by rw [hEL.out]; omega)
           clear hdb
           go_wp2_with fail
           go_meet
           exact ⟨j, d', hlt, hj, rfl, rfl, by first | rfl | trivial, hG, hEnd⟩
      obtain ⟨j, d', hkj, hj, rfl, rfl, rfl, hG, hEnd⟩ := hcut
      have hAT : (E'.getD k (0, 0)).1 = at_ := by rw [hr.out]
      obtain ⟨⟨S1, S2, S3, S4⟩, hf0, hA'⟩ := swept_at hS.out HORD.out hA.out hkE hkj (by rw [hEL.out]; exact hj) hG.out hAT (fun e he => (HL'.out e he).1) hEnd.out
      have HA' := Lib.hid hA'
      have hdb := sumB_bd (E := E'.take j) (fun e he => HB'.out e (List.mem_of_mem_take he))
      rw [← hG.out.d_, List.length_take, hEL.out] at hdb
      have hd1 : -1000 ≤ d' := by omega
      have hd2 : d' ≤ 1000 := by omega
      have HD' : Hid (d' = sumB (E'.take j)) := hG.out.d_
      clear hA' hAT hG hEnd hS hA hdb
      cases hw : (fun d => decide (0 < d) : Int → Bool) d' with
      | true =>
        have hw2 : (decide (0 < d')) = true := hw
        by_cases hf : f = -1
        · have HS := Lib.hid (S1 hw hf)
          subst hf
          clear S1 S2 S3 S4 hf0 hw
          go_wp2_with fail
          refine (want_add d' wr).mono ?_
          rintro e w2 ⟨rfl, rfl⟩
          rw [hw2]
          go_wp2_with fail
          go_roundw
          case rel => exact ⟨j, lo, co, ao, out, d', at_, hj, rfl, rfl, rfl, rfl, hlo, hO, hL, HD', HS, HA'⟩
          case measure => simp [intOf]; omega
        · have HS := Lib.hid (S2 hw hf)
          have f0 := hf0 hf
          have fF : decide (f < 0) = false := by simp; omega
          clear S1 S2 S3 S4 hf0 hw hf
          go_wp2_with fail
          refine (want_add d' wr).mono ?_
          rintro e w2 ⟨rfl, rfl⟩
          rw [hw2]
          go_wp2_with fail
          refine (want_add d' wr).mono ?_
          rintro e w2 ⟨rfl, rfl⟩
          rw [hw2]
          go_wp2_with fail
          go_roundw
          case rel => exact ⟨j, lo, co, ao, out, d', f, hj, rfl, rfl, rfl, rfl, hlo, hO, hL, HD', HS, HA'⟩
          case measure => simp [intOf]; omega
      | false =>
        have hw2 : (decide (0 < d')) = false := hw
        by_cases hf : f = -1
        · have HS := Lib.hid (S4 hw hf)
          subst hf
          clear S1 S2 S3 S4 hf0 hw
          go_wp2_with fail
          refine (want_add d' wr).mono ?_
          rintro e w2 ⟨rfl, rfl⟩
          rw [hw2]
          go_wp2_with fail
          refine (want_add d' wr).mono ?_
          rintro e w2 ⟨rfl, rfl⟩
          rw [hw2]
          go_wp2_with fail
          go_roundw
          case rel => exact ⟨j, lo, co, ao, out, d', -1, hj, rfl, rfl, rfl, rfl, hlo, hO, hL, HD', HS, HA'⟩
          case measure => simp [intOf]; omega
        · have HS := Lib.hid (S3 hw hf)
          have f0 := hf0 hf
          have fF : decide (f < 0) = false := by simp; omega
          have fT : decide (0 ≤ f) = true := by simp; omega
          have hlo2 : lo + 1 ≤ 1000 := by
            have h1 := HS.out.few
            rw [List.length_append, if_pos rfl, List.length_take] at h1
            have h2 := hO.out.1
            simp at h1; omega
          clear S1 S2 S3 S4 hf0 hw hf
          go_wp2_with fail
          refine (want_add d' wr).mono ?_
          rintro e w2 ⟨rfl, rfl⟩
          rw [hw2]
          go_wp2_with fail
          refine (want_add d' wr).mono ?_
          rintro e w2 ⟨rfl, rfl⟩
          rw [hw2]
          go_wp2_with (at_builtin; refine wpList_append_one (L := rgL) (wr := wr) rfl (.tmp 63) (.tmp 67) 24 rfl B2 30 _ 16 Try.underlying24 info_range rfl (fun _ => False) ao lo co _ rfl hO.out #[.int .i64 f, .int .i64 at_] (f, at_) rfl (fun _ => False) rfl (fun b h => h.elim) (by unfold maxLen; omega) (by omega) hBr ?_)
          intro a5 c5 w5 hown5 hg5
          have L5 := Lib.hid (hO.out.grown hL.out (Nat.le_refl _) hBr hg5)
          have O5 := Lib.hid hown5
          clear hown5 hg5 hO hL XR RR
          go_wp2_with fail
          go_roundw
          case rel => exact ⟨j, lo + 1, c5, a5, _, d', -1, hj, rfl, rfl, rfl, rfl, hlo2, O5, L5, HD', HS, HA'⟩
          case measure => simp [intOf]; omega
    · obtain rfl : k = len := by omega
      have kF : decide ((k : Int) < (k : Int)) = false := by simp
      have hfin : E'.take k = E' := List.take_of_length_le (by rw [hEL.out]; exact Nat.le_refl _)
      rw [hfin] at hS
      have HR : Hid (Res (fun d => decide (0 < d)) E out) := hS.out.fin HP.out HSUM.out (by decide)
      go_wp2_with fail
      go_ret
      refine ⟨_, _, _, _, rfl, ?_, ?_, HR⟩
      · show SOwn _ _ _ _ _ _ _ _ _
        exact hO.out.mono (by have := hB2.out; omega) (fun _ h => h)
      · exact L1.out.trans (hL.out.mono (by have := hB2.out; have := L1.out.size; omega))
theorem want_cut (d : Int) (w : World) : Calls Try.prog 23 #[.int .i64 d] w fun e w' => e = .returned (.bool (decide (0 < d))) ∧ w = w' := by
  go_enter Try.func23, Try.ntmps23
  go_wp2
  go_ret
  exact ⟨rfl, rfl⟩
set_option maxHeartbeats 8000000 in
theorem sweptW_cut (B : Nat) (a : Option Addr) (len cap : Nat) (E : List Rg) (w : World) (ho : SOwn rgL w B 52 (fun _ => False) a len cap E) (hBw : B ≤ w.heap.size) (hsum : sumB E = 0) (hby : ∀ e ∈ E, e.2 = 1 ∨ e.2 = -1) (hlow : ∀ e ∈ E, 0 ≤ e.1 ∧ e.1 ≤ 1048576) (hlen : len ≤ 1000) :
    Calls Try.prog 20 #[.slice a len cap, .func (.func 23) #[] #[]] w (SweptPost B (fun d => decide (0 < d)) E w) := by
  have hle := ho.hle
  have hmx := ho.hmax
  unfold maxLen at hmx
  obtain ⟨g, hg⟩ : ∃ g, Hid (w.heap.size = g) := ⟨_, rfl⟩
  have O0 := Lib.hid (ho.alloc (.cells #[.slice a len cap] 46))
  have L0 : Hid (Below B w (w.alloc (.cells #[.slice a len cap] 46))) := (Below_alloc1 _).mono hBw
  have X0 := Lib.hid (Box.new (w := w) (vs := #[.slice a len cap]) (t := 46) rfl)
  have hne : ∀ k, (Value.slice a len cap).ownBlock = some k → k ≠ g := fun k hk => by have := (ho.lt k hk).2; have := hg.out; omega
  have HSUM := Lib.hid hsum
  have HBY := Lib.hid hby
  have HLOW := Lib.hid hlow
  clear ho hsum hby hlow
  go_enter Try.func20, Try.ntmps20
  go_wp2_with fail
  obtain ⟨W0, hW0⟩ : ∃ W, w.alloc (.cells #[.slice a len cap] 46) = W := ⟨_, rfl⟩
  rw [hW0] at O0 L0 X0 ⊢
  rw [hg.out] at X0 ⊢
  have hs0 : w.heap.size ≤ W0.heap.size := by rw [← hW0]; simp
  refine (sortE a len cap g E W0 B O0.out (X0.out.cell 0) X0.out.lt hne hlen).mono ?_
  rintro e w1 ⟨rfl, E', hp, hord, ho1, hg1⟩
  have X1 := Lib.hid (X0.out.grownR hg1 (fun e => hne g e.symm rfl))
  have L1 := Lib.hid (O0.out.grown L0.out (Nat.le_refl _) (by omega) hg1)
  have hEl : E'.length = len := ho1.1
  have hs1 : w.heap.size ≤ w1.heap.size := by have := hg1.size; omega
  obtain ⟨B2, hB2⟩ : ∃ b, Hid (w1.heap.size = b) := ⟨_, rfl⟩
  have R1 := Lib.hid ho1.sRow
  have HP := Lib.hid hp
  have HORD := Lib.hid hord
  have HL' : Hid (∀ e ∈ E', 0 ≤ e.1 ∧ e.1 ≤ 1048576) := fun e he => HLOW.out e (hp.mem_iff.1 he)
  have HB' : Hid (∀ e ∈ E', e.2 = 1 ∨ e.2 = -1) := fun e he => HBY.out e (hp.mem_iff.1 he)
  have hEL := Lib.hid hEl
  clear hp hord ho1 hg1 hW0 O0 X0 L0 hEl
  go_wp2_with fail
  go_loopw [5, 6, 7, 8] (fun ov dv fv iv wr => ∃ (k lo co : Nat) (ao : Option Addr) (out : List Rg) (d f : Int), k ≤ len ∧ iv = .int .i64 k ∧ ov = .slice ao lo co ∧ dv = .int .i64 d ∧ fv = .int .i64 f ∧ lo ≤ 1000 ∧ Hid (SOwn rgL wr B2 30 (fun _ => False) ao lo co out) ∧ Hid (Below B2 w1 wr) ∧ Hid (d = sumB (E'.take k)) ∧ Hid (Swept (fun d => decide (0 < d)) (E'.take k) out f) ∧ Hid (∀ i j, i < k → k ≤ j → j < E'.length → (E'.getD i (0, 0)).1 < (E'.getD j (0, 0)).1)) (fun _ _ _ iv _ => len - (intOf iv).toNat)
  case atStart => exact ⟨0, 0, 0, none, [], 0, -1, by omega, rfl, rfl, rfl, rfl, by omega, SOwn.nil .., Below.refl _ _, rfl, Swept.nil (by decide), fun i j hi => absurd hi (by omega)⟩
  case round =>
    obtain ⟨k, lo, co, ao, out, d, f, hk, rfl, rfl, rfl, rfl, hlo, hO, hL, hD, hS, hA⟩ := hrel
    have hBr : B2 ≤ wr.heap.size := by have := hL.out.size; have := hB2.out; omega
    have hLw : Below w1.heap.size w1 wr := by rw [hB2.out]; exact hL.out
    have XR := Lib.hid (X1.out.below hLw X1.out.lt)
    have RR := Lib.hid (R1.out.below hLw)
    clear hLw
    have c0 : wr.cell? ⟨g, 0, none⟩ = some (.slice a len cap) := XR.out.cell 0
    by_cases hlt : k < len
    · have kI : (k : Int) < (len : Int) := by omega
      obtain ⟨blk, off, vs, rfl, _, _, hat, hcell⟩ := RR.out.get k hlt
      have hkE : k < E'.length := by rw [hEL.out]; exact hlt
      have hvs := hat (E'.getD k (0, 0)) (by rw [List.getElem?_eq_getElem hkE]; simp [List.getD, hkE])
      obtain ⟨⟨at_, by0⟩, hr⟩ : ∃ r : Rg, Hid (E'.getD k (0, 0) = r) := ⟨_, rfl⟩
      rw [hr.out] at hvs
      have hvs' : vs = [.int .i64 at_, .int .i64 by0] := hvs
      subst hvs'
      have e0 : wr.cell? ⟨blk, off + k * 2, none⟩ = some (.int .i64 at_) := hcell 0 (by decide)
      clear hat hvs hcell
      go_upto_block 2 with fail
      go_cut [6, 8] (fun dv iv wx => ∃ (j : Nat) (d' : Int), k < j ∧ j ≤ len ∧ iv = .int .i64 j ∧ dv = .int .i64 d' ∧ wr = wx ∧ Hid (Grp E' k j at_ d') ∧ Hid (j < E'.length → (E'.getD j (0, 0)).1 ≠ at_))
      case first =>
       go_wp2_with fail
       go_loopw [6, 8] (fun dv iv wi => ∃ (j : Nat) (d' : Int), k ≤ j ∧ j ≤ len ∧ iv = .int .i64 j ∧ dv = .int .i64 d' ∧ wr = wi ∧ Hid (Grp E' k j at_ d')) (fun _ iv _ => len - (intOf iv).toNat)
       case atStart => exact ⟨k, d, Nat.le_refl _, by omega, rfl, rfl, rfl, ⟨hD.out, fun t h1 h2 => absurd h1 (by omega)⟩⟩
       case round =>
         obtain ⟨j, d', hkj, hj, rfl, rfl, rfl, hG⟩ := hrel
         have hdb := sumB_bd (E := E'.take j) (fun e he => HB'.out e (List.mem_of_mem_take he))
         rw [← hG.out.d_, List.length_take, hEL.out] at hdb
         by_cases hjl : j < len
         · have jI : (j : Int) < (len : Int) := by omega
           have hjE : j < E'.length := by rw [hEL.out]; exact hjl
           obtain ⟨blk', off', vs', hab, _, _, hat', hcell'⟩ := RR.out.get j hjl
           obtain ⟨rfl, rfl⟩ : blk = blk' ∧ off = off' := by simpa using hab
           have hvs' := hat' (E'.getD j (0, 0)) (by rw [List.getElem?_eq_getElem hjE]; simp [List.getD, hjE])
           have hst : Hid (sumB (E'.take (j + 1)) = sumB (E'.take j) + (E'.getD j (0, 0)).2) := by
             show _ = _
             rw [List.take_succ_eq_append_getElem hjE, sumB_append]
             simp [sumB, List.getD, hjE]
           have hby := HB'.out _ (getD_memR hjE)
           obtain ⟨⟨at', by'⟩, hr'⟩ : ∃ r : Rg, Hid (E'.getD j (0, 0) = r) := ⟨_, rfl⟩
           rw [hr'.out] at hvs' hst hby
           simp only at hby
           have hv2 : vs' = [.int .i64 at', .int .i64 by'] := hvs'
           subst hv2
           have e2 : wr.cell? ⟨blk, off + j * 2, none⟩ = some (.int .i64 at') := hcell' 0 (by decide)
           have e3 : wr.cell? ⟨blk, off + j * 2 + 1, none⟩ = some (.int .i64 by') := hcell' 1 (by decide)
           clear hat' hcell' hvs' hab
           by_cases hat : at' = at_
           · have qE : (at' == at_) = true := by simp [hat]
             have hGn : Hid (Grp E' k (j + 1) at_ (d' + by')) := ⟨by rw [hst.out, hG.out.d_], fun t h1 h2 => by
               by_cases e : t = j
               · subst e; rw [hr'.out]; exact hat
               · exact hG.out.all t h1 (by omega)⟩
             have hb1 : -2000 ≤ d' := by omega
             have hb2 : d' ≤ 2000 := by omega
             clear hat hst hG hdb
             go_wp2_with fail
             go_roundw
             case rel => exact ⟨j + 1, d' + by', by omega, by omega, by go_num, rfl, by first | rfl | trivial, hGn⟩
             case measure => simp [intOf]; omega
           · have qE : (at' == at_) = false := by simp [hat]
             have hkj2 : k < j := by
               rcases Nat.lt_or_ge k j with h | h
               · exact h
               · obtain rfl : j = k := by omega
                 have := hr'.out.symm.trans hr.out
                 injection this with h1 h2
                 exact absurd h1 hat
             have hEnd : Hid (j < E'.length → (E'.getD j (0, 0)).1 ≠ at_) := fun _ => by rw [hr'.out]; exact hat
             clear hat hst hdb
             go_wp2_with fail
             go_meet
             exact ⟨j, d', hkj2, hj, rfl, rfl, by first | rfl | trivial, hG, hEnd⟩
         · obtain rfl : j = len := by omega
           have jF : decide ((j : Int) < (j : Int)) = false := by simp
           have hEnd : Hid (j < E'.length → (E'.getD j (0, 0)).1 ≠ at_) := fun h => absurd h (by rw [hEL.out]; omega)
           clear hdb
           go_wp2_with fail
           go_meet
           exact ⟨j, d', hlt, hj, rfl, rfl, by first | rfl | trivial, hG, hEnd⟩
      obtain ⟨j, d', hkj, hj, rfl, rfl, rfl, hG, hEnd⟩ := hcut
      have hAT : (E'.getD k (0, 0)).1 = at_ := by rw [hr.out]
      obtain ⟨⟨S1, S2, S3, S4⟩, hf0, hA'⟩ := swept_at hS.out HORD.out hA.out hkE hkj (by rw [hEL.out]; exact hj) hG.out hAT (fun e he => (HL'.out e he).1) hEnd.out
      have HA' := Lib.hid hA'
      have hdb := sumB_bd (E := E'.take j) (fun e he => HB'.out e (List.mem_of_mem_take he))
      rw [← hG.out.d_, List.length_take, hEL.out] at hdb
      have hd1 : -1000 ≤ d' := by omega
      have hd2 : d' ≤ 1000 := by omega
      have HD' : Hid (d' = sumB (E'.take j)) := hG.out.d_
      clear hA' hAT hG hEnd hS hA hdb
      cases hw : (fun d => decide (0 < d) : Int → Bool) d' with
      | true =>
        have hw2 : (decide (0 < d')) = true := hw
        by_cases hf : f = -1
        · have HS := Lib.hid (S1 hw hf)
          subst hf
          clear S1 S2 S3 S4 hf0 hw
          go_wp2_with fail
          refine (want_cut d' wr).mono ?_
          rintro e w2 ⟨rfl, rfl⟩
          rw [hw2]
          go_wp2_with fail
          go_roundw
          case rel => exact ⟨j, lo, co, ao, out, d', at_, hj, rfl, rfl, rfl, rfl, hlo, hO, hL, HD', HS, HA'⟩
          case measure => simp [intOf]; omega
        · have HS := Lib.hid (S2 hw hf)
          have f0 := hf0 hf
          have fF : decide (f < 0) = false := by simp; omega
          clear S1 S2 S3 S4 hf0 hw hf
          go_wp2_with fail
          refine (want_cut d' wr).mono ?_
          rintro e w2 ⟨rfl, rfl⟩
          rw [hw2]
          go_wp2_with fail
          refine (want_cut d' wr).mono ?_
          rintro e w2 ⟨rfl, rfl⟩
          rw [hw2]
          go_wp2_with fail
          go_roundw
          case rel => exact ⟨j, lo, co, ao, out, d', f, hj, rfl, rfl, rfl, rfl, hlo, hO, hL, HD', HS, HA'⟩
          case measure => simp [intOf]; omega
      | false =>
        have hw2 : (decide (0 < d')) = false := hw
        by_cases hf : f = -1
        · have HS := Lib.hid (S4 hw hf)
          subst hf
          clear S1 S2 S3 S4 hf0 hw
          go_wp2_with fail
          refine (want_cut d' wr).mono ?_
          rintro e w2 ⟨rfl, rfl⟩
          rw [hw2]
          go_wp2_with fail
          refine (want_cut d' wr).mono ?_
          rintro e w2 ⟨rfl, rfl⟩
          rw [hw2]
          go_wp2_with fail
          go_roundw
          case rel => exact ⟨j, lo, co, ao, out, d', -1, hj, rfl, rfl, rfl, rfl, hlo, hO, hL, HD', HS, HA'⟩
          case measure => simp [intOf]; omega
        · have HS := Lib.hid (S3 hw hf)
          have f0 := hf0 hf
          have fF : decide (f < 0) = false := by simp; omega
          have fT : decide (0 ≤ f) = true := by simp; omega
          have hlo2 : lo + 1 ≤ 1000 := by
            have h1 := HS.out.few
            rw [List.length_append, if_pos rfl, List.length_take] at h1
            have h2 := hO.out.1
            simp at h1; omega
          clear S1 S2 S3 S4 hf0 hw hf
          go_wp2_with fail
          refine (want_cut d' wr).mono ?_
          rintro e w2 ⟨rfl, rfl⟩
          rw [hw2]
          go_wp2_with fail
          refine (want_cut d' wr).mono ?_
          rintro e w2 ⟨rfl, rfl⟩
          rw [hw2]
          go_wp2_with (at_builtin; refine wpList_append_one (L := rgL) (wr := wr) rfl (.tmp 63) (.tmp 67) 24 rfl B2 30 _ 16 Try.underlying24 info_range rfl (fun _ => False) ao lo co _ rfl hO.out #[.int .i64 f, .int .i64 at_] (f, at_) rfl (fun _ => False) rfl (fun b h => h.elim) (by unfold maxLen; omega) (by omega) hBr ?_)
          intro a5 c5 w5 hown5 hg5
          have L5 := Lib.hid (hO.out.grown hL.out (Nat.le_refl _) hBr hg5)
          have O5 := Lib.hid hown5
          clear hown5 hg5 hO hL XR RR
          go_wp2_with fail
          go_roundw
          case rel => exact ⟨j, lo + 1, c5, a5, _, d', -1, hj, rfl, rfl, rfl, rfl, hlo2, O5, L5, HD', HS, HA'⟩
          case measure => simp [intOf]; omega
    · obtain rfl : k = len := by omega
      have kF : decide ((k : Int) < (k : Int)) = false := by simp
      have hfin : E'.take k = E' := List.take_of_length_le (by rw [hEL.out]; exact Nat.le_refl _)
      rw [hfin] at hS
      have HR : Hid (Res (fun d => decide (0 < d)) E out) := hS.out.fin HP.out HSUM.out (by decide)
      go_wp2_with fail
      go_ret
      refine ⟨_, _, _, _, rfl, ?_, ?_, HR⟩
      · show SOwn _ _ _ _ _ _ _ _ _
        exact hO.out.mono (by have := hB2.out; omega) (fun _ h => h)
      · exact L1.out.trans (hL.out.mono (by have := hB2.out; have := L1.out.size; omega))
theorem want_both (d : Int) (w : World) : Calls Try.prog 24 #[.int .i64 d] w fun e w' => e = .returned (.bool (d == 2)) ∧ w = w' := by
  go_enter Try.func24, Try.ntmps24
  go_wp2
  go_ret
  exact ⟨rfl, rfl⟩
set_option maxHeartbeats 8000000 in
theorem sweptW_both (B : Nat) (a : Option Addr) (len cap : Nat) (E : List Rg) (w : World) (ho : SOwn rgL w B 52 (fun _ => False) a len cap E) (hBw : B ≤ w.heap.size) (hsum : sumB E = 0) (hby : ∀ e ∈ E, e.2 = 1 ∨ e.2 = -1) (hlow : ∀ e ∈ E, 0 ≤ e.1 ∧ e.1 ≤ 1048576) (hlen : len ≤ 1000) :
    Calls Try.prog 20 #[.slice a len cap, .func (.func 24) #[] #[]] w (SweptPost B (fun d => d == 2) E w) := by
  have hle := ho.hle
  have hmx := ho.hmax
  unfold maxLen at hmx
  obtain ⟨g, hg⟩ : ∃ g, Hid (w.heap.size = g) := ⟨_, rfl⟩
  have O0 := Lib.hid (ho.alloc (.cells #[.slice a len cap] 46))
  have L0 : Hid (Below B w (w.alloc (.cells #[.slice a len cap] 46))) := (Below_alloc1 _).mono hBw
  have X0 := Lib.hid (Box.new (w := w) (vs := #[.slice a len cap]) (t := 46) rfl)
  have hne : ∀ k, (Value.slice a len cap).ownBlock = some k → k ≠ g := fun k hk => by have := (ho.lt k hk).2; have := hg.out; omega
  have HSUM := Lib.hid hsum
  have HBY := Lib.hid hby
  have HLOW := Lib.hid hlow
  clear ho hsum hby hlow
  go_enter Try.func20, Try.ntmps20
  go_wp2_with fail
  obtain ⟨W0, hW0⟩ : ∃ W, w.alloc (.cells #[.slice a len cap] 46) = W := ⟨_, rfl⟩
  rw [hW0] at O0 L0 X0 ⊢
  rw [hg.out] at X0 ⊢
  have hs0 : w.heap.size ≤ W0.heap.size := by rw [← hW0]; simp
  refine (sortE a len cap g E W0 B O0.out (X0.out.cell 0) X0.out.lt hne hlen).mono ?_
  rintro e w1 ⟨rfl, E', hp, hord, ho1, hg1⟩
  have X1 := Lib.hid (X0.out.grownR hg1 (fun e => hne g e.symm rfl))
  have L1 := Lib.hid (O0.out.grown L0.out (Nat.le_refl _) (by omega) hg1)
  have hEl : E'.length = len := ho1.1
  have hs1 : w.heap.size ≤ w1.heap.size := by have := hg1.size; omega
  obtain ⟨B2, hB2⟩ : ∃ b, Hid (w1.heap.size = b) := ⟨_, rfl⟩
  have R1 := Lib.hid ho1.sRow
  have HP := Lib.hid hp
  have HORD := Lib.hid hord
  have HL' : Hid (∀ e ∈ E', 0 ≤ e.1 ∧ e.1 ≤ 1048576) := fun e he => HLOW.out e (hp.mem_iff.1 he)
  have HB' : Hid (∀ e ∈ E', e.2 = 1 ∨ e.2 = -1) := fun e he => HBY.out e (hp.mem_iff.1 he)
  have hEL := Lib.hid hEl
  clear hp hord ho1 hg1 hW0 O0 X0 L0 hEl
  go_wp2_with fail
  go_loopw [5, 6, 7, 8] (fun ov dv fv iv wr => ∃ (k lo co : Nat) (ao : Option Addr) (out : List Rg) (d f : Int), k ≤ len ∧ iv = .int .i64 k ∧ ov = .slice ao lo co ∧ dv = .int .i64 d ∧ fv = .int .i64 f ∧ lo ≤ 1000 ∧ Hid (SOwn rgL wr B2 30 (fun _ => False) ao lo co out) ∧ Hid (Below B2 w1 wr) ∧ Hid (d = sumB (E'.take k)) ∧ Hid (Swept (fun d => d == 2) (E'.take k) out f) ∧ Hid (∀ i j, i < k → k ≤ j → j < E'.length → (E'.getD i (0, 0)).1 < (E'.getD j (0, 0)).1)) (fun _ _ _ iv _ => len - (intOf iv).toNat)
  case atStart => exact ⟨0, 0, 0, none, [], 0, -1, by omega, rfl, rfl, rfl, rfl, by omega, SOwn.nil .., Below.refl _ _, rfl, Swept.nil (by decide), fun i j hi => absurd hi (by omega)⟩
  case round =>
    obtain ⟨k, lo, co, ao, out, d, f, hk, rfl, rfl, rfl, rfl, hlo, hO, hL, hD, hS, hA⟩ := hrel
    have hBr : B2 ≤ wr.heap.size := by have := hL.out.size; have := hB2.out; omega
    have hLw : Below w1.heap.size w1 wr := by rw [hB2.out]; exact hL.out
    have XR := Lib.hid (X1.out.below hLw X1.out.lt)
    have RR := Lib.hid (R1.out.below hLw)
    clear hLw
    have c0 : wr.cell? ⟨g, 0, none⟩ = some (.slice a len cap) := XR.out.cell 0
    by_cases hlt : k < len
    · have kI : (k : Int) < (len : Int) := by omega
      obtain ⟨blk, off, vs, rfl, _, _, hat, hcell⟩ := RR.out.get k hlt
      have hkE : k < E'.length := by rw [hEL.out]; exact hlt
      have hvs := hat (E'.getD k (0, 0)) (by rw [List.getElem?_eq_getElem hkE]; simp [List.getD, hkE])
      obtain ⟨⟨at_, by0⟩, hr⟩ : ∃ r : Rg, Hid (E'.getD k (0, 0) = r) := ⟨_, rfl⟩
      rw [hr.out] at hvs
      have hvs' : vs = [.int .i64 at_, .int .i64 by0] := hvs
      subst hvs'
      have e0 : wr.cell? ⟨blk, off + k * 2, none⟩ = some (.int .i64 at_) := hcell 0 (by decide)
      clear hat hvs hcell
      go_upto_block 2 with fail
      go_cut [6, 8] (fun dv iv wx => ∃ (j : Nat) (d' : Int), k < j ∧ j ≤ len ∧ iv = .int .i64 j ∧ dv = .int .i64 d' ∧ wr = wx ∧ Hid (Grp E' k j at_ d') ∧ Hid (j < E'.length → (E'.getD j (0, 0)).1 ≠ at_))
      case first =>
       go_wp2_with fail
       go_loopw [6, 8] (fun dv iv wi => ∃ (j : Nat) (d' : Int), k ≤ j ∧ j ≤ len ∧ iv = .int .i64 j ∧ dv = .int .i64 d' ∧ wr = wi ∧ Hid (Grp E' k j at_ d')) (fun _ iv _ => len - (intOf iv).toNat)
       case atStart => exact ⟨k, d, Nat.le_refl _, by omega, rfl, rfl, rfl, ⟨hD.out, fun t h1 h2 => absurd h1 (by omega)⟩⟩
       case round =>
         obtain ⟨j, d', hkj, hj, rfl, rfl, rfl, hG⟩ := hrel
         have hdb := sumB_bd (E := E'.take j) (fun e he => HB'.out e (List.mem_of_mem_take he))
         rw [← hG.out.d_, List.length_take, hEL.out] at hdb
         by_cases hjl : j < len
         · have jI : (j : Int) < (len : Int) := by omega
           have hjE : j < E'.length := by rw [hEL.out]; exact hjl
           obtain ⟨blk', off', vs', hab, _, _, hat', hcell'⟩ := RR.out.get j hjl
           obtain ⟨rfl, rfl⟩ : blk = blk' ∧ off = off' := by simpa using hab
           have hvs' := hat' (E'.getD j (0, 0)) (by rw [List.getElem?_eq_getElem hjE]; simp [List.getD, hjE])
           have hst : Hid (sumB (E'.take (j + 1)) = sumB (E'.take j) + (E'.getD j (0, 0)).2) := by
             show _ = _
             rw [List.take_succ_eq_append_getElem hjE, sumB_append]
             simp [sumB, List.getD, hjE]
           have hby := HB'.out _ (getD_memR hjE)
           obtain ⟨⟨at', by'⟩, hr'⟩ : ∃ r : Rg, Hid (E'.getD j (0, 0) = r) := ⟨_, rfl⟩
           rw [hr'.out] at hvs' hst hby
           simp only at hby
           have hv2 : vs' = [.int .i64 at', .int .i64 by'] := hvs'
           subst hv2
           have e2 : wr.cell? ⟨blk, off + j * 2, none⟩ = some (.int .i64 at') := hcell' 0 (by decide)
           have e3 : wr.cell? ⟨blk, off + j * 2 + 1, none⟩ = some (.int .i64 by') := hcell' 1 (by decide)
           clear hat' hcell' hvs' hab
           by_cases hat : at' = at_
           · have qE : (at' == at_) = true := by simp [hat]
             have hGn : Hid (Grp E' k (j + 1) at_ (d' + by')) := ⟨by rw [hst.out, hG.out.d_], fun t h1 h2 => by
               by_cases e : t = j
               · subst e; rw [hr'.out]; exact hat
               · exact hG.out.all t h1 (by omega)⟩
             have hb1 : -2000 ≤ d' := by omega
             have hb2 : d' ≤ 2000 := by omega
             clear hat hst hG hdb
             go_wp2_with fail
             go_roundw
             case rel => exact ⟨j + 1, d' + by', by omega, by omega, by go_num, rfl, by first | rfl | trivial, hGn⟩
             case measure => simp [intOf]; omega
           · have qE : (at' == at_) = false := by simp [hat]
             have hkj2 : k < j := by
               rcases Nat.lt_or_ge k j with h | h
               · exact h
               · obtain rfl : j = k := by omega
                 have := hr'.out.symm.trans hr.out
                 injection this with h1 h2
                 exact absurd h1 hat
             have hEnd : Hid (j < E'.length → (E'.getD j (0, 0)).1 ≠ at_) := fun _ => by rw [hr'.out]; exact hat
             clear hat hst hdb
             go_wp2_with fail
             go_meet
             exact ⟨j, d', hkj2, hj, rfl, rfl, by first | rfl | trivial, hG, hEnd⟩
         · obtain rfl : j = len := by omega
           have jF : decide ((j : Int) < (j : Int)) = false := by simp
           have hEnd : Hid (j < E'.length → (E'.getD j (0, 0)).1 ≠ at_) := fun h => absurd h (by rw [hEL.out]; omega)
           clear hdb
           go_wp2_with fail
           go_meet
           exact ⟨j, d', hlt, hj, rfl, rfl, by first | rfl | trivial, hG, hEnd⟩
      obtain ⟨j, d', hkj, hj, rfl, rfl, rfl, hG, hEnd⟩ := hcut
      have hAT : (E'.getD k (0, 0)).1 = at_ := by rw [hr.out]
      obtain ⟨⟨S1, S2, S3, S4⟩, hf0, hA'⟩ := swept_at hS.out HORD.out hA.out hkE hkj (by rw [hEL.out]; exact hj) hG.out hAT (fun e he => (HL'.out e he).1) hEnd.out
      have HA' := Lib.hid hA'
      have hdb := sumB_bd (E := E'.take j) (fun e he => HB'.out e (List.mem_of_mem_take he))
      rw [← hG.out.d_, List.length_take, hEL.out] at hdb
      have hd1 : -1000 ≤ d' := by omega
      have hd2 : d' ≤ 1000 := by omega
      have HD' : Hid (d' = sumB (E'.take j)) := hG.out.d_
      clear hA' hAT hG hEnd hS hA hdb
      cases hw : (fun d => d == 2 : Int → Bool) d' with
      | true =>
        have hw2 : (d' == 2) = true := hw
        by_cases hf : f = -1
        · have HS := Lib.hid (S1 hw hf)
          subst hf
          clear S1 S2 S3 S4 hf0 hw
          go_wp2_with fail
          refine (want_both d' wr).mono ?_
          rintro e w2 ⟨rfl, rfl⟩
          rw [hw2]
          go_wp2_with fail
          go_roundw
          case rel => exact ⟨j, lo, co, ao, out, d', at_, hj, rfl, rfl, rfl, rfl, hlo, hO, hL, HD', HS, HA'⟩
          case measure => simp [intOf]; omega
        · have HS := Lib.hid (S2 hw hf)
          have f0 := hf0 hf
          have fF : decide (f < 0) = false := by simp; omega
          clear S1 S2 S3 S4 hf0 hw hf
          go_wp2_with fail
          refine (want_both d' wr).mono ?_
          rintro e w2 ⟨rfl, rfl⟩
          rw [hw2]
          go_wp2_with fail
          refine (want_both d' wr).mono ?_
          rintro e w2 ⟨rfl, rfl⟩
          rw [hw2]
          go_wp2_with fail
          go_roundw
          case rel => exact ⟨j, lo, co, ao, out, d', f, hj, rfl, rfl, rfl, rfl, hlo, hO, hL, HD', HS, HA'⟩
          case measure => simp [intOf]; omega
      | false =>
        have hw2 : (d' == 2) = false := hw
        by_cases hf : f = -1
        · have HS := Lib.hid (S4 hw hf)
          subst hf
          clear S1 S2 S3 S4 hf0 hw
          go_wp2_with fail
          refine (want_both d' wr).mono ?_
          rintro e w2 ⟨rfl, rfl⟩
          rw [hw2]
          go_wp2_with fail
          refine (want_both d' wr).mono ?_
          rintro e w2 ⟨rfl, rfl⟩
          rw [hw2]
          go_wp2_with fail
          go_roundw
          case rel => exact ⟨j, lo, co, ao, out, d', -1, hj, rfl, rfl, rfl, rfl, hlo, hO, hL, HD', HS, HA'⟩
          case measure => simp [intOf]; omega
        · have HS := Lib.hid (S3 hw hf)
          have f0 := hf0 hf
          have fF : decide (f < 0) = false := by simp; omega
          have fT : decide (0 ≤ f) = true := by simp; omega
          have hlo2 : lo + 1 ≤ 1000 := by
            have h1 := HS.out.few
            rw [List.length_append, if_pos rfl, List.length_take] at h1
            have h2 := hO.out.1
            simp at h1; omega
          clear S1 S2 S3 S4 hf0 hw hf
          go_wp2_with fail
          refine (want_both d' wr).mono ?_
          rintro e w2 ⟨rfl, rfl⟩
          rw [hw2]
          go_wp2_with fail
          refine (want_both d' wr).mono ?_
          rintro e w2 ⟨rfl, rfl⟩
          rw [hw2]
          go_wp2_with (at_builtin; refine wpList_append_one (L := rgL) (wr := wr) rfl (.tmp 63) (.tmp 67) 24 rfl B2 30 _ 16 Try.underlying24 info_range rfl (fun _ => False) ao lo co _ rfl hO.out #[.int .i64 f, .int .i64 at_] (f, at_) rfl (fun _ => False) rfl (fun b h => h.elim) (by unfold maxLen; omega) (by omega) hBr ?_)
          intro a5 c5 w5 hown5 hg5
          have L5 := Lib.hid (hO.out.grown hL.out (Nat.le_refl _) hBr hg5)
          have O5 := Lib.hid hown5
          clear hown5 hg5 hO hL XR RR
          go_wp2_with fail
          go_roundw
          case rel => exact ⟨j, lo + 1, c5, a5, _, d', -1, hj, rfl, rfl, rfl, rfl, hlo2, O5, L5, HD', HS, HA'⟩
          case measure => simp [intOf]; omega
    · obtain rfl : k = len := by omega
      have kF : decide ((k : Int) < (k : Int)) = false := by simp
      have hfin : E'.take k = E' := List.take_of_length_le (by rw [hEL.out]; exact Nat.le_refl _)
      rw [hfin] at hS
      have HR : Hid (Res (fun d => d == 2) E out) := hS.out.fin HP.out HSUM.out (by decide)
      go_wp2_with fail
      go_ret
      refine ⟨_, _, _, _, rfl, ?_, ?_, HR⟩
      · show SOwn _ _ _ _ _ _ _ _ _
        exact hO.out.mono (by have := hB2.out; omega) (fun _ h => h)
      · exact L1.out.trans (hL.out.mono (by have := hB2.out; have := L1.out.size; omega))
end Go.Proofs.Ytddjkcogfpihpaa
