/- The walk of kill. -/
import Derived.Test.YthjjfmnipemakaaKpA
import Derived.Test.YthjjfmnipemakaaThA
import Derived.Test.YthjjfmnipemakaaBoxOps
namespace Go.Proofs.Ythjjfmnipemakaa
open Go.RowKit
set_option linter.unusedVariables false
set_option maxRecDepth 100000

theorem info_int : (Try.prog.info? 3).map (fun i => (i.zero, i.size, i.bytes)) = some (some (.int .i64 0), 1, 8) := by kernel_rfl
theorem info_block : (Try.prog.info? 103).map (fun i => (i.zero, i.size, i.bytes)) = some (some (.agg #[.int .i64 0, .bool false]), 2, 16) := by kernel_rfl
theorem info_shot : (Try.prog.info? 106).map (fun i => (i.zero, i.size, i.bytes)) = some (some (.agg #[.int .i64 0, .int .i64 0, .slice none 0 0]), 3, 40) := by kernel_rfl
theorem frozen_own {α : Type} {L : Lay α} {w : World} {B : Nat} {e : TypeId} {g len cap : Nat} {xs : List α} (h : (thOwn L B e (some ⟨g, 0, none⟩) len cap xs).holds w) (j : Nat) : w.frozen? ⟨g, j, none⟩ = false :=
  World.ownsRow.frozenAt h.2.choose_spec.choose_spec.1 _
theorem blockAt {B : Nat} {a : Option Addr} {len cap : Nat} {bs : List (Int × Bool)} {w : World} (h : (thOwn blockL B 103 a len cap bs).holds w) (b : Nat) (hb : b < len) :
    ∃ g, a = some ⟨g, 0, none⟩ ∧ g < w.heap.size ∧ w.cell? ⟨g, b * 2, none⟩ = some (.int .i64 (bs.getD b (0, false)).1) ∧ w.cell? ⟨g, b * 2 + 1, none⟩ = some (.bool (bs.getD b (0, false)).2) := by
  obtain ⟨g, vs, ha, hB, hg, ⟨x, hx, hv⟩, hc⟩ := SOwn.get h b hb
  have hv' : vs = blockV x := hv
  subst hv'
  have e : bs.getD b (0, false) = x := by simp [List.getD, hx]
  rw [e]
  exact ⟨g, ha, hg, hc 0 (by decide), hc 1 (by decide)⟩
theorem shotAt {B : Nat} {a : Option Addr} {len cap : Nat} {ss : List Sh} {w : World} (h : (thOwn shL B 106 a len cap ss).holds w) (i : Nat) (hi : i < len) :
    ∃ g x, a = some ⟨g, 0, none⟩ ∧ g < w.heap.size ∧ ss[i]? = some x ∧ w.cell? ⟨g, i * 3, none⟩ = some (.int .i64 x.1.num) ∧ w.cell? ⟨g, i * 3 + 1, none⟩ = some (.int .i64 x.1.made) ∧ w.cell? ⟨g, i * 3 + 2, none⟩ = some (.slice x.2.1 x.2.2.1 x.2.2.2) := by
  obtain ⟨g, vs, ha, hB, hg, ⟨x, hx, hv⟩, hc⟩ := SOwn.get h i hi
  have hv' : vs = shV x := hv
  subst hv'
  exact ⟨g, x, ha, hg, hx, hc 0 (by decide), hc 1 (by decide), hc 2 (by decide)⟩

def goneC (c : Int) (a : Option Addr) (n m : Nat) : Array Value := #[.int .i64 c, .slice a n m]
theorem results_b {P : Program} {fn : Func} {p : Tmp} {ty : TypeId} (h : fn.results = #[.cell p ty]) (tmps : Array Value) (w : World) (g : Nat) (t : TypeId) (cs : Array Value) (hg : Box w g cs t) (d : TypeDesc)
    (hp : tmps.getD p undef = .pointer (some ⟨g, 0, none⟩))
    (hu : P.underlying ty = some d) (hd : (match d with | .struct _ | .array _ _ => true | _ => false) = true) (hi : (P.info? ty).map (·.size) = some cs.size) :
    (results fn tmps).run P w = .ok (.agg cs) w := by
  have hp' : tmps[p]?.getD undef = .pointer (some ⟨g, 0, none⟩) := by simpa using hp
  simp [results, h, hp', asAddr, run_loadVar_row w g t ty cs (0, 0) d hg hu hd hi]
theorem snapNo (c : Int) (w : World) : Calls Try.prog 35 #[.int .i64 c] w fun e w' => e = .returned (.agg (goneC c none 0 0)) ∧ Below w.heap.size w w' := by
  go_enter Try.func35, Try.ntmps35
  go_wp2_with fail
  refine bodyPost_ret (results_b Try.results35 _ _ w.heap.size 58 (goneC c none 0 0) (Box.new rfl) _ rfl Try.underlying58 rfl (by kernel_rfl)) rfl ⟨rfl, Below_alloc1 _⟩
theorem ownOne (V : World) (B : Nat) (x : Int) (hB : B ≤ V.heap.size) (hx : -1000000 ≤ x ∧ x ≤ 1000000) : (thOwn (Lay.int .i64) B 3 (some ⟨V.heap.size, 0, none⟩) 1 1 [x]).holds (V.alloc (.cells #[.int .i64 x] 3)) :=
  ⟨rfl, [[.int .i64 x]], fun _ => False, World.ownsRow_lit V #[.int .i64 x] 1 hB (by unfold maxLen; omega) rfl, Pt.single (L := Lay.int .i64) ⟨rfl, by simp [Lit.wf, IntKind.min, IntKind.max, IntKind.signed, IntKind.bits]; omega⟩, fun b hb => hb.elim⟩
theorem wrap_small (m : Nat) (h : m ≤ 1000000) : IntKind.i64.wrap (m : Int) = m := by
  simp [IntKind.wrap, IntKind.signed, IntKind.bits]; omega
theorem wf_nat (b : Nat) (h : b ≤ 1000000) : (Lit.int .i64 (b : Int)).wf = true := by
  simp [Lit.wf, IntKind.min, IntKind.max, IntKind.signed, IntKind.bits]; omega
theorem shotCell {B : Nat} {g len cap : Nat} {ss : List Sh} {w : World} (h : (thOwn shL B 106 (some ⟨g, 0, none⟩) len cap ss).holds w) (i : Nat) {x : Sh} (hx : ss[i]? = some x) : w.cell? ⟨g, i * 3 + 2, none⟩ = some (.slice x.2.1 x.2.2.1 x.2.2.2) := by
  have hi : i < len := by have := (List.getElem?_eq_some_iff.1 hx).1; have := h.1; omega
  obtain ⟨g', x', hg, _, hx', _, _, h3⟩ := shotAt h i hi
  obtain rfl : g = g' := by simpa using hg
  rw [hx] at hx'
  obtain rfl : x = x' := by simpa using hx'
  exact h3
def Kp.killed (s : Kp) (b m : Nat) (x : Shot) : Kp := { s with blocks := s.blocks.set b (s.born b, false), shots := s.shots.set m x }
theorem kpFootShots {B k : Nat} {vs : Array Value} {bs : List (Int × Bool)} {a1 : Option Addr} {n1 c1 : Nat} {ss : List Sh} {g n2 c2 : Nat} {ds : List Sh} : (thKp B k vs bs a1 n1 c1 ss (some ⟨g, 0, none⟩) n2 c2 ds).foot g :=
  ⟨_, List.mem_cons_of_mem _ (List.mem_cons_of_mem _ (List.mem_cons_self ..)), rfl⟩
def Kp.struck (s : Kp) (b : Nat) : Kp := { s with blocks := s.blocks.set b (s.born b, false) }
set_option maxHeartbeats 4000000 in
theorem kill (B k : Nat) (s : Kp) (t : Thing) (b : Nat) (w : World) (ht : IsKp B k s t) (hw : t.holds w) (hl : s.Lim) (hB : B ≤ w.heap.size) (hb : b ≤ 1000) :
    Calls Try.prog 36 #[.pointer (some ⟨k, 0, none⟩), .int .i64 b] w fun e w' =>
      ∃ t' a n c, e = .returned (.agg (goneC (s.kill b).2.1 a n c)) ∧ Hid (IsKp B k (s.kill b).1 t') ∧ Hid (Turns t (thAll [t', thOwn (Lay.int .i64) B 3 a n c (s.kill b).2.2]) w w') := by
  have HT := Lib.hid ht
  obtain ⟨a1, n1, c1, ss, a2, n2, c2, hss, rfl⟩ := ht
  have KB := Lib.hid (kpBlocks hw)
  have KS := Lib.hid (kpShots hw)
  have k1 : w.cell? ⟨k, 1, none⟩ = some (.slice a1 n1 c1) := (kpBox hw).cell 1
  have k2 : w.cell? ⟨k, 2, none⟩ = some (.slice a2 n2 c2) := (kpBox hw).cell 2
  have hkl : k < w.heap.size := (kpBox hw).lt
  have hn1 : s.blocks.length = n1 := KB.out.1
  have hn2 : ss.length = n2 := KS.out.1
  have T0 := Lib.hid (Turns.boxed hw (goneC 0 none 0 0) 58)
  have HW := Lib.hid hw
  have HB := Lib.hid hB
  have HL := Lib.hid hl
  have n1b := hl.bl
  have n2b := hl.sl
  have hss' : ss.length = s.shots.length := by rw [← hss, List.length_map]
  clear hw hB hl
  by_cases hbn : b < n1
  · obtain ⟨g1, rfl, hg1, e0, e1⟩ := blockAt KB.out b hbn
    have eb : (s.blocks.getD b (0, false)).1 = s.born b := rfl
    have el : (s.blocks.getD b (0, false)).2 = s.lives b := rfl
    rw [eb] at e0
    rw [el] at e1
    cases hlv : s.lives b with
    | false =>
      rw [hlv] at e1
      have hkill : Hid (s.kill b = (s, 6, [])) := by show _ = _; rw [Kp.kill, if_pos hlv]
      rw [hkill.out]
      clear hss hss' hkill el
      go_enter Try.func36, Try.ntmps36
      go_wp2_with fail
      refine (snapNo 6 _).mono ?_
      rintro e w2 ⟨rfl, hb2⟩
      have T1 := Lib.hid (Turns.stays T0.out hb2)
      obtain ⟨r, hr⟩ : ∃ r, Hid (w.heap.size = r) := ⟨_, rfl⟩
      rw [hr.out] at T1 ⊢
      have B1 := Lib.hid (show Box w2 r (goneC 0 none 0 0) 58 from Apt.head T1.out.now)
      clear hb2 T0
      go_wp2_with (refine wpList_store_box rfl 58 (.tmp 4) (.tmp 29) rfl r (goneC 6 none 0 0) rfl rfl 58 _ B1.out (by kernel_rfl) rfl rfl ?_; intro w3 hb3 hg3)
      refine bodyPost_ret (results_b Try.results36 _ _ r 58 (goneC 6 none 0 0) hb3 _ rfl Try.underlying58 rfl (by kernel_rfl)) rfl ⟨_, none, 0, 0, rfl, HT, ?_⟩
      exact Turns.withNil ((Turns.headBox T1.out hb3 hg3).tail.one)
    | true =>
      have hgd : s.blocks.getD b default = (s.born b, true) := by
        rw [← hlv]; show _ = s.blocks.getD b (0, false); simp [List.getD, show b < s.blocks.length by omega]
      have P1 : Turns (thKeep B k s (some ⟨g1, 0, none⟩) n1 c1 ss a2 n2 c2) (thKeep B k (s.struck b) (some ⟨g1, 0, none⟩) n1 c1 ss a2 n2 c2) w (w.setCell ⟨g1, b * 2 + 1, none⟩ (.bool false)) :=
        Turns.kpBlocks HW.out (Turns.put KB.out b 1 (s.born b, false) (.bool false) hbn (by decide) (by rw [hgd]; rfl))
      have T1' := Lib.hid (P1.trans (Turns.boxed P1.now (goneC 0 none 0 0) 58))
      obtain ⟨s1, hs1⟩ : ∃ s1, Hid (s.struck b = s1) := ⟨_, rfl⟩
      rw [hs1.out] at T1'
      rw [show (w.setCell ⟨g1, b * 2 + 1, none⟩ (.bool false)).heap.size = w.heap.size by simp [World.setCell]] at T1'
      clear P1 hgd T0
      have f1 : w.frozen? ⟨g1, b * 2 + 1, none⟩ = false := frozen_own KB.out _
      by_cases h0 : n2 = 0
      · subst h0
        have hsh : s.shots = [] := List.eq_nil_of_length_eq_zero (by omega)
        have hkill : Hid (s.kill b = (s1, 0, [(b : Int)])) := by show _ = _; rw [Kp.kill, if_neg (by rw [hlv]; decide), dif_pos hsh]; show (s.struck b, _, _) = _; rw [hs1.out]
        have HI : Hid (IsKp B k s1 (thKeep B k s1 (some ⟨g1, 0, none⟩) n1 c1 ss a2 0 c2)) := ⟨some ⟨g1, 0, none⟩, n1, c1, ss, a2, 0, c2, by rw [hss, ← hs1.out]; rfl, rfl⟩
        rw [hkill.out]
        clear hss hss' hkill el hsh
        go_enter Try.func36, Try.ntmps36
        go_wp2_with fail
        go_quiet (fail)
        have T2 := Turns.stays T1'.out (below_drewN (Below.refl _ _) nq)
        obtain ⟨V, hV⟩ : ∃ V, V = (((w.setCell ⟨g1, b * 2 + 1, none⟩ (.bool false)).alloc (.cells (goneC 0 none 0 0) 58)).drewN nq) := ⟨_, rfl⟩
        obtain ⟨r, hr⟩ : ∃ r, Hid (w.heap.size = r) := ⟨_, rfl⟩
        rw [← hV, hr.out] at T2
        unfold goneC at hV
        rw [← hV, hr.out]
        have T3 := Lib.hid T2
        have B3 := Lib.hid (show Box V r (goneC 0 none 0 0) 58 from Apt.head T2.now)
        have hrV : r < V.heap.size := B3.out.lt
        have hBV : B ≤ V.heap.size := by have := HB.out; have := T2.mv.size; omega
        clear hV T2 T1' k1 k2 f1 e0 e1
        go_wp2_with (refine wpList_store_box rfl 58 (.tmp 4) (.tmp 66) rfl r (goneC 0 (some ⟨V.heap.size, 0, none⟩) 1 1) rfl rfl 58 _ (B3.out.alloc _) (by kernel_rfl) rfl rfl ?_; intro w5 hb5 hg5)
        refine bodyPost_ret (results_b Try.results36 _ _ r 58 (goneC 0 (some ⟨V.heap.size, 0, none⟩) 1 1) hb5 _ rfl Try.underlying58 rfl (by kernel_rfl)) rfl ⟨_, some ⟨V.heap.size, 0, none⟩, 1, 1, rfl, HI, ?_⟩
        have T4 := Turns.fresh T3.out (Below_alloc1 (.cells #[.int .i64 b] 3)) (x := thOwn (Lay.int .i64) B 3 (some ⟨V.heap.size, 0, none⟩) 1 1 [(b : Int)]) (ownOne V B b hBV (by omega)) (fun x hx => by cases hx; exact Nat.le_refl _)
        exact (Turns.headBox T4 hb5 hg5).tail
      · obtain ⟨m, hm⟩ : ∃ m, n2 = m + 1 := ⟨n2 - 1, by omega⟩
        subst hm
        obtain ⟨g2, x, rfl, hg2, hx, y0, y1, y2⟩ := shotAt KS.out m (by omega)
        have hsh : s.shots ≠ [] := fun e => by rw [e] at hss'; simp only [List.length_nil] at hss'; omega
        have hlast : s.shots.getLast hsh = x.1 := by
          rw [List.getLast_eq_getElem]
          have : s.shots[m]? = some x.1 := by rw [← hss, List.getElem?_map, hx]; rfl
          have hm : s.shots.length - 1 = m := by omega
          simp only [hm]
          exact (List.getElem?_eq_some_iff.1 this).2
        have hk1 : k ≠ g1 := fun e => (HW.out.apart 0 1 _ _ rfl rfl (by decide)) k rfl (by rw [e]; rfl)
        have hg21 : g2 ≠ g1 := fun e => (HW.out.apart 2 1 _ _ rfl rfl (by decide)) g2 rfl (by rw [e]; rfl)
        have hk2 : k ≠ g2 := fun e => (HW.out.apart 0 2 _ _ rfl rfl (by decide)) k rfl (by rw [e]; rfl)
        have hm1 : m ≤ 1000 := by omega
        have hm0 : ((m : Int) + 1 == 0) = false := by simp; omega
        have hmw : IntKind.i64.wrap (m : Int) = m := wrap_small m (by omega)
        by_cases hcmp : x.1.made < s.born b
        · have hkill : Hid (s.kill b = (s1, 0, [(b : Int)])) := by show _ = _; rw [Kp.kill, if_neg (by rw [hlv]; decide), dif_neg hsh, hlast, if_pos hcmp]; show (s.struck b, _, _) = _; rw [hs1.out]
          have HI : Hid (IsKp B k s1 (thKeep B k s1 (some ⟨g1, 0, none⟩) n1 c1 ss (some ⟨g2, 0, none⟩) (m + 1) c2)) := ⟨some ⟨g1, 0, none⟩, n1, c1, ss, some ⟨g2, 0, none⟩, m + 1, c2, by rw [hss, ← hs1.out]; rfl, rfl⟩
          rw [hkill.out]
          clear hss hss' hkill el hsh hlast
          go_enter Try.func36, Try.ntmps36
          go_wp2_with fail
          go_quiet (fail)
          have T2 := Turns.stays T1'.out (below_drewN (Below.refl _ _) nq)
          obtain ⟨V, hV⟩ : ∃ V, V = (((w.setCell ⟨g1, b * 2 + 1, none⟩ (.bool false)).alloc (.cells (goneC 0 none 0 0) 58)).drewN nq) := ⟨_, rfl⟩
          obtain ⟨r, hr⟩ : ∃ r, Hid (w.heap.size = r) := ⟨_, rfl⟩
          rw [← hV, hr.out] at T2
          unfold goneC at hV
          rw [← hV, hr.out]
          have T3 := Lib.hid T2
          have B3 := Lib.hid (show Box V r (goneC 0 none 0 0) 58 from Apt.head T2.now)
          have hrV : r < V.heap.size := B3.out.lt
          have hBV : B ≤ V.heap.size := by have := HB.out; have := T2.mv.size; omega
          clear hV T2 T1' k1 k2 f1 e0 e1
          go_wp2_with (refine wpList_store_box rfl 58 (.tmp 4) (.tmp 66) rfl r (goneC 0 (some ⟨V.heap.size, 0, none⟩) 1 1) rfl rfl 58 _ (B3.out.alloc _) (by kernel_rfl) rfl rfl ?_; intro w5 hb5 hg5)
          refine bodyPost_ret (results_b Try.results36 _ _ r 58 (goneC 0 (some ⟨V.heap.size, 0, none⟩) 1 1) hb5 _ rfl Try.underlying58 rfl (by kernel_rfl)) rfl ⟨_, some ⟨V.heap.size, 0, none⟩, 1, 1, rfl, HI, ?_⟩
          have T4 := Turns.fresh T3.out (Below_alloc1 (.cells #[.int .i64 b] 3)) (x := thOwn (Lay.int .i64) B 3 (some ⟨V.heap.size, 0, none⟩) 1 1 [(b : Int)]) (ownOne V B b hBV (by omega)) (fun x hx => by cases hx; exact Nat.le_refl _)
          exact (Turns.headBox T4 hb5 hg5).tail
        · obtain ⟨s2, hs2⟩ : ∃ s2, Hid (s.killed b m { x.1 with dead := x.1.dead ++ [(b : Int)] } = s2) := ⟨_, rfl⟩
          have hkill : Hid (s.kill b = (s2, 0, [])) := by
            show _ = _
            rw [Kp.kill, if_neg (by rw [hlv]; decide), dif_neg hsh, hlast, if_neg hcmp, ← hs2.out, show s.shots.length - 1 = m by omega]; rfl
          have hdl : x.1.dead.length ≤ 100000 := HL.out.dl _ (by rw [← hss]; exact List.mem_map.2 ⟨x, List.mem_of_getElem? hx, rfl⟩)
          have HX := Lib.hid hx
          rw [hkill.out]
          have HSS := Lib.hid hss
          clear hss hss' hkill el hsh hlast hx
          go_enter Try.func36, Try.ntmps36
          go_wp2_with fail
          go_quiet (fail)
          have T2 := Turns.stays T1'.out (below_drewN (Below.refl _ _) nq)
          obtain ⟨V, hV⟩ : ∃ V, V = (((w.setCell ⟨g1, b * 2 + 1, none⟩ (.bool false)).alloc (.cells (goneC 0 none 0 0) 58)).drewN nq) := ⟨_, rfl⟩
          obtain ⟨r, hr⟩ : ∃ r, Hid (w.heap.size = r) := ⟨_, rfl⟩
          rw [← hV, hr.out] at T2
          unfold goneC at hV
          rw [← hV, hr.out]
          have T3 := Lib.hid T2
          have hBV : B ≤ V.heap.size := by have := HB.out; have := T2.mv.size; omega
          have K3 := Lib.hid (T2.now.all 1 _ rfl)
          have D3 := Lib.hid (kpDeads K3.out)
          have X3 := Lib.hid (show (thDead B x).holds V from D3.out.all m _ (by rw [List.getElem?_map, HX.out]; rfl))
          have hdn : x.1.dead.length = x.2.2.1 := X3.out.1
          clear hV T2 T1' k1 k2 f1 e0 e1 y0 y1 y2
          obtain ⟨g3, x3, hg3, hg3l, hx3, y0, y1, y2⟩ := shotAt (kpShots K3.out) m (by omega)
          obtain rfl : g2 = g3 := by simpa using hg3
          obtain rfl : x = x3 := by have := HX.out.symm.trans hx3; simpa using this
          obtain ⟨⟨num, made, dead⟩, da, dn, dc⟩ := x
          simp only at y0 y1 y2 hdl hdn
          clear hx3 hg3
          have hdn5 : dn ≤ 100000 := by omega
          have hgl5 : g2 < V.heap.size := hg3l
          have z2 : V.cell? ⟨k, 2, none⟩ = some (.slice (some ⟨g2, 0, none⟩) (m + 1) c2) := (kpBox K3.out).cell 2
          have hkV : k < V.heap.size := (kpBox K3.out).lt
          go_wp2_with (first | (at_builtin; refine wpList_append_T1 (L := Lay.int .i64) rfl (.tmp 78) (.tmp 80) 40 rfl B 3 _ 8 Try.underlying40 info_int rfl da dn dc dead rfl X3.out #[.int .i64 b] b rfl ⟨rfl, wf_nat b (by omega)⟩ (by unfold maxLen; omega) (by omega) hBV ?_; intro a5 c5 w5 T5; have T6 := Lib.hid (T3.out.next (Turns.kpDeads K3.out (Turns.dead (x' := (⟨num, made, dead ++ [(b : Int)]⟩, a5, dn + 1, c5)) D3.out HX.out T5))); have c5s : w5.cell? ⟨g2, m * 3 + 2, none⟩ = some (.slice da dn dc) := shotCell (kpShots (T6.out.now.all 1 _ rfl)) m HX.out; have f5s : w5.frozen? ⟨g2, m * 3 + 2, none⟩ = false := frozen_own (kpShots (T6.out.now.all 1 _ rfl)) _; have hgr5 : g2 ≠ r := fun e => T6.out.now.apart 1 0 _ _ rfl rfl (by decide) g2 kpFootShots e; have B5 := Lib.hid (Box.other (show Box w5 r (goneC 0 none 0 0) 58 from Apt.head T6.out.now) ⟨g2, m * 3 + 2, none⟩ hgr5 (.slice a5 (dn + 1) c5)); clear T5) | (refine wpList_store_box rfl 58 (.tmp 4) (.tmp 84) rfl r (goneC 0 none 0 0) rfl rfl 58 _ B5.out (by kernel_rfl) rfl rfl ?_; intro w6 hb6 hg6))
          have T7 := T6.out.next (Turns.kpShots (T6.out.now.all 1 _ rfl) (Turns.put (kpShots (T6.out.now.all 1 _ rfl)) m 2 (⟨num, made, dead ++ [(b : Int)]⟩, a5, dn + 1, c5) (.slice a5 (dn + 1) c5) (by omega) (by decide) (by rw [show ss.getD m default = (⟨num, made, dead⟩, da, dn, dc) by simp [List.getD, HX.out]]; rfl)))
          refine bodyPost_ret (results_b Try.results36 _ _ r 58 (goneC 0 none 0 0) hb6 _ rfl Try.underlying58 rfl (by kernel_rfl)) rfl ⟨thKeep B k s2 (some ⟨g1, 0, none⟩) n1 c1 (ss.set m (⟨num, made, dead ++ [(b : Int)]⟩, a5, dn + 1, c5)) (some ⟨g2, 0, none⟩) (m + 1) c2, none, 0, 0, rfl, ?_, ?_⟩
          · exact ⟨some ⟨g1, 0, none⟩, n1, c1, _, some ⟨g2, 0, none⟩, m + 1, c2, by rw [List.map_set, HSS.out, ← hs2.out]; rfl, rfl⟩
          · have T8 := Turns.withNil (L := Lay.int .i64) (B := B) (e := 3) ((Turns.headBox T7 hb6 hg6).tail.one)
            rw [← hs1.out] at T8
            rw [← hs2.out]
            exact T8
  · have hlv : s.lives b = false := by rw [Kp.lives, List.getD_eq_getElem?_getD, List.getElem?_eq_none (by omega)]; rfl
    have hkill : Hid (s.kill b = (s, 6, [])) := by show _ = _; rw [Kp.kill, if_pos hlv]
    rw [hkill.out]
    clear hss hss' hkill
    have hbn' : n1 ≤ b := by omega
    go_enter Try.func36, Try.ntmps36
    go_wp2_with fail
    refine (snapNo 6 _).mono ?_
    rintro e w2 ⟨rfl, hb2⟩
    have T1 := Lib.hid (Turns.stays T0.out hb2)
    obtain ⟨r, hr⟩ : ∃ r, Hid (w.heap.size = r) := ⟨_, rfl⟩
    rw [hr.out] at T1 ⊢
    have B1 := Lib.hid (show Box w2 r (goneC 0 none 0 0) 58 from Apt.head T1.out.now)
    clear hb2 T0
    go_wp2_with (refine wpList_store_box rfl 58 (.tmp 4) (.tmp 29) rfl r (goneC 6 none 0 0) rfl rfl 58 _ B1.out (by kernel_rfl) rfl rfl ?_; intro w3 hb3 hg3)
    refine bodyPost_ret (results_b Try.results36 _ _ r 58 (goneC 6 none 0 0) hb3 _ rfl Try.underlying58 rfl (by kernel_rfl)) rfl ⟨_, none, 0, 0, rfl, HT, ?_⟩
    exact Turns.withNil ((Turns.headBox T1.out hb3 hg3).tail.one)
end Go.Proofs.Ythjjfmnipemakaa
