/- The walks of RangeOf, SetOf, sameRanges. -/
import Derived.Test.YtddjkcogfpihpaaSnY
import Derived.StillTailTactics
namespace Go.Proofs.Ytddjkcogfpihpaa
open Go.RowKit Go.Sort
set_option linter.unusedVariables false
set_option maxRecDepth 100000

theorem results_cell_box2 {P : Program} {fn : Func} {p : Tmp} {ty : TypeId} (h : fn.results = #[.cell p ty]) (tmps : Array Value) (w : World) (g : Nat) (t : TypeId) (cs : Array Value) (hg : Box w g cs t) (d : TypeDesc)
    (hp : tmps.getD p undef = .pointer (some ⟨g, 0, none⟩))
    (hu : P.underlying ty = some d) (hd : (match d with | .struct _ | .array _ _ => true | _ => false) = true) (hi : (P.info? ty).map (·.size) = some cs.size) :
    (results fn tmps).run P w = .ok (.agg cs) w := by
  have hp' : tmps[p]?.getD undef = .pointer (some ⟨g, 0, none⟩) := by simpa using hp
  simp [results, h, hp', asAddr, run_loadVar_row w g t ty cs (0, 0) d hg hu hd hi]
def rangeOf (a b : Int) : Rg := (a % 300, a % 300 + 1 + b % 60)
theorem rangeOf_ok (a b : Int) : 0 ≤ (rangeOf a b).1 ∧ (rangeOf a b).1 < (rangeOf a b).2 ∧ (rangeOf a b).2 ≤ 400 := by
  unfold rangeOf
  simp only
  omega
set_option maxHeartbeats 1000000 in
theorem rangeOfW (a b : Int) (w : World) : Calls Try.prog 10 #[.int .i64 a, .int .i64 b] w fun e w' => e = .returned (.agg #[.int .i64 (rangeOf a b).1, .int .i64 (rangeOf a b).2]) ∧ Below w.heap.size w w' := by
  go_enter Try.func10, Try.ntmps10
  go_wp2_with fail
  refine (picked a 300 _ (by omega) (by omega)).mono ?_
  rintro e w1 ⟨x, hx, hx0, hx1, rfl, rfl⟩
  go_wp2_with fail
  refine (picked b 60 _ (by omega) (by omega)).mono ?_
  rintro e w2 ⟨y, hy, hy0, hy1, rfl, rfl⟩
  have hz : Hid ((rangeOf a b).1 = x ∧ (rangeOf a b).2 = x + 1 + y) := by
    unfold rangeOf
    exact ⟨hx.out.symm, by rw [hx.out, hy.out]⟩
  clear hx hy
  go_wp2_with fail
  refine bodyPost_ret (results_cell_box2 Try.results10 _ _ w.heap.size 30 #[.int .i64 x, .int .i64 (x + 1 + y)] (Box.new rfl) _ rfl Try.underlying30 rfl (by kernel_rfl)) rfl ?_
  refine ⟨?_, Below_alloc1 _⟩
  rw [hz.out.1, hz.out.2]
/-- The ranges that were added. -/
def addedN (l : List Int) (k : Nat) : List Rg := (List.range k).map fun i => rangeOf (l.getD (2 * i) 0) (l.getD (2 * i + 1) 0)
theorem addedN_succ (l : List Int) (k : Nat) : addedN l (k + 1) = addedN l k ++ [rangeOf (l.getD (2 * k) 0) (l.getD (2 * k + 1) 0)] := by simp [addedN, List.range_succ]
theorem addedN_length (l : List Int) (k : Nat) : (addedN l k).length = k := by simp [addedN]
/-- The one list of a set. -/
structure SetIs (R Q : List Rg) : Prop where
  good : GoodR R
  few : R.length ≤ Q.length
  top : ∀ q ∈ R, q.2 ≤ 400
  mem : ∀ x, memR R x ↔ memR Q x
theorem SetIs.nil : SetIs [] [] := ⟨⟨Canon.nil, (fun r h => by cases h), by simp⟩, Nat.le_refl _, (fun q h => by cases h), fun x => Iff.rfl⟩
theorem SetIs.add {R Q out : List Rg} {r : Rg} (h : SetIs R Q) (hr : 0 ≤ r.1 ∧ r.1 < r.2 ∧ r.2 ≤ 400) (hn : R.length ≤ 150) (hres : Res (fun d => decide (0 < d)) (edgesN R 1 ++ edgesN [r] 1) out) : SetIs out (Q ++ [r]) := by
  obtain ⟨g1, g2, g3⟩ := res_good (M := 400) hres (fun q hq => ⟨(h.good.at_ q hq).1, (h.good.at_ q hq).2.1, h.top q hq⟩) (one_at hr) (by omega) (by simp; omega)
  refine ⟨g1, by rw [List.length_append]; have := h.few; simp at g2 ⊢; omega, g3, fun x => ?_⟩
  rw [mem_add hres h.good.canon (Canon.single hr.2.1) x, memR_append, h.mem x]
def SetPost (Q : List Rg) (w : World) (e : Ending) (w' : World) : Prop := ∃ a n c R, e = .returned (.tuple #[.slice a n c, .bool true]) ∧ Hid (SRow rgL w' (fun b => w.heap.size ≤ b) a n c R) ∧ Hid (Below w.heap.size w w') ∧ Hid (SetIs R Q)
set_option maxHeartbeats 8000000 in
theorem setOfW (a : Option Addr) (len cap : Nat) (l : List Int) (n : Nat) (w : World) (h : Row .i64 w a len cap l) (hn : n ≤ 100) :
    Calls Try.prog 8 #[.slice a len cap, .int .i64 n] w (SetPost (addedN l (min n (len / 2))) w) := by
  have hle := h.hle
  have hmx := h.hmax
  unfold maxLen at hmx
  have H := Lib.hid h
  obtain ⟨m, hm⟩ : ∃ m, Hid (min n (len / 2) = m) := ⟨_, rfl⟩
  rw [hm.out]
  have hm1 : m ≤ n := by have := hm.out; omega
  have hm2 : 2 * m ≤ len := by have := hm.out; omega
  clear h
  go_enter Try.func8, Try.ntmps8
  go_wp2_with fail
  go_loopw [6, 7] (fun ov iv wr => ∃ (k i ln co : Nat) (ao : Option Addr) (R : List Rg), k ≤ m ∧ iv = .int .i64 i ∧ Hid (i = 2 * k) ∧ ov = .slice ao ln co ∧ Hid (SRow rgL wr (fun b => w.heap.size ≤ b) ao ln co R) ∧ Hid (Below w.heap.size w wr) ∧ Hid (SetIs R (addedN l k))) (fun _ iv _ => len - (intOf iv).toNat)
  case atStart => exact ⟨0, 0, 0, 0, none, [], by omega, rfl, rfl, rfl, SRow.nil .., Below.refl _ _, SetIs.nil⟩
  case round =>
    obtain ⟨k, i, ln, co, ao, R, hk, rfl, hi, rfl, hO, hL, hS⟩ := hrel
    have hib : i ≤ 200 := by have := hi.out; omega
    by_cases hlt : k < m
    · obtain ⟨i1, hi1⟩ : ∃ i1, Hid (i1 = i + 1) := ⟨_, rfl⟩
      have s1 : IntKind.i64.wrap ((i : Int) + 1) = (i1 : Int) := by rw [IntWalk.i64_in _ (by omega)]; have := hi1.out; omega
      have s2 : (i1 : Int) < (len : Int) := by have := hi1.out; have := hi.out; omega
      have k1 : (i : Int) + 1 < (len : Int) := by have := hi.out; omega
      have k2 : (i : Int) < 2 * (n : Int) := by have := hi.out; omega
      have k3 : (i : Int) < (len : Int) := by omega
      have k4 : (0 : Int) ≤ (i : Int) + 1 := by omega
      have k5 : decide ((i : Int) + 1 < (len : Int)) = true := by simp; omega
      have k6 : decide ((i : Int) < 2 * (n : Int)) = true := by simp; omega
      have hr := H.out.below hL.out
      obtain ⟨bl, ol, rfl⟩ : ∃ b o, a = some ⟨b, o, none⟩ := by
        rcases hr.hat with h0 | ⟨b, o, e, _⟩
        · omega
        · exact ⟨b, o, e⟩
      have hcell : ∀ i, i < len → wr.cell? ⟨bl, ol + i, none⟩ = some (.int .i64 (l.getD i 0)) := fun i hi => by
        rcases hr.hat with h0 | ⟨b, o, e, hc⟩
        · omega
        · injection e with e; injection e with e1 e2
          subst e1 e2
          exact hc i hi
      obtain ⟨x, hx⟩ : ∃ x, Hid (l.getD i 0 = x) := ⟨_, rfl⟩
      obtain ⟨y, hy⟩ : ∃ y, Hid (l.getD (i + 1) 0 = y) := ⟨_, rfl⟩
      have e0 : wr.cell? ⟨bl, ol + i, none⟩ = some (.int .i64 x) := by rw [← hx.out]; exact hcell _ (by omega)
      have e1 : wr.cell? ⟨bl, ol + i1, none⟩ = some (.int .i64 y) := by rw [← hy.out, ← hi1.out]; exact hcell _ (by omega)
      have hnext : Hid (addedN l (k + 1) = addedN l k ++ [rangeOf x y]) := by show _ = _; rw [addedN_succ, ← hi.out, hx.out, hy.out]
      have hRl : R.length ≤ k := by have := hS.out.few; rw [addedN_length] at this; exact this
      have hln := hO.out.1
      clear hr hcell
      have HO : Hid (SRow rgL wr.drew (fun b => w.heap.size ≤ b) ao ln co R) := hO.out.below (below_drewN (Below.refl _ _) 1)
      have LV : Hid (Below w.heap.size w wr.drew) := hL.out.drew
      have hro := rangeOf_ok x y
      have hro2 : 0 ≤ (rangeOf x y).1 ∧ (rangeOf x y).1 < (rangeOf x y).2 ∧ (rangeOf x y).2 ≤ 1048576 := by omega
      have hlb : ln ≤ 150 := by omega
      obtain ⟨ro, hrr⟩ : ∃ ro, Hid (rangeOf x y = ro) := ⟨_, rfl⟩
      have hRW : Hid (Calls Try.prog 10 #[.int .i64 x, .int .i64 y] wr.drew fun e w' => e = .returned (.agg #[.int .i64 ro.1, .int .i64 ro.2]) ∧ Below wr.drew.heap.size wr.drew w') := by
        have := rangeOfW x y wr.drew
        rw [hrr.out] at this; exact this
      rw [hrr.out] at hro hro2 hnext
      clear hO hL
      go_upto_block 1 with fail
      go_cut [6] (fun ov wx => ∃ (n4 c4 : Nat) (a4 : Option Addr) (out : List Rg), ov = .slice a4 n4 c4 ∧ Hid (SRow rgL wx (fun b => w.heap.size ≤ b) a4 n4 c4 out) ∧ Hid (Below w.heap.size w wx) ∧ Hid (SetIs out (addedN l (k + 1))))
      case first =>
        go_upto_region 5 with fail
        go_region_law (first
          | (go_simp; go_at_call 10; refine hRW.out.mono ?_; rintro e w3 ⟨rfl, hb3⟩; have O3 := Lib.hid (HO.out.below hb3); have L3 := Lib.hid (LV.out.trans (hb3.mono LV.out.size)))
          | (go_simp; go_at_call 11; refine (addW (fun b => w.heap.size ≤ b) ao ln co R ro w3 O3.out hS.out.good hlb hro2).mono ?_; rintro e w4 ⟨a4, n4, c4, out, rfl, O4, B4, R4⟩))
        all_goals go_wp2_with fail
        all_goals go_meet
        all_goals
          refine ⟨n4, c4, a4, out, rfl, (O4.out.mono (Nat.le_refl _) (fun b (h : False) => (h.elim : w.heap.size ≤ b))).row (fun b hb => Nat.le_trans L3.out.size hb), L3.out.trans (B4.out.mono L3.out.size), ?_⟩
          show SetIs _ _
          rw [hnext.out]; exact hS.out.add hro (by omega) R4.out
      obtain ⟨n4, c4, a4, out, rfl, P4, L4, S4⟩ := hcut
      clear HO LV hRW hS hro hro2
      go_wp2_with fail
      go_roundw
      case rel => exact ⟨k + 1, i + 2, n4, c4, a4, out, by omega, by go_num, by show i + 2 = 2 * (k + 1); rw [hi.out]; rfl, rfl, P4, L4, S4⟩
      case measure => simp [intOf]; omega
    · obtain rfl : k = m := by omega
      have q1 : decide ((i : Int) + 1 < (len : Int)) = true ∧ decide ((i : Int) < 2 * (n : Int)) = false ∨ decide ((i : Int) + 1 < (len : Int)) = false := by
        have := hm.out
        have := hi.out
        by_cases h : i + 1 < len
        · left; simp; omega
        · right; simp; omega
      have hg := hS.out.good
      rcases q1 with ⟨q1, q2⟩ | q1
      · go_wp2_with fail
        refine (mayI _ ao ln co R wr hO.out hg).mono ?_
        rintro e w3 ⟨rfl, hb3⟩
        have O3 := Lib.hid (hO.out.below hb3)
        have L3 := Lib.hid (hL.out.trans (hb3.mono hL.out.size))
        go_wp2_with fail
        go_ret2
        exact ⟨_, _, _, _, rfl, O3, L3, hS⟩
      · go_wp2_with fail
        refine (mayI _ ao ln co R wr hO.out hg).mono ?_
        rintro e w3 ⟨rfl, hb3⟩
        have O3 := Lib.hid (hO.out.below hb3)
        have L3 := Lib.hid (hL.out.trans (hb3.mono hL.out.size))
        go_wp2_with fail
        go_ret2
        exact ⟨_, _, _, _, rfl, O3, L3, hS⟩
set_option maxHeartbeats 1000000 in
theorem sameRanges (F G : Nat → Prop) (a : Option Addr) (len cap : Nat) (b : Option Addr) (lenb capb : Nat) (rs : List Rg) (w : World) (ha : SRow rgL w F a len cap rs) (hb : SRow rgL w G b lenb capb rs) :
    Calls Try.prog 9 #[.slice a len cap, .slice b lenb capb] w fun e w' => e = .returned (.bool true) ∧ Below w.heap.size w w' := by
  obtain rfl : len = lenb := by have := ha.1; have := hb.1; omega
  have hle := ha.hle
  have hmx := ha.hmax
  have hleb := hb.hle
  have hmxb := hb.hmax
  unfold maxLen at hmx hmxb
  have hdl := Lib.hid ha.1
  go_enter Try.func9, Try.ntmps9
  go_wp2_with fail
  go_loopw [5] (fun iv wr => ∃ k : Nat, k ≤ len ∧ iv = .int .i64 k ∧ ∃ n, wr = w.drewN n) (fun iv _ => len - (intOf iv).toNat)
  case atStart => exact ⟨0, by omega, rfl, 0, rfl⟩
  case round =>
    obtain ⟨k, hk, rfl, n, rfl⟩ := hrel
    by_cases hlt : k < len
    · have hkd : k < rs.length := by have := hdl.out; omega
      obtain ⟨b1, off, vs, rfl, _, hbw, hat, hcell⟩ := ha.get k hlt
      obtain ⟨b2, off2, vs2, rfl, _, hbw2, hat2, hcell2⟩ := hb.get k hlt
      have hvs := hat rs[k] (List.getElem?_eq_getElem hkd)
      have hvs2 := hat2 rs[k] (List.getElem?_eq_getElem hkd)
      obtain ⟨⟨f, t⟩, hr⟩ : ∃ r : Rg, Hid (rs[k] = r) := ⟨rs[k], rfl⟩
      rw [hr.out] at hvs hvs2
      have hvs' : vs = [.int .i64 f, .int .i64 t] := hvs
      have hvs2' : vs2 = [.int .i64 f, .int .i64 t] := hvs2
      subst hvs' hvs2'
      have e0 : w.cell? ⟨b1, off + k * 2, none⟩ = some (.int .i64 f) := hcell 0 (by decide)
      have e1 : w.cell? ⟨b1, off + k * 2 + 1, none⟩ = some (.int .i64 t) := hcell 1 (by decide)
      have e2 : w.cell? ⟨b2, off2 + k * 2, none⟩ = some (.int .i64 f) := hcell2 0 (by decide)
      have e3 : w.cell? ⟨b2, off2 + k * 2 + 1, none⟩ = some (.int .i64 t) := hcell2 1 (by decide)
      have hki : (k : Int) < (len : Int) := by omega
      clear hcell hcell2 hat hat2 hvs hvs2
      go_wp2_with fail
      go_quiet (fail)
      go_wp2_with fail
      go_roundw
      case rel => exact ⟨k + 1, by omega, by go_num, _, by first | rfl | exact World.drewN_drewN _ _ _⟩
      case measure => (simp [intOf]; try omega)
    · obtain rfl : k = len := by omega
      go_wp2_with fail
      go_ret
      exact ⟨rfl, below_drewN (Below.refl _ _) _⟩
end Go.Proofs.Ytddjkcogfpihpaa
