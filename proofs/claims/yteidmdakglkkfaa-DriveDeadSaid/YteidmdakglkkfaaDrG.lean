/- The drive: get. -/
import Derived.Test.YteidmdakglkkfaaDrB
import Derived.RangeFuncFrom
import Derived.Deep.Slices
namespace Go.Proofs.Yteidmdakglkkfaa
open Go.RowKit Go.Shelf Go.Deep
set_option linter.unusedVariables false
set_option maxRecDepth 100000

attribute [local go_sem] Oper.semAt_some

/-- What a job of kind Get hands back: its code and, where it is 0, its data. -/
def lookD (s : DS) (at_ : Nat) : Int × Option (List Int) :=
  match s.waits.reverse.find? (fun x => x.at_ = at_) with
  | some x => (0, some x.data)
  | none => if (s.plate.getD at_ default).broken = true then (12, none) else
    match (s.plate.getD at_ default).data with
    | none => (0, some (List.replicate 128 0))
    | some d => (0, some d)
def GotPost (r : Int × Option (List Int)) (w : World) (e : Ending) (w' : World) : Prop :=
  ∃ a l c, e = .returned (.agg #[.int .i64 r.1, .slice a l c]) ∧ (r.2 = none ∧ a = none ∧ l = 0 ∧ c = 0 ∨ ∃ d, r.2 = some d ∧ l = 128 ∧ d.length = 128 ∧ SRow (Lay.int .u8) w' (Kind w' 5) a l c d) ∧ Below w.heap.size w w'
theorem waits_pairs {w : World} {B : Nat} {e : TypeId} {G : Nat → Prop} {a : Option Addr} {l c : Nat} {ws : List Put} (h : SOwn putL w B e G a l c ws) :
    ∃ zs : List (Int × Value), zs.length = l ∧ Pairs w.heap.size w a c zs ∧ ∀ j, j < l → ∃ a' l' c', zs.getD j (0, undef) = (((ws.getD j default).at_ : Int), .slice a' l' c') ∧ SRow (Lay.int .u8) w G a' l' c' (ws.getD j default).data ∧ (ws.getD j default).data.length = 128 := by
  have hcm := h.hmax
  have hlc := h.hle
  unfold maxLen at hcm
  obtain ⟨V, hV⟩ := choose_lt (α := Int × Value) (n := l) (p := fun j v => ∃ a' l' c', v = (((ws.getD j default).at_ : Int), .slice a' l' c') ∧ SRow (Lay.int .u8) w G a' l' c' (ws.getD j default).data ∧ (ws.getD j default).data.length = 128 ∧ ∃ b, a = some ⟨b, 0, none⟩ ∧ b < w.heap.size ∧ w.cell? ⟨b, j * 2, none⟩ = some (.int .i64 v.1) ∧ w.cell? ⟨b, j * 2 + 1, none⟩ = some v.2) (fun j hj => by
    obtain ⟨g, vs, rfl, _, hgl, ⟨x, hx, a', l', c', rfl, h128, hr⟩, hc⟩ := h.get j hj
    have hxg : ws.getD j default = x := by simp [List.getD, hx]
    refine ⟨((x.at_ : Int), .slice a' l' c'), a', l', c', by rw [hxg], by rw [hxg]; exact hr, by rw [hxg]; exact h128, g, rfl, hgl, hc 0 (by decide), hc 1 (by decide)⟩)
  have hg : ∀ j, j < l → ((List.range l).map V).getD j (0, undef) = V j := fun j hj => by
    rw [List.getD, List.getElem?_map, List.getElem?_range hj]; rfl
  refine ⟨(List.range l).map V, by simp, ?_, fun j hj => ?_⟩
  · by_cases h0 : l = 0
    · left; subst h0; rfl
    · right
      obtain ⟨_, _, _, _, _, _, b, hb, hbl, _⟩ := hV 0 (by omega)
      refine ⟨b, hb, hbl, ⟨by simp; exact hlc, by unfold maxLen; exact hcm⟩, by simp; omega, fun j hj => ?_⟩
      have hj' : j < l := by simpa using hj
      obtain ⟨_, _, _, _, _, _, b', hb', _, e1, e2⟩ := hV j hj'
      rw [hb] at hb'
      obtain rfl : b = b' := by injection hb' with hb'; injection hb'
      rw [hg j hj']
      exact ⟨e1, e2⟩
  · obtain ⟨a', l', c', e, hr, h128, _⟩ := hV j hj
    exact ⟨a', l', c', by rw [hg j hj]; exact e, hr, h128⟩
def FoundAt (zs : List (Int × Value)) (at_ : Nat) (pre : List (PV zs)) (y : PV zs) : Prop := ∃ q, pre = q ++ [y] ∧ (∀ z ∈ q, (zs.getD z.1 (0, undef)).1 ≠ (at_ : Int)) ∧ (zs.getD y.1 (0, undef)).1 = (at_ : Int)
theorem own_srow {w : World} {B g l c : Nat} {xs : List Int} (h : Own w B 5 1 (some ⟨g, 0, none⟩) l c (xs.map (.int .u8))) (hwf : ∀ x ∈ xs, (Lit.int .u8 x).wf = true) : SRow (Lay.int .u8) w (Kind w 5) (some ⟨g, 0, none⟩) l c xs :=
  (VRow.toRow h.row hwf).toS (fun x hx _ => by cases hx; exact Own.kind h g rfl)
theorem back_map (zs : List (Int × Value)) (ws : List Put) (hl : ws.length = zs.length) : ∀ k, k ≤ zs.length → (backTo zs k).map (fun y => ws.getD y.1 default) = ws.reverse.take k
  | 0, _ => by simp [backTo]
  | k + 1, h => by
    rw [backTo_succ zs k (by omega), List.map_append, back_map zs ws hl k (by omega), List.take_add_one]
    congr 1
    have h1 : k < ws.reverse.length := by simp; omega
    rw [List.getElem?_eq_getElem h1, List.getElem_reverse]
    show [ws.getD (zs.length - 1 - k) default] = _
    rw [List.getD, List.getElem?_eq_getElem (by omega)]
    simp [hl]
theorem look_found {s : DS} {at_ k : Nat} {zs : List (Int × Value)} {y : PV zs} (hk : k ≤ zs.length) (hl : s.waits.length = zs.length) (hz : ∀ j, j < zs.length → (zs.getD j (0, undef)).1 = ((s.waits.getD j default).at_ : Int)) (hf : FoundAt zs at_ (backTo zs k) y) :
    lookD s at_ = (0, some (s.waits.getD y.1 default).data) := by
  obtain ⟨q, h1, h2, h3⟩ := hf
  have hm := back_map zs s.waits hl k hk
  rw [h1, List.map_append] at hm
  have : s.waits.reverse.find? (fun x => x.at_ = at_) = some (s.waits.getD y.1 default) := by
    rw [List.find?_eq_some_iff_append]
    rw [hz y.1 y.2] at h3
    refine ⟨by simp; exact_mod_cast h3, q.map (fun y => s.waits.getD y.1 default), s.waits.reverse.drop k, ?_, fun a ha => ?_⟩
    · conv => lhs; rw [← List.take_append_drop k s.waits.reverse, ← hm]
      simp
    · obtain ⟨z, hz1, rfl⟩ := List.mem_map.1 ha
      have := h2 z hz1
      rw [hz z.1 z.2] at this
      simp only [Bool.not_eq_true', decide_eq_false_iff_not]
      exact_mod_cast this
  unfold lookD
  rw [this]
theorem look_none {s : DS} {at_ : Nat} {zs : List (Int × Value)} (hl : s.waits.length = zs.length) (hz : ∀ j, j < zs.length → (zs.getD j (0, undef)).1 = ((s.waits.getD j default).at_ : Int)) (hf : ∀ z ∈ backTo zs zs.length, (zs.getD z.1 (0, undef)).1 ≠ (at_ : Int)) :
    s.waits.reverse.find? (fun x => x.at_ = at_) = none := by
  have hm := back_map zs s.waits hl zs.length (Nat.le_refl _)
  rw [List.take_of_length_le (by simp; omega)] at hm
  rw [List.find?_eq_none, ← hm]
  intro x hx
  obtain ⟨z, hz1, rfl⟩ := List.mem_map.1 hx
  have := hf z hz1
  rw [hz z.1 z.2] at this
  simp only [decide_eq_true_eq]
  exact_mod_cast this
theorem keeps_turn {ts : List TypeId} {X Y : World} {row : Option Nat} (hg : X.grownBy Y row) (hr : ∀ k, row = some k → ∃ o : Obj, X.heap[k]? = some o ∧ o.isCells = false) : Keeps ts X Y :=
  Keeps.grown hg (fun k e t _ hk => by
    obtain ⟨o, ho, hc⟩ := hr k e
    obtain ⟨cur, hcur⟩ := hk
    rw [hcur] at ho
    injection ho with ho
    subst ho
    cases hc)
theorem kept2 {W : World} {D : Nat} {a b : Addr} {u v : Value} (hK : W.heap[D]? = some (.deferred (some []))) : ((W.setCell a u).setCell b v).heap[D]? = some (.deferred (some [])) :=
  (KeepsOthers.setCell _ _ _).same D _ ((KeepsOthers.setCell _ _ _).same D _ hK rfl) rfl
theorem get_out {n D : Nat} {W9 w : World} {tmps : Array Value} {r : Int × Option (List Int)} {code : Int} {a : Option Addr} {l c : Nat} (h4 : tmps.getD 4 undef = .pointer (some ⟨n, 0, none⟩)) (hK : W9.heap[D]? = some (.deferred (some [])))
    (hB : Box W9 n #[.int .i64 code, .slice a l c] 90) (hc : r.1 = code) (hd : r.2 = none ∧ a = none ∧ l = 0 ∧ c = 0 ∨ ∃ d, r.2 = some d ∧ l = 128 ∧ d.length = 128 ∧ SRow (Lay.int .u8) W9 (Kind W9 5) a l c d)
    (hL : Below w.heap.size w W9) (hD : w.heap.size ≤ D) :
    bodyPostM Fence.wide 3 Try.prog Try.f59 (GotPost r w) .ret { tmps := tmps, defers := [{ target := .collected D, args := #[] }] } W9 := by
  have hk9 : Keeps [5, 90] W9 (W9.putObj D (.deferred none)) := keeps_turn (grownBy_putObj' W9 D _) (fun k e => by cases e; exact ⟨_, hK, rfl⟩)
  have hR9 := hB.keeps hk9 (by simp)
  refine ⟨by simp, .inl ⟨_, _, rfl, run_takeDeferred hK, ?_⟩⟩
  refine ⟨_, results_box0 rfl _ _ n _ _ hR9 _ h4 Try.underlying90 rfl (by kernel_rfl), _, _, _, by rw [hc], ?_, hL.grown (grownBy_putObj' W9 D _) hL.size (fun k e => by cases e; exact hD)⟩
  rcases hd with h | ⟨d, h1, h2, h3, h4⟩
  · exact .inl h
  · exact .inr ⟨d, h1, h2, h3, h4.keep (fun b hb => hk9.kind (by simp) hb) (fun b hb _ => hk9.2 _ (by simp) b hb)⟩
theorem keeps_reply {W : World} {m : Nat} {cs : Array Value} (hb : Box W m cs 90) (u v : Value) {ts : List TypeId} (ht : 90 ∉ ts) : Keeps ts W ((W.setCell ⟨m, 0, none⟩ u).setCell ⟨m, 1, none⟩ v) :=
  (Keeps.set _ (fun t h hk => ht (by rw [← hk.ne hb.kind]; exact h))).trans (Keeps.set _ (fun t h hk => ht (by rw [← hk.ne (hb.set 0 u).kind]; exact h)))
theorem srow_some {w : World} {F : Nat → Prop} {a : Option Addr} {c : Nat} {xs : List Int} (h : SRow (Lay.int .u8) w F a 128 c xs) : ∃ p, a = some p := by
  rcases h.toRow.hat with h0 | ⟨b, off, ha, _⟩
  · omega
  · exact ⟨_, ha⟩
set_option maxHeartbeats 4000000 in
theorem getD (B hd : Nat) (s : DS) (at_ : Nat) (w : World) (h : Dr w B hd s) (ha : at_ < 8) :
    Calls Try.prog 59 #[.pointer (some ⟨hd, 0, none⟩), .int .i64 at_] w (GotPost (lookD s at_) w) := by
  obtain ⟨gp, cp, aw, lw, cw, hBh, hb, hp, hw, hat⟩ := h
  have q1 : w.cell? ⟨hd, 1, none⟩ = some (.slice aw lw cw) := hb.cell 1
  have hlt := hb.lt
  refine (callsIn_wide (n := 3)).1 ?_
  refine callsIn_of_wp_marks Try.func59 rfl trivial ?_ rfl
  simp only [Try.ntmps59, List.size_toArray, List.length_cons, List.length_nil, Nat.reduceAdd, Nat.reduceSub, Array.replicate_succ, Array.replicate_zero, List.push_toArray, List.append_toArray, List.nil_append, List.cons_append]
  obtain ⟨zs, hzl, hzp, hzd⟩ := waits_pairs hw
  have HZD := Lib.hid hzd
  have HB := Lib.hid hb
  have HP := Lib.hid hp
  have HW := Lib.hid hw
  clear hzd hb hp hw
  gi_wp2_with (refine ⟨trivial, ?_⟩; gi_at_call 67; refine (back_in Fence.wide (3 - 1) trivial rfl _ _ _ _).mono ?_; rintro e w' ⟨rfl, rfl⟩)
  have hsw : (((w.alloc (.cells #[.int .i64 (at_ : Int)] 3)).alloc (.cells #[.int .i64 0, .slice none 0 0] 90)).alloc (.cells #[.slice aw lw cw] 134)).heap.size = w.heap.size + 3 := by simp
  obtain ⟨n, hn⟩ : ∃ n, w.heap.size = n := ⟨_, rfl⟩
  have LV0 : Below w.heap.size w (((w.alloc (.cells #[.int .i64 (at_ : Int)] 3)).alloc (.cells #[.int .i64 0, .slice none 0 0] 90)).alloc (.cells #[.slice aw lw cw] 134)) := (((Below.refl _ w).alloc (Nat.le_refl _) _).alloc (by simp) _).alloc (by simp; omega) _
  have BA0 : Box (((w.alloc (.cells #[.int .i64 (at_ : Int)] 3)).alloc (.cells #[.int .i64 0, .slice none 0 0] 90)).alloc (.cells #[.slice aw lw cw] 134)) n #[.int .i64 (at_ : Int)] 3 := ((Box.new hn.symm).alloc _).alloc _
  have BR0 : Box (((w.alloc (.cells #[.int .i64 (at_ : Int)] 3)).alloc (.cells #[.int .i64 0, .slice none 0 0] 90)).alloc (.cells #[.slice aw lw cw] 134)) (n + 1) #[.int .i64 0, .slice none 0 0] 90 := (Box.new (by simp; omega)).alloc _
  have BS0 : Box (((w.alloc (.cells #[.int .i64 (at_ : Int)] 3)).alloc (.cells #[.int .i64 0, .slice none 0 0] 90)).alloc (.cells #[.slice aw lw cw] 134)) (n + 2) #[.slice aw lw cw] 134 := Box.new (by simp; omega)
  obtain ⟨V, hV⟩ : ∃ V, V = (((w.alloc (.cells #[.int .i64 (at_ : Int)] 3)).alloc (.cells #[.int .i64 0, .slice none 0 0] 90)).alloc (.cells #[.slice aw lw cw] 134)) := ⟨_, rfl⟩
  rw [← hV] at hsw LV0 BA0 BR0 BS0 ⊢
  rw [hn] at hsw LV0 ⊢
  rw [show n + 1 + 1 = n + 2 from rfl]
  clear hV
  have LV0' : Below w.heap.size w V := by rw [hn]; exact LV0
  have hzV : Pairs (n + 3) V aw cw zs := by
    rcases hzp with h | ⟨b, h1, h2, h3⟩
    · exact .inl h
    · rw [hn] at h2
      exact .inr ⟨b, h1, by omega, h3.1, h3.2.1, fun j hj => ⟨(LV0.cell (p := ⟨b, j * 2, none⟩) h2).trans (h3.2.2 j hj).1, (LV0.cell (p := ⟨b, j * 2 + 1, none⟩) h2).trans (h3.2.2 j hj).2⟩⟩
  have eBS : V.cell? ⟨n + 2, 0, none⟩ = some (.slice aw zs.length cw) := by rw [hzl]; exact BS0.cell 0
  refine wpIn_rangeFunc_ownH rfl (by decide) (gf := 68) (lb := #[.pointer (some ⟨n + 2, 0, none⟩)]) rfl trivial (enters_of Try.func68 (by kernel_rfl) rfl)
    (back_stops Fence.wide (3 - 1) trivial rfl (by decide) (n + 2) (n + 3) aw cw zs V (by omega) (by omega) eBS hzV) belowK_t (belowK_b (by omega)) (Below.refl _ _) (fun _ => rfl)
    (fun pre W => (∀ y ∈ pre, (zs.getD y.1 (0, undef)).1 ≠ (at_ : Int)) ∧ Below (n + 3) V W)
    (fun c pre W => ∃ y g cc, (c = .ret ∧ FoundAt zs at_ pre y) ∧ (Box W (n + 1) #[.int .i64 0, .slice (some ⟨g, 0, none⟩) 128 cc] 90 ∧ Own W n 5 1 (some ⟨g, 0, none⟩) 128 cc ((s.waits.getD y.1 default).data.map (.int .u8))) ∧ Below n V W)
    (OwnFrom.and (ownFrom_pure _ _) (ownFrom_below (by omega) (by omega)))
    ?hix ⟨fun y hy => (by cases hy), Below.refl _ _⟩
    (fun x a' W => ∃ Bx, n + 2 < Bx ∧ Box W Bx #[.int .i64 (zs.getD x.1 (0, undef)).1, (zs.getD x.1 (0, undef)).2] 140 ∧ a' = { tmps := #[.pointer (some ⟨hd, 0, none⟩), .int .i64 at_, undef, .pointer (some ⟨n, 0, none⟩), .pointer (some ⟨n + 1, 0, none⟩), undef, .pointer (some ⟨Bx, 0, none⟩), undef, .pointer (some ⟨hd, 0, none⟩), .pointer (some ⟨hd, 0, none⟩), .pointer (some ⟨hd, 1, none⟩), .slice aw lw cw, .func (.func 68) #[] #[.pointer (some ⟨n + 2, 0, none⟩)], .int .i64 (x.1 : Int), .agg #[.int .i64 (zs.getD x.1 (0, undef)).1, (zs.getD x.1 (0, undef)).2], undef, undef, undef, undef, undef, undef, undef, undef, undef, undef, undef, undef, undef, undef, undef, undef, undef, undef, undef, undef, undef, undef, undef, undef, undef, undef, undef, undef, undef], defers := [] })
    ?hax ?assign ?body ?done ?stop
  case hix =>
    rintro c pre X Y row ⟨y, g, cc, h1, ⟨h2, h3⟩, h4⟩ hg hr
    have hk : Keeps [5, 90] X Y := keeps_turn hg (fun k e => (hr k e).2)
    exact ⟨y, g, cc, h1, ⟨h2.keeps hk (by simp), h3.keeps hk (by simp)⟩, h4.grown hg (by have := h4.size; omega) (fun k e => by have := (hr k e).1; omega)⟩
  case hax =>
    rintro x a' _ X Y row ⟨Bx, h1, h2, h3⟩ hg hr
    have hk : Keeps [140] X Y := keeps_turn hg (fun k e => (hr k e).2)
    exact ⟨Bx, h1, h2.keeps hk (by simp), h3⟩
  case assign =>
    rintro l pre x W K ⟨hne, hB⟩ hK
    obtain ⟨z0, hz0⟩ : ∃ z, (zs.getD x.1 (0, undef)).1 = z := ⟨_, rfl⟩
    obtain ⟨a1, l1, c1, hz1, _⟩ := HZD.out x.1 (by omega)
    have hs := hB.size
    have hz2 : (zs.getD x.1 (0, undef)).2 = .slice a1 l1 c1 := by rw [hz1]
    dsimp only [pvs]
    rw [hz0, hz2] at hK ⊢
    gi_wp2
    refine hK _ _ ((KeepsOthers.alloc _ _).from _) ((Below.refl _ W).alloc (by omega) _) ⟨hne, hB.alloc (by omega) _⟩ ⟨W.heap.size, by omega, Box.new rfl, rfl⟩
  case body =>
    rintro l pre x a' W hl ⟨r, hr⟩ ⟨hne, hB⟩ ⟨Bx, hBx, bX, rfl⟩ hlt
    obtain ⟨a1, l1, c1, hz1, hsr, h128⟩ := HZD.out x.1 (by have := x.2; omega)
    obtain ⟨yw, hyw⟩ : ∃ yw, s.waits.getD x.1 default = yw := ⟨_, rfl⟩
    rw [hyw] at hz1 hsr h128
    have hs := hB.size
    have e1 : (zs.getD x.1 (0, undef)).1 = (yw.at_ : Int) := by rw [hz1]
    have e2 : (zs.getD x.1 (0, undef)).2 = .slice a1 l1 c1 := by rw [hz1]
    rw [e1, e2] at bX ⊢
    obtain rfl : l1 = 128 := by have := hsr.1; omega
    obtain ⟨p1, rfl⟩ := srow_some hsr
    have XR : Hid (Row .u8 W (some p1) 128 c1 yw.data) := (hsr.toRow.below LV0').below (hB.mono (by omega))
    have b0 : W.cell? ⟨Bx, 0, none⟩ = some (.int .i64 (yw.at_ : Int)) := bX.cell 0
    have b1 : W.cell? ⟨Bx, 1, none⟩ = some (.slice (some p1) 128 c1) := bX.cell 1
    have BAW := BA0.below hB (by omega)
    have BRW := BR0.below hB (by omega)
    have bA : W.cell? ⟨n, 0, none⟩ = some (.int .i64 (at_ : Int)) := BAW.cell 0
    clear hsr
    by_cases hat1 : yw.at_ = at_
    · have hd1 : decide ((yw.at_ : Int) = (at_ : Int)) = true := decide_eq_true (by omega)
      gi_wp2
      refine ⟨trivial, ?_⟩
      refine (CallsIn.inRound l (callsIn_wide.2 (cloneB p1 128 c1 yw.data W XR.out (by decide) (by decide)))).mono ?_
      rintro e W1 ⟨gc, cc, rfl, hOC, hBC⟩
      have cR0 := (BRW.below hBC BRW.lt).cell 0
      have cR1 := (BRW.below hBC BRW.lt).cell 1
      have fR0 := (BRW.below hBC BRW.lt).free 0
      have fR1 := (BRW.below hBC BRW.lt).free 1
      have HOC := Lib.hid hOC
      have HBC := Lib.hid hBC
      have RB9 := Lib.hid (((BRW.below hBC BRW.lt).set 0 (.int .i64 0)).set 1 (.slice (some ⟨gc, 0, none⟩) 128 cc))
      clear hOC hBC
      gi_wp2
      have hsW := HBC.out.size
      have hn1 : ∀ t ∈ [5], ¬ Kind W1 t (n + 1) := fun t ht hk => by
        obtain rfl := List.mem_singleton.1 ht
        exact absurd (hk.ne (BRW.below HBC.out BRW.lt).kind) (by decide)
      have K9 : Keeps [5] W1 ((W1.setCell ⟨n + 1, 0, none⟩ (.int .i64 0)).setCell ⟨n + 1, 1, none⟩ (.slice (some ⟨gc, 0, none⟩) 128 cc)) :=
        (Keeps.set _ hn1).trans (Keeps.set _ (fun t ht hk => by
          obtain rfl := List.mem_singleton.1 ht
          exact absurd (hk.ne ((BRW.below HBC.out BRW.lt).set 0 (.int .i64 0)).kind) (by decide)))
      have KF : KeepsFrom V.heap.size W W1 := ⟨hsW, fun k o _ hk _ => (HBC.out.block k (Array.getElem?_eq_some_iff.1 hk).1).trans hk⟩
      refine ⟨KF.trans (((KeepsOthers.setCell _ _ _).from _).trans ((KeepsOthers.setCell _ _ _).from _)), x, gc, cc, ⟨rfl, pre, rfl, hne, by rw [e1, hat1]⟩, ⟨RB9.out, by rw [hyw]; exact (HOC.out.keeps K9 (by simp)).mono (by omega)⟩, ?_⟩
      exact ((hB.mono (by omega)).trans (HBC.out.mono (by omega))).setCell (p := ⟨n + 1, 0, none⟩) (by simp) _ |>.setCell (p := ⟨n + 1, 1, none⟩) (by simp) _
    · have hd1 : decide ((yw.at_ : Int) = (at_ : Int)) = false := decide_eq_false (by omega)
      gi_wp2
      refine ⟨KeepsFrom.refl _ _, Below.refl _ _, ?_, hB⟩
      intro y hy
      rcases List.mem_append.1 hy with hy | hy
      · exact hne y hy
      · obtain rfl := List.mem_singleton.1 hy
        rw [e1]; omega
  case done =>
    rintro D xs W hD rfl ⟨hne, hB⟩ hK
    have hfn := look_none (s := s) (by have := HW.out.1; omega) (fun j hj => by obtain ⟨_, _, _, h, _⟩ := HZD.out j (by omega); rw [h]) hne
    obtain ⟨ga, vs, heq, hBp, hpl, ⟨x, hx, ax, lx, cx, rfl, hdat⟩, hc2⟩ := HP.out.get at_ ha
    obtain rfl : ga = gp := by injection heq with heq; injection heq with h1 _; exact h1.symm
    have hgx' : s.plate.getD at_ default = x := by simp [List.getD, hx]
    have hB1 : Below w.heap.size w W := LV0'.trans (hB.mono (by omega))
    have o0 : W.cell? ⟨ga, at_ * 2, none⟩ = some (.slice ax lx cx) := (hB1.cell (p := ⟨ga, at_ * 2, none⟩) hpl).trans (hc2 0 (by decide))
    have o1 : W.cell? ⟨ga, at_ * 2 + 1, none⟩ = some (.bool x.broken) := (hB1.cell (p := ⟨ga, at_ * 2 + 1, none⟩) hpl).trans (hc2 1 (by decide))
    have h0 : W.cell? ⟨hd, 0, none⟩ = some (.slice (some ⟨ga, 0, none⟩) 8 cp) := (hB1.cell (p := ⟨hd, 0, none⟩) hlt).trans (HB.out.cell 0)
    have BAW := BA0.below hB (by omega)
    have BRW := BR0.below hB (by omega)
    have bA : W.cell? ⟨n, 0, none⟩ = some (.int .i64 (at_ : Int)) := BAW.cell 0
    have i8 : (at_ : Int) < 8 := by omega
    have hcp := HP.out.hmax
    have hlp := HP.out.hle
    unfold maxLen at hcp
    have LA := Below_alloc1 (wr := W) (.cells #[.slice none 0 0, .bool false] 144)
    have o0a := (LA.cell (p := ⟨ga, at_ * 2, none⟩) (World.block_lt_of_cell? _ _ o0)).trans o0
    have o1a := (LA.cell (p := ⟨ga, at_ * 2 + 1, none⟩) (World.block_lt_of_cell? _ _ o1)).trans o1
    have h0a := (LA.cell (p := ⟨hd, 0, none⟩) (World.block_lt_of_cell? _ _ h0)).trans h0
    have bAa := (LA.cell (p := ⟨n, 0, none⟩) (World.block_lt_of_cell? _ _ bA)).trans bA
    gi_wp2
    refine wpIn_wide.2 ?_
    go_wp2
    go_region
    go_wp2
    obtain ⟨gx, hgx⟩ : ∃ g, W.heap.size = g := ⟨_, rfl⟩
    have hDW : D < W.heap.size := (Array.getElem?_eq_some_iff.1 hK).1
    have XB0 : Box (W.alloc (.cells #[.slice ax lx cx, .bool x.broken] 144)).drew gx #[.slice ax lx cx, .bool x.broken] 144 := (Box.new hgx.symm : Box (W.alloc _) gx _ _)
    have LV2 : Below W.heap.size W (W.alloc (.cells #[.slice ax lx cx, .bool x.broken] 144)).drew := (Below_alloc1 _).drew
    obtain ⟨V2, hV2⟩ : ∃ V2, V2 = (W.alloc (.cells #[.slice ax lx cx, .bool x.broken] 144)).drew := ⟨_, rfl⟩
    rw [← hV2] at XB0 LV2 ⊢
    rw [hgx]
    clear hV2 o0a o1a h0a bAa LA
    have hK2 : V2.heap[D]? = some (.deferred (some [])) := (LV2.block D hDW).trans hK
    have BR2 := BRW.below LV2 BRW.lt
    have x0 : V2.cell? ⟨gx, 0, none⟩ = some (.slice ax lx cx) := XB0.cell 0
    have x1 : V2.cell? ⟨gx, 1, none⟩ = some (.bool x.broken) := XB0.cell 1
    have r0 : V2.cell? ⟨n + 1, 0, none⟩ = some (.int .i64 0) := BR2.cell 0
    have r1 : V2.cell? ⟨n + 1, 1, none⟩ = some (.slice none 0 0) := BR2.cell 1
    have fr0 : V2.frozen? ⟨n + 1, 0, none⟩ = false := BR2.free 0
    have fr1 : V2.frozen? ⟨n + 1, 1, none⟩ = false := BR2.free 1
    have hDn : n ≤ D := by omega
    have hLw : Below n w V2 := (LV0.trans (hB.mono (by omega))).trans (LV2.mono (by have := hB.size; omega))
    have hs2 := LV2.size
    obtain ⟨rr, hrr⟩ : ∃ r, r = lookD s at_ := ⟨_, rfl⟩
    rw [← hrr]
    have qT : ∀ (w : World) (a : Option Addr) (n c n' c' : Nat), (binOp .eql 59 (.slice a n c) (.slice none n' c')).run Try.prog w = .ok (.bool a.isNone) w := fun w a n c n' c' => Lib.run_eql_slice_nil w _ _ a n c n' c' Try.underlying59
    refine wpIn_wide.2 ?_
    cases hbr : x.broken with
    | true =>
      rw [hbr] at x1
      have hlk : rr = (12, none) := by rw [hrr]; unfold lookD; rw [hfn]; show (if _ then _ else _) = _; rw [hgx', hbr]; rfl
      clear hrr
      go_wp2_with fail
      exact get_out rfl (kept2 hK2) ((BR2.set 0 (.int .i64 12)).set 1 (.slice none 0 0)) (by rw [hlk]) (.inl ⟨by rw [hlk], rfl, rfl, rfl⟩) (by rw [hn]; exact (hLw.setCell (p := ⟨n + 1, 0, none⟩) (by simp) _).setCell (p := ⟨n + 1, 1, none⟩) (by simp) _) (by omega)
    | false =>
      rw [hbr] at x1
      rcases hdat with ⟨hdn, rfl, rfl, rfl⟩ | ⟨d, hds, hd128, hdr⟩
      · have hlk : Hid (rr = (0, some (List.replicate 128 0))) := by show _ = _; rw [hrr]; unfold lookD; rw [hfn]; show (if _ then _ else _) = _; rw [hgx', hbr, hdn]; rfl
        clear hrr
        go_wp2_with (refine wpList_make_zeros rfl _ _ 59 rfl 5 _ 1 Try.underlying59 info_byte0 rfl _ _ _ _ 128 rfl rfl rfl rfl (by omega) (by unfold maxLen; omega) ?_)
        intro W3 hO3 hB3
        have hO4 : Own W3 V2.heap.size 5 1 (some ⟨V2.heap.size, 0, none⟩) 128 128 ((List.replicate 128 (0 : Int)).map (.int .u8)) := hO3
        have BR3 := BR2.below hB3 BR2.lt
        have hK3 := (hB3.block D (Array.getElem?_eq_some_iff.1 hK2).1).trans hK2
        have hL3 : Below n w W3 := hLw.trans (hB3.mono (by omega))
        have hO5 := own_srow (hO4.keeps (keeps_reply BR3 (.int .i64 0) (.slice (some ⟨V2.heap.size, 0, none⟩) 128 128) (ts := [5]) (by decide)) (by simp)) (by decide)
        have HO := Lib.hid hO5
        have c0 : W3.cell? ⟨n + 1, 0, none⟩ = some (.int .i64 0) := BR3.cell 0
        have c1 : W3.cell? ⟨n + 1, 1, none⟩ = some (.slice none 0 0) := BR3.cell 1
        have f0 : W3.frozen? ⟨n + 1, 0, none⟩ = false := BR3.free 0
        have f1 : W3.frozen? ⟨n + 1, 1, none⟩ = false := BR3.free 1
        clear hO3 hO4 hO5 r0 r1 fr0 fr1
        go_wp2_with fail
        exact get_out rfl (kept2 hK3) ((BR3.set 0 (.int .i64 0)).set 1 (.slice (some ⟨V2.heap.size, 0, none⟩) 128 128)) (by rw [hlk.out]) (.inr ⟨_, by rw [hlk.out], rfl, by simp, HO.out⟩) (by rw [hn]; exact (hL3.setCell (p := ⟨n + 1, 0, none⟩) (by simp) _).setCell (p := ⟨n + 1, 1, none⟩) (by simp) _) (by omega)
      · have hlk : Hid (rr = (0, some d)) := by show _ = _; rw [hrr]; unfold lookD; rw [hfn]; show (if _ then _ else _) = _; rw [hgx', hbr, hds]; rfl
        clear hrr
        obtain rfl : lx = 128 := by have := hdr.1; omega
        obtain ⟨p1, rfl⟩ := srow_some hdr
        have XR : Hid (Row .u8 V2 (some p1) 128 cx d) := ((hdr.toRow.below hB1).below LV2)
        have hwf := hdr.toRow.hwf
        clear hdr
        go_wp2_with fail
        refine (cloneB p1 128 cx d V2 XR.out (by decide) (by decide)).mono ?_
        rintro e W3 ⟨gc, cc, rfl, hO4, hB3⟩
        have BR3 := BR2.below hB3 BR2.lt
        have hK3 := (hB3.block D (Array.getElem?_eq_some_iff.1 hK2).1).trans hK2
        have hL3 : Below n w W3 := hLw.trans (hB3.mono (by omega))
        have hO5 := own_srow (hO4.keeps (keeps_reply BR3 (.int .i64 0) (.slice (some ⟨gc, 0, none⟩) 128 cc) (ts := [5]) (by decide)) (by simp)) hwf
        have HO := Lib.hid hO5
        have c0 : W3.cell? ⟨n + 1, 0, none⟩ = some (.int .i64 0) := BR3.cell 0
        have c1 : W3.cell? ⟨n + 1, 1, none⟩ = some (.slice none 0 0) := BR3.cell 1
        have f0 : W3.frozen? ⟨n + 1, 0, none⟩ = false := BR3.free 0
        have f1 : W3.frozen? ⟨n + 1, 1, none⟩ = false := BR3.free 1
        clear hO4 hO5 r0 r1 fr0 fr1
        go_wp2_with fail
        exact get_out rfl (kept2 hK3) ((BR3.set 0 (.int .i64 0)).set 1 (.slice (some ⟨gc, 0, none⟩) 128 cc)) (by rw [hlk.out]) (.inr ⟨_, by rw [hlk.out], rfl, hd128, HO.out⟩) (by rw [hn]; exact (hL3.setCell (p := ⟨n + 1, 0, none⟩) (by simp) _).setCell (p := ⟨n + 1, 1, none⟩) (by simp) _) (by omega)
  case stop =>
    rintro D c pre W hD ⟨k, hk, hpre⟩ ⟨y, g, cc, ⟨rfl, hf⟩, ⟨hR, hO⟩, hB⟩ hK
    gi_wp2
    have hlk : lookD s at_ = (0, some (s.waits.getD y.1 default).data) := look_found hk (by have := HW.out.1; omega) (fun j hj => by obtain ⟨_, _, _, h, _⟩ := HZD.out j (by omega); rw [h]) (hpre ▸ hf)
    have hk9 : Keeps [5, 90] W (W.putObj D (.deferred none)) := keeps_turn (grownBy_putObj' W D _) (fun k e => by cases e; exact ⟨_, hK, rfl⟩)
    have hR9 := hR.keeps hk9 (by simp)
    have hO9 := hO.keeps hk9 (by simp)
    obtain ⟨a1, l1, c1, hz1, hsr, h128⟩ := HZD.out y.1 (by have := y.2; omega)
    have hwf := hsr.toRow.hwf
    have hL9 : Below w.heap.size w (W.putObj D (.deferred none)) := by
      rw [hn]
      exact (LV0.trans hB).grown (grownBy_putObj' W D _) (by have := hB.size; omega) (fun k e => by cases e; omega)
    rw [hlk]
    refine ⟨by simp, .inl ⟨_, _, rfl, run_takeDeferred hK, ?_⟩⟩
    exact ⟨_, results_box0 rfl _ _ (n + 1) _ _ hR9 _ rfl Try.underlying90 rfl (by kernel_rfl), _, _, _, rfl, .inr ⟨_, rfl, rfl, h128, own_srow hO9 hwf⟩, hL9⟩
end Go.Proofs.Yteidmdakglkkfaa
