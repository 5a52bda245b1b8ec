/- The walk of SnapAll. -/
import Derived.Test.YthjjfmnipemakaaKpG
import Derived.Test.YthjjfmnipemakaaKpQ
import Derived.Test.YthjjfmnipemakaaOwnMake
namespace Go.Proofs.Ythjjfmnipemakaa
open Go.RowKit
set_option linter.unusedVariables false
set_option maxRecDepth 100000

theorem vrow_pair {w w0 : World} (v1 v2 v3 v4 : Value) (e : TypeId) (hw : w = w0.alloc (.cells #[v1, v2, v3, v4] e)) : VRow w 2 (some ⟨w0.heap.size, 0, none⟩) 2 2 ([[v1, v2], [v3, v4]] : List (List Value)).flatten := by
  refine ⟨rfl, Nat.le_refl _, by unfold maxLen; omega, (fun h => by cases h), .inr ⟨w0.heap.size, 0, rfl, fun i hi => ?_⟩⟩
  subst hw
  rw [Nat.zero_add, cell_of_row _ _ i #[v1, v2, v3, v4] e (0, 0) (heap_alloc_new w0 _)]
  simp
theorem flatMk {α : Type} {n : Nat} {hn : 0 < n} {f : α → List Value} {hf : ∀ x, (f x).length = n} {h1 : ∀ x, ∀ v ∈ f x, v.oneCell' = true} (w : World) (F : Nat → Prop) (xs : List α) : Pt (Lay.flat n hn f hf h1) w F xs (xs.map f) :=
  ⟨by simp, fun i x vs hx hv => by rw [List.getElem?_map, hx] at hv; injection hv with hv; exact hv.symm⟩
/-- What a move came to: its code, its blocks. -/
theorem goneAt {w : World} {F : Nat → Prop} {a : Option Addr} {len cap : Nat} {gs : List (Int × List Int)} (h : SRow goneL w F a len cap gs) (i : Nat) (hi : i < len) (x : Int × List Int) (hx : gs[i]? = some x) :
    ∃ b off ag ng cg, a = some ⟨b, off, none⟩ ∧ b < w.heap.size ∧ w.cell? ⟨b, off + i * 2, none⟩ = some (.int .i64 x.1) ∧ w.cell? ⟨b, off + i * 2 + 1, none⟩ = some (.slice ag ng cg) ∧ SRow (Lay.int .i64) w F ag ng cg x.2 := by
  obtain ⟨b, off, vs, ha, _, hb, hv, hc⟩ := h.get i hi
  obtain ⟨us, ws, rfl, h1, ag, ng, cg, h2, h3⟩ := hv x hx
  obtain rfl : us = [.int .i64 x.1] := h1.1
  subst h2
  exact ⟨b, off, ag, ng, cg, ha, hb, hc 0 (by decide), hc 1 (by decide), h3⟩
def cntA (f : Nat → Nat) : Array Value := ((List.range 60).map fun b => Value.int .i64 (f b)).toArray
theorem cntA_get (f : Nat → Nat) (b : Nat) (h : b < 60) : (cntA f)[b]? = some (.int .i64 (f b)) := by simp [cntA, h]
theorem cntA_set (f : Nat → Nat) (b v : Nat) (h : b < 60) : (cntA f).setIfInBounds b (.int .i64 v) = cntA (fun x => if x = b then v else f x) := by
  apply Array.ext_getElem?
  intro i
  rw [Array.getElem?_setIfInBounds]
  by_cases hi : i < 60
  · rw [cntA_get _ i hi, cntA_get _ i hi]
    by_cases hb : b = i
    · subst hb; simp [cntA, h]
    · rw [if_neg hb, if_neg (fun e => hb e.symm)]
  · have e1 : ∀ g : Nat → Nat, (cntA g)[i]? = none := fun g => by simp [cntA]; omega
    rw [e1, e1]
    split
    · rename_i hb; subst hb; omega
    · rfl
/-- Numbers of one row of blocks. -/
theorem intRow_at {w : World} {F : Nat → Prop} {a : Option Addr} {len cap : Nat} {xs : List Int} (h : SRow (Lay.int .i64) w F a len cap xs) (k : Nat) (hk : k < len) : ∃ b off x, a = some ⟨b, off, none⟩ ∧ b < w.heap.size ∧ xs[k]? = some x ∧ w.cell? ⟨b, off + k, none⟩ = some (.int .i64 x) := by
  obtain ⟨b, off, vs, ha, _, hb, hv, hc⟩ := h.get k hk
  have hx := List.getElem?_eq_getElem (show k < xs.length by rw [h.1]; exact hk)
  obtain ⟨rfl, _⟩ := hv _ hx
  have := hc 0 (by decide)
  rw [show off + (k * (Lay.int .i64).size + 0) = off + k by show off + (k * 1 + 0) = off + k; omega] at this
  exact ⟨b, off, _, ha, hb, hx, this⟩
theorem startC {w w' : World} (h : Own w' w.heap.size 3 1 (some ⟨w.heap.size, 0, none⟩) 60 60 (List.replicate 60 (Value.int .i64 0))) (hb : Below w.heap.size w w') : Apt [thSince w, thBox w.heap.size (cntA fun b => (kp0.backs []).count (b : Int)) 3] w' := by
  have h1 := Own.box h
  have e : (List.replicate 60 (Value.int .i64 0)).toArray = cntA fun b => (kp0.backs []).count (b : Int) := by
    have : (fun b : Nat => (kp0.backs []).count (b : Int)) = fun _ => 0 := by funext b; simp [Kp.backs, Kp.outs]
    rw [this]; rfl
  rw [e] at h1
  exact ((Apt.nil w').cons (t := thBox w.heap.size (cntA fun b => (kp0.backs []).count (b : Int)) 3) h1 (fun s hs => by cases hs)).cons hb (fun s hs b hb hs' => by
    obtain rfl := List.mem_singleton.1 hs
    have h2 : b < w.heap.size := hb
    have h3 : b = w.heap.size := hs'
    omega)
set_option maxHeartbeats 8000000 in
theorem snapAll (F : Nat → Prop) (a : Option Addr) (len cap : Nat) (xs : List (Int × Int)) (w : World) (ha : SRow turnL w F a len cap xs) :
    Calls Try.prog 8 #[.slice a len cap] w fun e w' => e = .returned (.bool true) ∧ Below w.heap.size w w' := by
  have hM := Lib.hid (movesOf F a len cap xs 60 w ha (by omega))
  obtain ⟨hd, hhd⟩ : ∃ hd, Hid ((xs.take 60).map mvOf = hd) := ⟨_, rfl⟩
  have hhok : Hid (∀ m ∈ hd, MoveOk m) := by
    show ∀ m ∈ hd, MoveOk m
    rw [← hhd.out]; intro m hm
    obtain ⟨x, _, rfl⟩ := List.mem_map.1 hm
    exact mvOf_ok x
  have hhl : hd.length ≤ 60 := by rw [← hhd.out, List.length_map, List.length_take]; omega
  have hAll := Lib.hid (allMoves hhok.out hhl)
  rw [hhd.out] at hM
  clear ha hhd
  obtain ⟨B, hB⟩ : ∃ B, Hid (w.heap.size = B) := ⟨_, rfl⟩
  rw [hB.out] at hM
  go_enter Try.func8, Try.ntmps8
  go_wp2_with fail
  refine hM.out.mono ?_
  rintro e w1 ⟨a1, l1, c1, rfl, hT1⟩
  have hl1 : Hid (hd.length = l1) := hT1.out.now.1
  have hl1b : l1 ≤ 60 := by have := hl1.out; omega
  go_wp2_with fail
  go_loopw [3, 4] (fun ov iv wr => ∃ (j : Nat) (ao : Option Addr) (co : Nat), j ≤ 60 ∧ iv = .int .i64 j ∧ ov = .slice ao (l1 + 2 * j) co ∧ Hid (Turns (thAll []) (thOwn moveL B 60 ao (l1 + 2 * j) co (hd ++ tailN j)) w wr)) (fun _ iv _ => 60 - (intOf iv).toNat)
  case atStart => exact ⟨0, a1, c1, by omega, rfl, rfl, by show Turns _ _ _ _; rw [show hd ++ tailN 0 = hd by simp [tailN]]; exact hT1.out⟩
  case round =>
    obtain ⟨j, ao, co, hj, rfl, rfl, hT⟩ := hrel
    by_cases hlt : j < 60
    · have hBw : B ≤ wr.heap.size := by have := hT.out.mv.size; have := hB.out; omega
      have hV : Hid (VRow (wr.alloc (.cells #[.int .i64 2, .int .i64 (j : Int), .int .i64 4, .int .i64 (j : Int)] 60)) 2 (some ⟨wr.heap.size, 0, none⟩) 2 2 ([[.int .i64 2, .int .i64 (j : Int)], [.int .i64 4, .int .i64 (j : Int)]] : List (List Value)).flatten) := vrow_pair _ _ _ _ _ rfl
      have hP : Hid (Pt moveL (wr.alloc (.cells #[.int .i64 2, .int .i64 (j : Int), .int .i64 4, .int .i64 (j : Int)] 60)) (fun _ => False) [((2 : Int), j), (4, j)] [[.int .i64 2, .int .i64 (j : Int)], [.int .i64 4, .int .i64 (j : Int)]]) := flatMk _ _ [((2 : Int), j), (4, j)]
      have hO := Lib.hid (Thing.below hT.out.now (Below_alloc1 (.cells #[.int .i64 2, .int .i64 (j : Int), .int .i64 4, .int .i64 (j : Int)] 60)))
      have hts : Hid ((hd ++ tailN j) ++ [((2 : Int), j), (4, j)] = hd ++ tailN (j + 1)) := by show _ = _; rw [tailN_succ, List.append_assoc]
      have hBa : B ≤ (wr.alloc (.cells #[.int .i64 2, .int .i64 (j : Int), .int .i64 4, .int .i64 (j : Int)] 60)).heap.size := by simp; omega
      go_wp2_with (at_builtin; refine wpList_append_T (L := moveL) rfl (.tmp 21) (.tmp 26) 50 rfl B 60 _ 16 Try.underlying50 info_move rfl ao (l1 + 2 * j) co _ rfl hO.out (some ⟨wr.heap.size, 0, none⟩) 2 2 [((2 : Int), j), (4, j)] [[.int .i64 2, .int .i64 (j : Int)], [.int .i64 4, .int .i64 (j : Int)]] rfl hV.out hP.out rfl (by unfold maxLen; omega) (by omega) hBa ?_; intro a5 c5 w5 T5; have T6 := Lib.hid (hT.out.trans (T5.after hT.out.now)); rw [hts.out] at T6; clear T5)
      go_roundw
      case rel => exact ⟨j + 1, a5, c5, by omega, by go_num, by rw [show l1 + 2 * (j + 1) = l1 + 2 * j + 2 by omega], T6⟩
      case measure => (simp [intOf]; try omega)
    · obtain rfl : j = 60 := by omega
      obtain ⟨ms, hms⟩ : ∃ ms, Hid (hd ++ tailN 60 = ms) := ⟨_, rfl⟩
      rw [hms.out] at hT hAll
      obtain ⟨L, hL⟩ : ∃ L, Hid (l1 + 2 * 60 = L) := ⟨_, rfl⟩
      rw [hL.out] at hT ⊢
      have hLb : L ≤ 180 := by have := hL.out; omega
      have hmL : Hid (ms.length = L) := hT.out.now.1
      clear hl1b hhl hj hlt hM
      have hS := Lib.hid (snappedW (fun _ => True) ao L co ms wr (SOwn.sRow hT.out.now) hAll.out.ok (by omega))
      obtain ⟨W, hW⟩ : ∃ W, Hid (W = wr) := ⟨wr, rfl⟩
      go_wp2_with fail
      refine hS.out.mono ?_
      rintro e w3 ⟨a3, c3, rfl, hr3, hb3⟩
      have hm3 := Lib.hid (SRow.below (SOwn.sRow hT.out.now : SRow moveL wr (fun _ => True) ao L co ms) hb3)
      have hB3 := Lib.hid (hT.out.nilBelow.trans (hb3.mono hT.out.nilBelow.size))
      clear hb3 hS
      go_wp2_with (refine wpList_make_zeros rfl _ _ 40 rfl 3 _ 8 Try.underlying40 info_int rfl _ _ _ _ 60 rfl rfl rfl rfl (by omega) (by unfold maxLen; omega) ?_; intro w4 hO4 hb4; have S4 := Lib.hid (startC hO4 hb4); clear hO4 hb4)
      obtain ⟨gc, hgc⟩ : ∃ gc, Hid (w3.heap.size = gc) := ⟨_, rfl⟩
      rw [hgc.out] at S4 ⊢
      go_loopw [7, 9] (fun bv iv wx => ∃ i : Nat, i ≤ L ∧ iv = .int .i64 i ∧ bv = .int .i64 ((kp0.fin (ms.take i)).blocks.length : Nat) ∧ Hid (Apt [thSince w3, thBox gc (cntA fun b => (kp0.backs (ms.take i)).count (b : Int)) 3] wx)) (fun _ iv _ => L - (intOf iv).toNat)
      case atStart => exact ⟨0, by omega, rfl, rfl, S4.out⟩
      case round =>
        obtain ⟨i, hi, rfl, rfl, hS⟩ := hrel
        have HBi : Hid (Below w3.heap.size w3 wr) := hS.out.head
        by_cases hlt : i < L
        · have il : (i : Int) < L := by omega
          obtain ⟨mb, mo, m, hao, hmb, hmi, c0, c1⟩ := moveAt (hm3.out.below HBi.out) i hlt
          subst hao
          have hx := outs_get ms kp0 i m hmi
          obtain ⟨s, hs⟩ : ∃ s, Hid (kp0.fin (ms.take i) = s) := ⟨_, rfl⟩
          have hbir := hAll.out.births i m hmi
          have hwit := Lib.hid (hAll.out.within i m hmi)
          have hfew := hAll.out.few i (by have := hmL.out; omega)
          have hfew1 := hAll.out.few (i + 1) (by have := hmL.out; omega)
          have honce := Lib.hid (fun b => hAll.out.once (i + 1) (by have := hmL.out; omega) b)
          have hback : Hid (kp0.backs (ms.take (i + 1)) = kp0.backs (ms.take i) ++ (s.step m).2.2) := by
            have h := List.getElem?_eq_some_iff.1 hmi
            show _ = _
            rw [List.take_succ_eq_append_getElem h.1, h.2, backs_snoc, hs.out]
          rw [hs.out] at hx hbir hwit hfew
          obtain ⟨x, hxx⟩ : ∃ x, Hid ((s.step m).2 = x) := ⟨_, rfl⟩
          rw [hxx.out] at hx hbir hwit hback
          obtain ⟨b1, hb1⟩ : ∃ b1, Hid ((kp0.fin (ms.take (i + 1))).blocks.length = b1) := ⟨_, rfl⟩
          rw [hb1.out] at hbir hfew1
          obtain ⟨b0, hb0⟩ : ∃ b0, Hid (s.blocks.length = b0) := ⟨_, rfl⟩
          rw [hb0.out] at hbir hfew
          have HX := Lib.hid hx
          obtain ⟨gb, go_, ag, ng, cg, hga, hgb, d0, d1, dr⟩ := goneAt (hr3.out.below HBi.out) i hlt x hx
          subst hga
          have e0 : ((kp0.fin (ms.take i)).blocks.length : Int) = (b0 : Int) := by rw [hs.out, hb0.out]
          rw [e0]
          have hngx : x.2.length = ng := dr.1
          have hxl : ng ≤ 100000 := by
            have h1 := cnt_len 60 x.2 (fun b hb => hwit.out b hb) (fun b => by have := honce.out b; rw [hback.out, List.count_append] at this; omega)
            omega
          have HNG := Lib.hid hngx
          have HBIR := Lib.hid hbir
          clear hx hmi hbir e0 hngx
          have hgb3 : gb < w3.heap.size := by
            obtain ⟨b', o', vs', e', _, hb', _⟩ := hr3.out.get i hlt
            obtain ⟨rfl, _⟩ : gb = b' ∧ go_ = o' := by simpa using e'
            exact hb'
          have D1 : Hid (w3.cell? ⟨gb, go_ + i * 2 + 1, none⟩ = some (.slice ag ng cg)) := (HBi.out.cell (p := ⟨gb, go_ + i * 2 + 1, none⟩) hgb3).symm.trans d1
          by_cases hk : m.1 = 1
          · have hc : x.1 = 0 := by
              rw [← hxx.out]
              obtain ⟨m1, m2⟩ := m
              simp only at hk
              subst hk; rfl
            rw [hk] at c0
            rw [hc] at d0
            have wb : IntKind.i64.wrap ((b0 : Int) + 1) = (b1 : Int) := by
              have := HBIR.out
              rw [if_pos ⟨hk, hc⟩] at this
              rw [IntWalk.i64_in _ (by omega)]; omega
            have hb01 : Hid (b1 = b0 + 1) := by have := HBIR.out; rw [if_pos ⟨hk, hc⟩] at this; exact this
            clear HBIR hT1
            go_wp2_with fail
            clear wb
            go_loopw [10] (fun kv wx => ∃ k : Nat, k ≤ ng ∧ kv = .int .i64 k ∧ Hid (Apt [thSince w3, thBox gc (cntA fun b => (kp0.backs (ms.take i)).count (b : Int) + (x.2.take k).count (b : Int)) 3] wx)) (fun kv _ => ng - (intOf kv).toNat)
            case atStart => exact ⟨0, by omega, rfl, by show Apt _ _; simp only [List.take_zero, List.count_nil, Nat.add_zero]; exact hS.out⟩
            case round =>
              obtain ⟨k, hk, rfl, hSk⟩ := hrel
              have HBk : Hid (Below w3.heap.size w3 wr) := hSk.out.head
              obtain ⟨gb', go', ag', ng', cg', hga', hgb', d0', d1', dr'⟩ := goneAt (hr3.out.below HBk.out) i hlt x HX.out
              obtain ⟨rfl, rfl⟩ : gb = gb' ∧ go_ = go' := by simpa using hga'
              obtain ⟨rfl, rfl, rfl⟩ : ag = ag' ∧ ng = ng' ∧ cg = cg' := by
                have h1 := d1'
                have h2 := (HBk.out.cell (p := ⟨gb, go_ + i * 2 + 1, none⟩) hgb3).trans D1.out
                rw [h1] at h2
                simp at h2
                exact ⟨h2.1.symm, h2.2.1.symm, h2.2.2.symm⟩
              have DR := Lib.hid dr'
              clear hga' dr' d0'
              by_cases hlk : k < ng
              · have kl : (k : Int) < ng := by omega
                obtain ⟨bb, bo, v, hag, hbb, hxk, cv⟩ := intRow_at DR.out k hlk
                subst hag
                obtain ⟨v0, v1⟩ := hwit.out v (List.mem_of_getElem? hxk)
                obtain ⟨vn, rfl⟩ := Int.eq_ofNat_of_zero_le v0
                have vl : vn < 60 := by omega
                have vi : (vn : Int) < 60 := v1
                have hcs : Hid (∀ b : Int, (x.2.take (k + 1)).count b = (x.2.take k).count b + if b = vn then 1 else 0) := by
                  intro b
                  have h := List.getElem?_eq_some_iff.1 hxk
                  rw [List.take_succ_eq_append_getElem h.1, h.2, List.count_append, List.count_singleton]
                  by_cases hb : b = vn
                  · subst hb; simp
                  · rw [if_neg hb, if_neg (by simp; exact fun e => hb e.symm)]
                obtain ⟨fv, hfv⟩ : ∃ fv, Hid ((kp0.backs (ms.take i)).count (vn : Int) + (x.2.take k).count (vn : Int) = fv) := ⟨_, rfl⟩
                have fvb : fv ≤ 300000 := by
                  have h1 := honce.out vn
                  rw [hback.out, List.count_append] at h1
                  have h2 := List.count_le_length (a := (vn : Int)) (l := x.2.take k)
                  have h3 := List.length_take_le k x.2
                  have := hfv.out
                  omega
                have BC := Lib.hid (show Box wr gc (cntA fun b => (kp0.backs (ms.take i)).count (b : Int) + (x.2.take k).count (b : Int)) 3 from hSk.out.all 1 _ rfl)
                have cc : wr.cell? ⟨gc, vn, none⟩ = some (.int .i64 (fv : Int)) := by rw [BC.out.cell vn, cntA_get _ vn vl]; have := hfv.out; simp only [this]
                have cf : wr.frozen? ⟨gc, vn, none⟩ = false := BC.out.free vn
                have hgcl : gc < wr.heap.size := BC.out.lt
                have wf1 : IntKind.i64.wrap ((fv : Int) + 1) = (fv : Int) + 1 := IntWalk.i64_in _ (by omega)
                have SN := Lib.hid (hSk.out.set (i := 1) rfl (Turns.box BC.out vn (.int .i64 ((fv + 1 : Nat) : Int))))
                have hfun : Hid ((cntA fun b => (kp0.backs (ms.take i)).count (b : Int) + (x.2.take k).count (b : Int)).setIfInBounds vn (.int .i64 ((fv + 1 : Nat) : Int)) = cntA fun b => (kp0.backs (ms.take i)).count (b : Int) + (x.2.take (k + 1)).count (b : Int)) := by
                  show _ = _
                  rw [cntA_set _ vn _ vl]
                  congr 1
                  funext b
                  simp only [hcs.out]
                  by_cases hb : b = vn
                  · subst hb; have := hfv.out; simp; omega
                  · have hb' : ¬ (b : Int) = (vn : Int) := by omega
                    rw [if_neg hb, if_neg hb', Nat.add_zero]
                clear hxk v0 v1
                go_wp2_with fail
                go_roundw
                case rel => exact ⟨k + 1, by omega, by go_num, by show Apt _ _; rw [← hfun.out]; have h := SN.out; push_cast at h; exact h⟩
                case measure => (simp [intOf]; try omega)
              · obtain rfl : k = ng := by omega
                have hfun : Hid ((fun b : Nat => (kp0.backs (ms.take i)).count (b : Int) + (x.2.take k).count (b : Int)) = fun b : Nat => (kp0.backs (ms.take (i + 1))).count (b : Int)) := by
                  show _ = _
                  funext b
                  rw [hback.out, List.count_append, List.take_of_length_le (l := x.2) (by have := HNG.out; omega)]
                rw [hfun.out] at hSk
                go_wp2_with fail
                go_roundw
                case rel => exact ⟨i + 1, by omega, by go_num, by rw [hb1.out], hSk⟩
                case measure => (simp [intOf]; try omega)
          · have hq : (m.1 == 1) = false := by simp [hk]
            obtain rfl : b0 = b1 := by have := HBIR.out; rw [if_neg (fun e => hk e.1)] at this; omega
            clear HBIR hT1
            go_wp2_with fail
            go_loopw [10] (fun kv wx => ∃ k : Nat, k ≤ ng ∧ kv = .int .i64 k ∧ Hid (Apt [thSince w3, thBox gc (cntA fun b => (kp0.backs (ms.take i)).count (b : Int) + (x.2.take k).count (b : Int)) 3] wx)) (fun kv _ => ng - (intOf kv).toNat)
            case atStart => exact ⟨0, by omega, rfl, by show Apt _ _; simp only [List.take_zero, List.count_nil, Nat.add_zero]; exact hS.out⟩
            case round =>
              obtain ⟨k, hk, rfl, hSk⟩ := hrel
              have HBk : Hid (Below w3.heap.size w3 wr) := hSk.out.head
              obtain ⟨gb', go', ag', ng', cg', hga', hgb', d0', d1', dr'⟩ := goneAt (hr3.out.below HBk.out) i hlt x HX.out
              obtain ⟨rfl, rfl⟩ : gb = gb' ∧ go_ = go' := by simpa using hga'
              obtain ⟨rfl, rfl, rfl⟩ : ag = ag' ∧ ng = ng' ∧ cg = cg' := by
                have h1 := d1'
                have h2 := (HBk.out.cell (p := ⟨gb, go_ + i * 2 + 1, none⟩) hgb3).trans D1.out
                rw [h1] at h2
                simp at h2
                exact ⟨h2.1.symm, h2.2.1.symm, h2.2.2.symm⟩
              have DR := Lib.hid dr'
              clear hga' dr' d0'
              by_cases hlk : k < ng
              · have kl : (k : Int) < ng := by omega
                obtain ⟨bb, bo, v, hag, hbb, hxk, cv⟩ := intRow_at DR.out k hlk
                subst hag
                obtain ⟨v0, v1⟩ := hwit.out v (List.mem_of_getElem? hxk)
                obtain ⟨vn, rfl⟩ := Int.eq_ofNat_of_zero_le v0
                have vl : vn < 60 := by omega
                have vi : (vn : Int) < 60 := v1
                have hcs : Hid (∀ b : Int, (x.2.take (k + 1)).count b = (x.2.take k).count b + if b = vn then 1 else 0) := by
                  intro b
                  have h := List.getElem?_eq_some_iff.1 hxk
                  rw [List.take_succ_eq_append_getElem h.1, h.2, List.count_append, List.count_singleton]
                  by_cases hb : b = vn
                  · subst hb; simp
                  · rw [if_neg hb, if_neg (by simp; exact fun e => hb e.symm)]
                obtain ⟨fv, hfv⟩ : ∃ fv, Hid ((kp0.backs (ms.take i)).count (vn : Int) + (x.2.take k).count (vn : Int) = fv) := ⟨_, rfl⟩
                have fvb : fv ≤ 300000 := by
                  have h1 := honce.out vn
                  rw [hback.out, List.count_append] at h1
                  have h2 := List.count_le_length (a := (vn : Int)) (l := x.2.take k)
                  have h3 := List.length_take_le k x.2
                  have := hfv.out
                  omega
                have BC := Lib.hid (show Box wr gc (cntA fun b => (kp0.backs (ms.take i)).count (b : Int) + (x.2.take k).count (b : Int)) 3 from hSk.out.all 1 _ rfl)
                have cc : wr.cell? ⟨gc, vn, none⟩ = some (.int .i64 (fv : Int)) := by rw [BC.out.cell vn, cntA_get _ vn vl]; have := hfv.out; simp only [this]
                have cf : wr.frozen? ⟨gc, vn, none⟩ = false := BC.out.free vn
                have hgcl : gc < wr.heap.size := BC.out.lt
                have wf1 : IntKind.i64.wrap ((fv : Int) + 1) = (fv : Int) + 1 := IntWalk.i64_in _ (by omega)
                have SN := Lib.hid (hSk.out.set (i := 1) rfl (Turns.box BC.out vn (.int .i64 ((fv + 1 : Nat) : Int))))
                have hfun : Hid ((cntA fun b => (kp0.backs (ms.take i)).count (b : Int) + (x.2.take k).count (b : Int)).setIfInBounds vn (.int .i64 ((fv + 1 : Nat) : Int)) = cntA fun b => (kp0.backs (ms.take i)).count (b : Int) + (x.2.take (k + 1)).count (b : Int)) := by
                  show _ = _
                  rw [cntA_set _ vn _ vl]
                  congr 1
                  funext b
                  simp only [hcs.out]
                  by_cases hb : b = vn
                  · subst hb; have := hfv.out; simp; omega
                  · have hb' : ¬ (b : Int) = (vn : Int) := by omega
                    rw [if_neg hb, if_neg hb', Nat.add_zero]
                clear hxk v0 v1
                go_wp2_with fail
                go_roundw
                case rel => exact ⟨k + 1, by omega, by go_num, by show Apt _ _; rw [← hfun.out]; have h := SN.out; push_cast at h; exact h⟩
                case measure => (simp [intOf]; try omega)
              · obtain rfl : k = ng := by omega
                have hfun : Hid ((fun b : Nat => (kp0.backs (ms.take i)).count (b : Int) + (x.2.take k).count (b : Int)) = fun b : Nat => (kp0.backs (ms.take (i + 1))).count (b : Int)) := by
                  show _ = _
                  funext b
                  rw [hback.out, List.count_append, List.take_of_length_le (l := x.2) (by have := HNG.out; omega)]
                rw [hfun.out] at hSk
                go_wp2_with fail
                go_roundw
                case rel => exact ⟨i + 1, by omega, by go_num, by rw [hb1.out], hSk⟩
                case measure => (simp [intOf]; try omega)
        · obtain rfl : i = L := by omega
          have eT : ms.take i = ms := List.take_of_length_le (by have := hmL.out; omega)
          rw [eT] at hS ⊢
          obtain ⟨bl, hbl⟩ : ∃ bl, Hid ((kp0.fin ms).blocks.length = bl) := ⟨_, rfl⟩
          have hlast : Hid (∀ b : Nat, b < 60 → (kp0.backs ms).count (b : Int) = if b < bl then 1 else 0) := by have h := hAll.out.last; rw [hbl.out] at h; exact h
          rw [hbl.out]
          have BC := Lib.hid (show Box wr gc (cntA fun b => (kp0.backs ms).count (b : Int)) 3 from hS.out.all 1 _ rfl)
          have HBW := Lib.hid (hB3.out.trans (HBi.out.mono hB3.out.size))
          clear hlt hT hT1 S4 hi
          go_wp2_with fail
          go_loop [12] (fun bv => ∃ b : Nat, b ≤ 60 ∧ bv = .int .i64 b) (fun bv => 60 - (intOf bv).toNat)
          case atStart => exact ⟨0, by omega, rfl⟩
          case round =>
            obtain ⟨b, hb, rfl⟩ := hrel
            by_cases hb6 : b < 60
            · have cc := BC.out.cell b
              rw [cntA_get _ b hb6, hlast.out b hb6] at cc
              have bi : (b : Int) < 60 := by omega
              by_cases hq : b < bl
              · rw [if_pos hq] at cc
                have cc' : wr.cell? ⟨gc, b, none⟩ = some (.int .i64 1) := cc
                have q1 : decide ((b : Int) < (bl : Int)) = true := by simp; omega
                have q2 : decide ((bl : Int) ≤ (b : Int)) = false := by simp; omega
                clear cc
                go_wp2_with fail
                go_round
                case rel => exact ⟨b + 1, by omega, by go_num⟩
                case measure => (simp [intOf]; try omega)
              · rw [if_neg hq] at cc
                have cc' : wr.cell? ⟨gc, b, none⟩ = some (.int .i64 0) := cc
                have q1 : decide ((b : Int) < (bl : Int)) = false := by simp; omega
                have q2 : decide ((bl : Int) ≤ (b : Int)) = true := by simp; omega
                clear cc
                go_wp2_with fail
                go_round
                case rel => exact ⟨b + 1, by omega, by go_num⟩
                case measure => (simp [intOf]; try omega)
            · obtain rfl : b = 60 := by omega
              have hR1 : Hid (SRow moveL (wr.alloc (.cells #[.int .i64 1, .int .i64 0] 60)) (fun _ => True) (some ⟨wr.heap.size, 0, none⟩) 1 1 [((1 : Int), 0)]) :=
                ⟨rfl, fun _ _ _ => trivial, [[.int .i64 1, .int .i64 0]], VRow.single (L := moveL) (w0 := wr) (F := fun _ => True) (x := ((1 : Int), 0)) rfl 60 #[.int .i64 1, .int .i64 0] rfl rfl, flatMk _ _ [((1 : Int), 0)]⟩
              have hS1 := Lib.hid (snappedW (fun _ => True) (some ⟨wr.heap.size, 0, none⟩) 1 1 [((1 : Int), 0)] _ hR1.out (fun m hm => by rw [List.mem_singleton.1 hm]; exact ⟨by decide, by decide, by decide⟩) (by omega))
              have HBa := Lib.hid (HBW.out.trans ((Below_alloc1 (.cells #[.int .i64 1, .int .i64 0] 60)).mono HBW.out.size))
              go_wp2_with fail
              refine hS1.out.mono ?_
              rintro e w6 ⟨a6, c6, rfl, hr6, hb6'⟩
              obtain ⟨g6, o6, ag6, ng6, cg6, rfl, hg6, d6, _, _⟩ := goneAt hr6.out 0 (by omega) (0, []) rfl
              simp only [Nat.zero_mul, Nat.add_zero] at d6
              have HB6 := Lib.hid (HBa.out.trans (hb6'.mono HBa.out.size))
              clear hb6'
              go_wp2_with fail
              go_ret
              exact ⟨rfl, HB6.out⟩
end Go.Proofs.Ythjjfmnipemakaa
