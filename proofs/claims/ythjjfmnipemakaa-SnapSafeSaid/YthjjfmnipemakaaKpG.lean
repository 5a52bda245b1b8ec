/- The walks of MovesOf and snapped. -/
import Derived.Test.YthjjfmnipemakaaKpF
namespace Go.Proofs.Ythjjfmnipemakaa
open Go.RowKit
set_option linter.unusedVariables false
set_option maxRecDepth 100000

def turnL : Lay (Int × Int) := Lay.flat 2 (by decide) (fun m => [.int .i64 m.1, .int .i64 m.2]) (fun _ => rfl) (fun x v hv => by
  rcases List.mem_cons.1 hv with rfl | hv
  · rfl
  · obtain rfl := List.mem_singleton.1 hv; rfl)
def kindOf (t : Nat) : Int := ([1, 1, 1, 2, 2, 3, 4] : List Int).getD t 0
def mvOf (x : Int × Int) : Int × Nat := (kindOf (x.1 % 7).toNat, (x.2 % 12).toNat)
theorem kindOf_ok : ∀ t : Fin 7, 1 ≤ kindOf t ∧ kindOf t ≤ 4 := by decide
theorem mvOf_ok (x : Int × Int) : MoveOk (mvOf x) := by
  have h1 := Int.emod_nonneg x.1 (b := 7) (by decide)
  have h2 := Int.emod_lt_of_pos x.1 (b := 7) (by decide)
  have h3 := Int.emod_lt_of_pos x.2 (b := 12) (by decide)
  have := kindOf_ok ⟨(x.1 % 7).toNat, by omega⟩
  exact ⟨this.1, this.2, by show (x.2 % 12).toNat ≤ 1000; omega⟩
def kindsV : Array Value := #[.int .i64 1, .int .i64 1, .int .i64 1, .int .i64 2, .int .i64 2, .int .i64 3, .int .i64 4]
theorem kindsV_get (t : Nat) (h : t < 7) : kindsV[t]? = some (.int .i64 (kindOf t)) := by
  match t, h with
  | 0, _ => rfl
  | 1, _ => rfl
  | 2, _ => rfl
  | 3, _ => rfl
  | 4, _ => rfl
  | 5, _ => rfl
  | 6, _ => rfl
theorem info_move : (Try.prog.info? 60).map (fun i => (i.zero, i.size, i.bytes)) = some (some (.agg #[.int .i64 0, .int .i64 0]), 2, 16) := by kernel_rfl
theorem Turns.nilOwn {α : Type} {L : Lay α} {B : Nat} {e : TypeId} {w : World} : Turns (thAll []) (thOwn L B e none 0 0 []) w w :=
  ⟨SOwn.nil .., Mv.refl _ _, fun b hb => by cases (show (none : Option Nat) = some b from hb)⟩
theorem turnAt {w : World} {F : Nat → Prop} {a : Option Addr} {len cap : Nat} {ms : List (Int × Int)} (h : SRow turnL w F a len cap ms) (i : Nat) (hi : i < len) :
    ∃ b off m, a = some ⟨b, off, none⟩ ∧ b < w.heap.size ∧ ms[i]? = some m ∧ w.cell? ⟨b, off + i * 2, none⟩ = some (.int .i64 m.1) ∧ w.cell? ⟨b, off + i * 2 + 1, none⟩ = some (.int .i64 m.2) := by
  obtain ⟨b, off, vs, ha, _, hb, hx, hc⟩ := h.get i hi
  have hm := List.getElem?_eq_getElem (show i < ms.length by rw [h.1]; exact hi)
  have e : vs = [.int .i64 (ms[i]'(by rw [h.1]; exact hi)).1, .int .i64 (ms[i]'(by rw [h.1]; exact hi)).2] := hx _ hm
  subst e
  exact ⟨b, off, _, ha, hb, hm, hc 0 (by decide), hc 1 (by decide)⟩
set_option maxHeartbeats 4000000 in
theorem movesOf (F : Nat → Prop) (a : Option Addr) (len cap : Nat) (xs : List (Int × Int)) (n : Nat) (w : World) (ha : SRow turnL w F a len cap xs) (hn : n ≤ 1000) :
    Calls Try.prog 19 #[.slice a len cap, .int .i64 n] w fun e w' => ∃ a' l' c', e = .returned (.slice a' l' c') ∧ Hid (Turns (thAll []) (thOwn moveL w.heap.size 60 a' l' c' ((xs.take n).map mvOf)) w w') := by
  have HA := Lib.hid ha
  have hle := ha.hle
  have hmx := ha.hmax
  unfold maxLen at hmx
  have hll : Hid (xs.length = len) := ha.1
  clear ha
  have T00 := Turns.boxed (t := thAll []) (w := w) (Apt.nil w) kindsV 3
  have T0 := Lib.hid (T00.next (Turns.nilOwn (L := moveL) (B := w.heap.size) (e := 60)))
  clear T00
  go_enter Try.func19, Try.ntmps19
  go_wp2_with fail
  obtain ⟨B, hB⟩ : ∃ B, Hid (w.heap.size = B) := ⟨_, rfl⟩
  rw [hB.out] at T0 ⊢
  go_loopw [6, 7] (fun ov iv wr => ∃ (i : Nat) (ao : Option Addr) (co : Nat), i ≤ n ∧ i ≤ len ∧ iv = .int .i64 i ∧ ov = .slice ao i co ∧ Hid (Turns (thAll []) (thAll [thBox B kindsV 3, thOwn moveL B 60 ao i co ((xs.take i).map mvOf)]) w wr)) (fun _ iv _ => n - (intOf iv).toNat)
  case atStart => exact ⟨0, none, 0, by omega, by omega, rfl, rfl, T0.out⟩
  case round =>
    obtain ⟨i, ao, co, hi, hi2, rfl, rfl, hT⟩ := hrel
    by_cases hlt : i < len
    · have il : (i : Int) < len := by omega
      by_cases hln : i < n
      · have iln : (i : Int) < n := by omega
        have HBW : Hid (Below w.heap.size w wr) := hT.out.nilBelow
        obtain ⟨b, off, ⟨mk, mw⟩, rfl, hb, hmi, c0, c1⟩ := turnAt (HA.out.below HBW.out) i hlt
        have hnext : Hid ((xs.take (i + 1)).map mvOf = (xs.take i).map mvOf ++ [mvOf (mk, mw)]) := by
          have h := List.getElem?_eq_some_iff.1 hmi
          show _ = _
          rw [List.take_succ_eq_append_getElem h.1, h.2, List.map_append]; rfl
        have BK := Lib.hid (show Box wr B kindsV 3 from Apt.head hT.out.now)
        have hBl : B < wr.heap.size := BK.out.lt
        have Td := Lib.hid (hT.out.stays (below_drewN (Below.refl _ _) 1 : Below wr.heap.size wr wr.drew))
        have Od := Lib.hid (show (thOwn moveL B 60 ao i co ((xs.take i).map mvOf)).holds wr.drew from Td.out.now.all 1 _ rfl)
        have hBd : B ≤ wr.drew.heap.size := by show B ≤ wr.heap.size; omega
        clear hmi
        simp only at c0 c1
        go_upto_block 1 with fail
        go_cut [6] (fun ov wx => ∃ (a5 : Option Addr) (c5 : Nat), ov = .slice a5 (i + 1) c5 ∧ Hid (Turns (thAll []) (thAll [thBox B kindsV 3, thOwn moveL B 60 a5 (i + 1) c5 ((xs.take (i + 1)).map mvOf)]) w wx))
        case first =>
          go_wp2_with fail
          go_region_law (first | (go_simp; go_at_call_of 11 (12 : Int); refine (picked mw 12 _ (by decide) (by decide)).mono ?_; rintro e w' ⟨rw_, hrw, hrw0, hrw1, rfl, rfl⟩; obtain ⟨tw, rfl⟩ := Int.eq_ofNat_of_zero_le hrw0; have HRW := Lib.hid hrw) | (go_simp; go_at_call_of 11 (7 : Int); refine (picked mk 7 _ (by decide) (by decide)).mono ?_; rintro e w' ⟨rk, hrk, hrk0, hrk1, rfl, rfl⟩; obtain ⟨tk, rfl⟩ := Int.eq_ofNat_of_zero_le hrk0; have htk : tk < 7 := (by omega); have ck : wr.cell? ⟨B, tk, none⟩ = some (.int .i64 (kindOf tk)) := (BK.out.cell tk).trans (kindsV_get tk htk); have itk : (tk : Int) < 7 := hrk1; have HRK := Lib.hid hrk) | (refine step_append_T1 (L := moveL) (wr := wr.drew) rfl (.tmp 20) (.tmp 37) 50 rfl B 60 _ 16 Try.underlying50 info_move rfl ao i co _ rfl Od.out #[.int .i64 (kindOf tk), .int .i64 (tw : Int)] (kindOf tk, tw) rfl rfl (by unfold maxLen; omega) (by omega) hBd ?_; intro a5 c5 w5 T6; have T7 := Lib.hid (Td.out.next T6); clear T6))
          all_goals go_wp2_with fail
          all_goals go_meet
          all_goals
            refine ⟨a5, c5, rfl, ?_⟩
            show Turns _ _ _ _
            rw [hnext.out, show mvOf (mk, mw) = (kindOf tk, tw) by unfold mvOf; have h1 := HRK.out.out; have h2 := HRW.out.out; simp only [← h1, ← h2]; simp]
            exact T7.out
        obtain ⟨a5, c5, rfl, hT5⟩ := hcut
        clear Td Od c0 c1
        go_wp2_with fail
        go_roundw
        case rel => exact ⟨i + 1, a5, c5, by omega, by omega, by go_num, rfl, hT5⟩
        case measure => (simp [intOf]; try omega)
      · obtain rfl : i = n := by omega
        go_wp2_with fail
        go_ret
        exact ⟨ao, i, co, rfl, by show Turns _ _ _ _; rw [hB.out]; exact hT.out.tail.one⟩
    · obtain rfl : i = len := by omega
      have e : xs.take n = xs := List.take_of_length_le (by have := hll.out; omega)
      have e2 : xs.take i = xs := List.take_of_length_le (by have := hll.out; omega)
      rw [e2] at hT
      go_wp2_with fail
      go_ret
      exact ⟨ao, i, co, rfl, by show Turns _ _ _ _; rw [hB.out, e]; exact hT.out.tail.one⟩
theorem flatPt {α : Type} {n : Nat} {hn : 0 < n} {f : α → List Value} {hf : ∀ x, (f x).length = n} {h1 : ∀ x, ∀ v ∈ f x, v.oneCell' = true} {w w' : World} {F G : Nat → Prop} {xs : List α} {vss : List (List Value)}
    (h : Pt (Lay.flat n hn f hf h1) w F xs vss) : Pt (Lay.flat n hn f hf h1) w' G xs vss := ⟨h.1, fun i x vs hx hv => h.2 i x vs hx hv⟩
set_option maxHeartbeats 400000 in
theorem snappedW (F : Nat → Prop) (a : Option Addr) (len cap : Nat) (ms : List (Int × Nat)) (w : World) (ha : SRow moveL w F a len cap ms) (hm : ∀ m ∈ ms, MoveOk m) (hn : len ≤ 198) :
    Calls Try.prog 20 #[.slice a len cap] w fun e w' => ∃ a' c', e = .returned (.tuple #[.slice a' len c', .bool true]) ∧ Hid (SRow goneL w' (fun _ => True) a' len c' (kp0.outs ms)) ∧ Below w.heap.size w w' := by
  obtain ⟨uss, hv, hp, hl⟩ := ha.whole
  have HV := Lib.hid hv
  have HP := Lib.hid (show Pt moveL w (fun _ => False) ms uss from flatPt hp)
  have HM := Lib.hid hm
  have HL := Lib.hid hl
  have T0 : Hid (Turns (thAll []) (thOwn moveL w.heap.size 60 none 0 0 []) w w) := Turns.nilOwn
  clear ha hv hp hl hm
  go_enter Try.func20, Try.ntmps20
  go_wp2_with (at_builtin; refine wpList_append_T (L := moveL) rfl (.const (.slice none 0 0)) (.tmp 7) 50 rfl w.heap.size 60 _ 16 Try.underlying50 info_move rfl none 0 0 [] rfl T0.out.now a len cap ms uss rfl HV.out HP.out HL.out (by unfold maxLen; omega) (by omega) (Nat.le_refl _) ?_; intro a2 c2 w2 T2; have T3 := Lib.hid (T0.out.trans T2); rw [Nat.zero_add] at T3; clear T2)
  refine (snapPlay (fun _ => True) a2 len c2 ms w2 (SOwn.sRow T3.out.now) HM.out (by omega)).mono ?_
  rintro e w3 ⟨a3, c3, rfl, hr, hb⟩
  have HB3 := Lib.hid (T3.out.nilBelow.trans (hb.mono T3.out.nilBelow.size))
  clear hb
  go_wp2_with fail
  exact bodyPost_ret (results_tmp2 Try.results20 _ _ _) rfl ⟨a3, c3, rfl, hr, HB3.out⟩
end Go.Proofs.Ythjjfmnipemakaa
