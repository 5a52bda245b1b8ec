/- The walks of package span's edges, told; the closures of swept, Add, Cut, Both, Has. -/
import Derived.Test.YtddjkcogfpihpaaSnB
import Derived.Test.YtddjkcogfpihpaaFacts
import Derived.Test.YtddjkcogfpihpaaOwnStep
namespace Go.Proofs.Ytddjkcogfpihpaa
open Go.RowKit Go.Sort
set_option linter.unusedVariables false
set_option maxRecDepth 100000

theorem info_edge : (Try.prog.info? 52).map (fun i => (i.zero, i.size, i.bytes)) = some (some (.agg #[.int .i64 0, .int .i64 0]), 2, 16) := by kernel_rfl
theorem info_range : (Try.prog.info? 30).map (fun i => (i.zero, i.size, i.bytes)) = some (some (.agg #[.int .i64 0, .int .i64 0]), 2, 16) := by kernel_rfl
theorem vrow_two {w w0 : World} (v1 v2 v3 v4 : Value) (e : TypeId) (hw : w = w0.alloc (.cells #[v1, v2, v3, v4] e)) : VRow w 2 (some ⟨w0.heap.size, 0, none⟩) 2 2 ([[v1, v2], [v3, v4]] : List (List Value)).flatten := by
  refine ⟨rfl, Nat.le_refl _, by unfold maxLen; omega, (fun h => by cases h), .inr ⟨w0.heap.size, 0, rfl, fun i hi => ?_⟩⟩
  subst hw
  rw [Nat.zero_add, cell_of_row _ _ i #[v1, v2, v3, v4] e (0, 0) (heap_alloc_new w0 _)]
  simp
def Edges (E : List Rg) (n : Nat) (w : World) (e : Ending) (w' : World) : Prop := ∃ a c, e = .returned (.slice a n c) ∧ Hid (SOwn rgL w' w.heap.size 52 (fun _ => False) a n c E) ∧ Hid (Below w.heap.size w w')
set_option maxHeartbeats 2000000 in
theorem edgesW (F : Nat → Prop) (a : Option Addr) (len cap : Nat) (l : List Rg) (b : Int) (w : World) (ha : SRow rgL w F a len cap l) (hl : len ≤ 200) (hb : b = 1 ∨ b = -1) :
    Calls Try.prog 21 #[.slice a len cap, .int .i64 b] w (Edges (edgesN l b) (2 * len) w) := by
  have hle := ha.hle
  have hmx := ha.hmax
  unfold maxLen at hmx
  have hdl := Lib.hid ha.1
  have hnb : IntKind.i64.wrap (-b) = -b := by rcases hb with rfl | rfl <;> decide
  obtain ⟨B, hB⟩ : ∃ B, Hid (w.heap.size = B) := ⟨_, rfl⟩
  go_enter Try.func21, Try.ntmps21
  go_wp2_with fail
  go_loopw [5, 10] (fun ov iv wr => ∃ (k : Nat) (ao : Option Addr) (co : Nat), k ≤ len ∧ iv = .int .i64 k ∧ ov = .slice ao (2 * k) co ∧ Hid (SOwn rgL wr B 52 (fun _ => False) ao (2 * k) co (edgesN (l.take k) b)) ∧ Hid (Below B w wr)) (fun _ iv _ => len - (intOf iv).toNat)
  case atStart => exact ⟨0, none, 0, by omega, rfl, rfl, SOwn.nil .., Below.refl _ _⟩
  case round =>
    obtain ⟨k, ao, co, hk, rfl, rfl, hO, hL⟩ := hrel
    have hBr : B ≤ wr.heap.size := by have := hL.out.size; have := hB.out; omega
    by_cases hlt : k < len
    · have hkd : k < l.length := by have := hdl.out; omega
      obtain ⟨bb, off, vs, rfl, _, hbw, hat, hcell⟩ := ha.get k hlt
      have hvs := hat l[k] (List.getElem?_eq_getElem hkd)
      have hn : Hid (edgesN (l.take (k + 1)) b = edgesN (l.take k) b ++ [(l[k].1, b), (l[k].2, -b)]) := by
        show _ = _
        rw [List.take_succ_eq_append_getElem hkd, edgesN_snoc]
      obtain ⟨⟨f, t⟩, hr⟩ : ∃ r : Rg, Hid (l[k] = r) := ⟨l[k], rfl⟩
      rw [hr.out] at hvs hn
      have hvs' : vs = [.int .i64 f, .int .i64 t] := hvs
      subst hvs'
      have hLw : Below w.heap.size w wr := by rw [hB.out]; exact hL.out
      have e0 : wr.cell? ⟨bb, off + k * 2, none⟩ = some (.int .i64 f) := (hLw.cell (p := ⟨bb, off + k * 2, none⟩) hbw).trans (hcell 0 (by decide))
      have e1 : wr.cell? ⟨bb, off + k * 2 + 1, none⟩ = some (.int .i64 t) := (hLw.cell (p := ⟨bb, off + k * 2 + 1, none⟩) hbw).trans (hcell 1 (by decide))
      have O1 := Lib.hid ((hO.out.alloc (.cells #[.int .i64 f, .int .i64 t] 30)).alloc (.cells #[.int .i64 f, .int .i64 b, .int .i64 t, .int .i64 (-b)] 52))
      have L0 : Below wr.heap.size wr (wr.alloc (.cells #[.int .i64 f, .int .i64 t] 30)) := Below_alloc1 _
      have L1 := Lib.hid (hL.out.trans ((L0.trans ((Below_alloc1 (.cells #[.int .i64 f, .int .i64 b, .int .i64 t, .int .i64 (-b)] 52)).mono L0.size)).mono hBr))
      have HV : Hid (VRow ((wr.alloc (.cells #[.int .i64 f, .int .i64 t] 30)).alloc (.cells #[.int .i64 f, .int .i64 b, .int .i64 t, .int .i64 (-b)] 52)) 2 (some ⟨wr.heap.size + 1, 0, none⟩) 2 2 ([[.int .i64 f, .int .i64 b], [.int .i64 t, .int .i64 (-b)]] : List (List Value)).flatten) := by
        have := vrow_two (w0 := wr.alloc (.cells #[.int .i64 f, .int .i64 t] 30)) (.int .i64 f) (.int .i64 b) (.int .i64 t) (.int .i64 (-b)) 52 rfl
        rwa [show (wr.alloc (.cells #[.int .i64 f, .int .i64 t] 30)).heap.size = wr.heap.size + 1 by simp] at this
      have HP : Hid (Pt rgL ((wr.alloc (.cells #[.int .i64 f, .int .i64 t] 30)).alloc (.cells #[.int .i64 f, .int .i64 b, .int .i64 t, .int .i64 (-b)] 52)) (fun _ => False) [(f, b), (t, -b)] [[.int .i64 f, .int .i64 b], [.int .i64 t, .int .i64 (-b)]]) := (Pt.single (L := rgL) (x := (f, b)) rfl).append (Pt.single (L := rgL) (x := (t, -b)) rfl)
      have hs2 : B ≤ ((wr.alloc (.cells #[.int .i64 f, .int .i64 t] 30)).alloc (.cells #[.int .i64 f, .int .i64 b, .int .i64 t, .int .i64 (-b)] 52)).heap.size := by simp; omega
      clear hat hcell hvs hO hLw
      go_wp2_with (at_builtin; refine wpList_append_data (L := rgL) rfl (.tmp 14) (.tmp 24) 46 rfl B 52 _ 16 Try.underlying46 info_edge rfl (fun _ => False) ao (2 * k) co _ rfl O1.out (some ⟨wr.heap.size + 1, 0, none⟩) 2 2 [(f, b), (t, -b)] [[.int .i64 f, .int .i64 b], [.int .i64 t, .int .i64 (-b)]] (by simp [Act.eval]) HV.out (fun _ => False) HP.out rfl (fun b h => h.elim) (by unfold maxLen; omega) (by omega) hs2 ?_)
      intro a5 c5 w5 hown5 hg5
      have L5 := Lib.hid (O1.out.grown L1.out (Nat.le_refl _) hs2 hg5)
      rw [← hn.out] at hown5
      have O5 := Lib.hid hown5
      clear hown5 hg5 O1 L1 HV HP
      go_wp2_with fail
      go_roundw
      case rel => exact ⟨k + 1, a5, c5, by omega, by go_num, rfl, O5, L5⟩
      case measure => simp [intOf]; omega
    · obtain rfl : k = len := by omega
      have hfin : l.take k = l := List.take_of_length_le (by have := hdl.out; omega)
      rw [hfin] at hO
      go_wp2_with fail
      go_ret
      exact ⟨_, _, rfl, by show SOwn _ _ _ _ _ _ _ _ _; rw [hB.out]; exact hO.out, by show Below _ _ _; rw [hB.out]; exact hL.out⟩
end Go.Proofs.Ytddjkcogfpihpaa
