/- The forest between steps; add, walked. -/
import Derived.Test.YthjjfmnipemakaaTrN
import Derived.Test.YthjjfmnipemakaaThB
import Derived.StillTailTactics
import Derived.Deep.CutBlock
namespace Go.Proofs.Ythjjfmnipemakaa
open Go.RowKit
set_option linter.unusedVariables false
set_option maxRecDepth 100000

def verL : Lay (Option PRt × Nat) := Lay.flat 2 (by decide) (fun x => [rptr x.1, .int .i64 (x.2 : Int)]) (fun _ => rfl) (fun x v hv => by
  rcases List.mem_cons.1 hv with rfl | hv
  · rfl
  · obtain rfl := List.mem_singleton.1 hv; rfl)
def shownC (code version size : Int) (a : Option Addr) (n c : Nat) : Array Value := #[.int .i64 code, .int .i64 version, .int .i64 size, .slice a n c]
theorem info_version : (Try.prog.info? 78).map (fun i => (i.zero, i.size, i.bytes)) = some (some (.agg #[.pointer none, .int .i64 0]), 2, 16) := by kernel_rfl
set_option maxHeartbeats 8000000 in
theorem addW (B k : Nat) (av : Option Addr) (nv cv made : Nat) (vs : List (Option PRt × Nat)) (x : Option PRt × Nat) (w : World)
    (h : (thAll [thBox k (forV av nv cv made) 74, thOwn verL B 78 av nv cv vs]).holds w) (hB : B ≤ w.heap.size) (hn : nv ≤ 1000) (hs : x.2 ≤ 100000) :
    Calls Try.prog 30 #[.pointer (some ⟨k, 0, none⟩), .agg #[rptr x.1, .int .i64 (x.2 : Nat)]] w fun e w' => ∃ av' cv', e = .returned (.agg (shownC 0 (nv : Int) (x.2 : Nat) none 0 0)) ∧
      Hid (Turns (thAll [thBox k (forV av nv cv made) 74, thOwn verL B 78 av nv cv vs]) (thAll [thBox k (forV av' (nv + 1) cv' made) 74, thOwn verL B 78 av' (nv + 1) cv' (vs ++ [x])]) w w') := by
  obtain ⟨xr, xs⟩ := x
  obtain ⟨p, hp⟩ : ∃ p, Hid (xr.map (fun r => (⟨PT.gOf r.2, 0, none⟩ : Addr)) = p) := ⟨_, rfl⟩
  have ep : rptr xr = .pointer p := by rw [← hp.out]; rfl
  have HP := Lib.hid ep
  rw [ep]
  have hHB := Lib.hid hB
  have T1 := Turns.boxed h #[.pointer p, .int .i64 (xs : Int)] 78
  have T2 := T1.trans (Turns.boxed T1.now (shownC 0 0 0 none 0 0) 68)
  rw [show (w.alloc (.cells #[.pointer p, .int .i64 (xs : Int)] 78)).heap.size = w.heap.size + 1 by simp] at T2
  obtain ⟨b, hb⟩ : ∃ b, Hid (w.heap.size = b) := ⟨_, rfl⟩
  obtain ⟨W, hW⟩ : ∃ W, (w.alloc (.cells #[.pointer p, .int .i64 (xs : Int)] 78)).alloc (.cells #[.int .i64 0, .int .i64 0, .int .i64 0, .slice none 0 0] 68) = W := ⟨_, rfl⟩
  rw [show shownC 0 0 0 none 0 0 = #[.int .i64 0, .int .i64 0, .int .i64 0, .slice none 0 0] from rfl, hW, hb.out] at T2
  have Td := Lib.hid (T2.stays (below_drewN (Below.refl _ _) 1 : Below W.heap.size W W.drew))
  have A1 := Lib.hid (show Apt [thBox b #[.pointer p, .int .i64 (xs : Int)] 78, thAll [thBox k (forV av nv cv made) 74, thOwn verL B 78 av nv cv vs]] W from T2.now.all 1 _ rfl)
  have A2 := Lib.hid (show Apt [thBox k (forV av nv cv made) 74, thOwn verL B 78 av nv cv vs] W from A1.out.all 1 _ rfl)
  have BX := Lib.hid (show Box W b #[.pointer p, .int .i64 (xs : Int)] 78 from A1.out.all 0 _ rfl)
  have BK := Lib.hid (show Box W k (forV av nv cv made) 74 from A2.out.all 0 _ rfl)
  have x0 : W.cell? ⟨b, 0, none⟩ = some (.pointer p) := BX.out.cell 0
  have x1 : W.cell? ⟨b, 1, none⟩ = some (.int .i64 (xs : Int)) := BX.out.cell 1
  have k0 : W.cell? ⟨k, 0, none⟩ = some (.slice av nv cv) := BK.out.cell 0
  have hkW : k < W.heap.size := BK.out.lt
  have hbW : b < W.heap.size := BX.out.lt
  have Od := Lib.hid (show (thOwn verL B 78 av nv cv vs).holds W.drew from Thing.below (A2.out.all 1 _ rfl) (below_drewN (Below.refl _ _) 1 : Below W.heap.size W W.drew))
  have hBW : B ≤ W.drew.heap.size := by have := T2.mv.size; show B ≤ W.heap.size; omega
  clear T1 T2 hB ep
  go_enter Try.func30, Try.ntmps30
  go_wp2_with fail
  have hb1 : w.heap.size = b := hb.out
  simp only [hb1]
  clear hW hb1
  go_region_law (refine step_append_T1 (L := verL) (wr := W.drew) rfl (.tmp 9) (.tmp 11) 72 rfl B 78 _ 16 Try.underlying72 info_version rfl av nv cv vs rfl Od.out #[.pointer p, .int .i64 (xs : Int)] (xr, xs) rfl (by show _ = [rptr xr, _]; rw [HP.out]) (by unfold maxLen; omega) (by omega) hBW ?_; intro a5 c5 w5 T6; have T7 := Lib.hid (Td.out.trans (Turns.inside (i := 1) Td.out.now rfl (Turns.inside (i := 1) (Td.out.now.all 1 _ rfl) rfl (Turns.inside (i := 1) (show Apt [thBox k (forV av nv cv made) 74, thOwn verL B 78 av nv cv vs] _ from (Apt.all (Td.out.now.all 1 _ rfl) 1 _ rfl)) rfl T6)))); have A7 := Lib.hid (show Apt [thBox b #[.pointer p, .int .i64 (xs : Int)] 78, thAll [thBox k (forV av nv cv made) 74, thOwn verL B 78 a5 (nv + 1) c5 (vs ++ [(xr, xs)])]] w5 from T7.out.now.all 1 _ rfl); have B7 := Lib.hid (show Box w5 k (forV av nv cv made) 74 from Apt.all (A7.out.all 1 _ rfl) 0 _ rfl); have c5k : w5.cell? ⟨k, 0, none⟩ = some (.slice av nv cv) := B7.out.cell 0; have f5k : w5.frozen? ⟨k, 0, none⟩ = false := B7.out.free 0; clear T6)
  all_goals
    have T8 := T7.out.trans (Turns.inside (i := 1) T7.out.now rfl (Turns.inside (i := 1) A7.out rfl (Turns.inside (i := 0) (show Apt [thBox k (forV av nv cv made) 74, thOwn verL B 78 a5 (nv + 1) c5 (vs ++ [(xr, xs)])] w5 from A7.out.all 1 _ rfl) rfl (Turns.cell B7.out 0 (.slice a5 (nv + 1) c5)))))
    obtain ⟨W6, hW6⟩ : ∃ V, V = w5.setCell ⟨k, 0, none⟩ (.slice a5 (nv + 1) c5) := ⟨_, rfl⟩
    rw [← hW6] at T8 ⊢
    have T9 : Hid (Turns (thAll [thBox k (forV av nv cv made) 74, thOwn verL B 78 av nv cv vs]) (thAll [thBox (b + 1) #[.int .i64 0, .int .i64 0, .int .i64 0, .slice none 0 0] 68, thAll [thBox b #[.pointer p, .int .i64 (xs : Int)] 78, thAll [thBox k (forV a5 (nv + 1) c5 made) 74, thOwn verL B 78 a5 (nv + 1) c5 (vs ++ [(xr, xs)])]]]) w W6.drew) := T8.stays (below_drewN (Below.refl _ _) 1 : Below W6.heap.size W6 W6.drew)
    have A9 : Apt [thBox b #[.pointer p, .int .i64 (xs : Int)] 78, thAll [thBox k (forV a5 (nv + 1) c5 made) 74, thOwn verL B 78 a5 (nv + 1) c5 (vs ++ [(xr, xs)])]] W6 := T8.now.all 1 _ rfl
    have bx9 : Box W6 b #[.pointer p, .int .i64 (xs : Int)] 78 := A9.all 0 _ rfl
    have bk9 : Box W6 k (forV a5 (nv + 1) c5 made) 74 := Apt.all (A9.all 1 _ rfl) 0 _ rfl
    have y1 : W6.cell? ⟨b, 1, none⟩ = some (.int .i64 (xs : Int)) := bx9.cell 1
    have y0 : W6.cell? ⟨k, 0, none⟩ = some (.slice a5 (nv + 1) c5) := bk9.cell 0
    have hk6 : k < W6.heap.size := bk9.lt
    have hb6 : b < W6.heap.size := bx9.lt
    have wn : IntKind.i64.wrap (nv : Int) = (nv : Int) := IntWalk.i64_in _ (by omega)
    have B9 := Lib.hid (show Box W6.drew (b + 1) #[.int .i64 0, .int .i64 0, .int .i64 0, .slice none 0 0] 68 from T9.out.now.all 0 _ rfl)
    clear hW6 c5k f5k T8 A9 bx9 bk9 A7 B7 T7 x0 x1 k0 hkW hbW
    go_upto_region 2 with fail
    go_still_tail 9, (by kernel_rfl)
    change wpList _ _ _ _ _ W6.drew
    go_wp2_with (refine wpList_store_box rfl 68 (.tmp 4) (.tmp 23) rfl (b + 1) (shownC 0 (nv : Int) (xs : Nat) none 0 0) rfl rfl 68 _ B9.out (by kernel_rfl) rfl rfl ?_; intro w9 hb9 hg9)
    refine bodyPost_ret (results_box0 Try.results30 _ _ (b + 1) _ _ hb9 _ rfl Try.underlying68 rfl (by kernel_rfl)) rfl ⟨a5, c5, rfl, ((Turns.headBox T9.out hb9 hg9).tail.one).tail.one⟩
end Go.Proofs.Ythjjfmnipemakaa
