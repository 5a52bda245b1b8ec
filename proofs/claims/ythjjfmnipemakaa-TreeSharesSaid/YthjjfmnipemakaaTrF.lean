/- The walks of room and fresh. -/
import Derived.Test.YthjjfmnipemakaaTrM
import Derived.Deep.RegionLaw
namespace Go.Proofs.Ythjjfmnipemakaa
open Go.RowKit
set_option linter.unusedVariables false
set_option maxRecDepth 100000

theorem roomW (n : Nat) (hn : n ≤ 6) (w : World) : Calls Try.prog 38 #[.int .i64 n] w fun e w' => e = .returned (.int .i64 (room n : Nat)) ∧ w = w' := by
  have h : n = 0 ∨ n = 1 ∨ n = 2 ∨ n = 3 ∨ n = 4 ∨ n = 5 ∨ n = 6 := by omega
  rcases h with rfl | rfl | rfl | rfl | rfl | rfl | rfl
  all_goals
    go_enter Try.func38, Try.ntmps38
    go_wp2_with fail
    go_ret
    exact ⟨rfl, rfl⟩
theorem nodeV_set0 (id birth level : Nat) (ps : List Value) (ds : List Int) (v : Nat) : (nodeV id birth level ps ds).setIfInBounds 0 (.int .i64 (v : Int)) = nodeV v birth level ps ds := by simp [nodeV]
theorem nodeV_set1 (id birth level : Nat) (ps : List Value) (ds : List Int) (v : Nat) : (nodeV id birth level ps ds).setIfInBounds 1 (.int .i64 (v : Int)) = nodeV id v level ps ds := by simp [nodeV]
def nils : List Value := [.pointer none, .pointer none, .pointer none, .pointer none]
def zeros : List Int := List.replicate 64 0
def forV (av : Option Addr) (nv cv made : Nat) : Array Value := #[.slice av nv cv, .int .i64 (made : Int)]
theorem Turns.cell {w : World} {g : Nat} {vs : Array Value} {t : TypeId} (h : (thBox g vs t).holds w) (j : Nat) (v : Value) : Turns (thBox g vs t) (thBox g (vs.setIfInBounds j v) t) w (w.setCell ⟨g, j, none⟩ v) :=
  ⟨Box.set h j v, Mv.setCell v rfl, fun b hb => .inl hb⟩
theorem zero_node (level : Nat) : Try.zeroCells82.setIfInBounds 2 (.int .i64 (level : Int)) = nodeV 0 0 level nils zeros := by rfl
set_option maxHeartbeats 4000000 in
/-- fresh, like none. -/
theorem freshN (k : Nat) (av : Option Addr) (nv cv made level : Nat) (w : World) (hk : Box w k (forV av nv cv made) 74) (hm : made ≤ 1000000) (hl : level ≤ 10) :
    Calls Try.prog 39 #[.pointer (some ⟨k, 0, none⟩), .pointer none, .int .i64 level] w fun e w' =>
      e = .returned (.pointer (some ⟨w.heap.size, 0, none⟩)) ∧ Turns (thBox k (forV av nv cv made) 74) (thAll [thBox w.heap.size (nodeV (made + 1) nv level nils zeros) 82, thBox k (forV av nv cv (made + 1)) 74]) w w' := by
  have k1 : w.cell? ⟨k, 1, none⟩ = some (.int .i64 made) := hk.cell 1
  have kf : w.frozen? ⟨k, 1, none⟩ = false := hk.free 1
  have hkl : k < w.heap.size := hk.lt
  have wm : IntKind.i64.wrap ((made : Int) + 1) = (made : Int) + 1 := IntWalk.i64_in _ (by omega)
  have P1 : Turns (thBox k (forV av nv cv made) 74) (thBox k (forV av nv cv (made + 1)) 74) w (w.setCell ⟨k, 1, none⟩ (.int .i64 ((made : Int) + 1))) := Turns.cell hk 1 _
  have T1 := Lib.hid (P1.trans (Turns.boxed P1.now (nodeV 0 0 level nils zeros) 82))
  rw [show (w.setCell ⟨k, 1, none⟩ (.int .i64 ((made : Int) + 1))).heap.size = w.heap.size by simp [World.setCell]] at T1
  clear P1
  go_enter Try.func39, Try.ntmps39
  go_wp2_with fail
  rw [zero_node]
  obtain ⟨V, hV⟩ : ∃ V, V = (w.setCell ⟨k, 1, none⟩ (.int .i64 ((made : Int) + 1))).alloc (.cells (nodeV 0 0 level nils zeros) 82) := ⟨_, rfl⟩
  obtain ⟨g, hg⟩ : ∃ g, Hid (w.heap.size = g) := ⟨_, rfl⟩
  rw [← hV, hg.out] at T1
  rw [← hV, hg.out]
  have BN := Lib.hid (show Box V g (nodeV 0 0 level nils zeros) 82 from Apt.head T1.out.now)
  have BF := Lib.hid (show Box V k (forV av nv cv (made + 1)) 74 from Apt.all T1.out.now 1 _ rfl)
  have q0 : V.cell? ⟨k, 0, none⟩ = some (.slice av nv cv) := BF.out.cell 0
  have q1 : V.cell? ⟨k, 1, none⟩ = some (.int .i64 ((made : Int) + 1)) := BF.out.cell 1
  have n0 : V.cell? ⟨g, 0, none⟩ = some (.int .i64 0) := BN.out.cell 0
  have n1 : V.cell? ⟨g, 1, none⟩ = some (.int .i64 0) := BN.out.cell 1
  have f0 : V.frozen? ⟨g, 0, none⟩ = false := BN.out.free 0
  have f1 : V.frozen? ⟨g, 1, none⟩ = false := BN.out.free 1
  have hgV : g < V.heap.size := BN.out.lt
  have hkV : k < V.heap.size := BF.out.lt
  have hgk : g ≠ k := by have := hg.out; omega
  have hkg : k ≠ g := fun e => hgk e.symm
  clear hV k1 kf hkl
  go_region
  have T2 := T1.out.trans (Turns.inside (i := 0) T1.out.now rfl (Turns.cell BN.out 0 (.int .i64 ((made : Int) + 1))))
  have e2 : (nodeV 0 0 level nils zeros).setIfInBounds 0 (.int .i64 ((made : Int) + 1)) = nodeV (made + 1) 0 level nils zeros := nodeV_set0 _ _ _ _ _ (made + 1)
  rw [e2] at T2
  have T3 := T2.trans (Turns.inside (i := 0) T2.now rfl (Turns.cell (Apt.head T2.now) 1 (.int .i64 (nv : Int))))
  rw [nodeV_set1] at T3
  have T4 := Lib.hid (T3.stays (below_drewN (Below.refl _ _) 1))
  clear T2 T3 e2
  go_wp2_with fail
  go_ret
  exact ⟨by rw [hg.out]; rfl, by rw [hg.out]; exact T4.out⟩
set_option maxHeartbeats 4000000 in
/-- fresh, like an old node. -/
theorem freshS (k : Nat) (av : Option Addr) (nv cv made level : Nat) (g0 id0 birth0 level0 : Nat) (ps : List Value) (ds : List Int) (w : World) (hk : Box w k (forV av nv cv made) 74) (h0 : Box w g0 (nodeV id0 birth0 level0 ps ds) 82)
    (hps : ps.length = 4) (hp1 : ∀ v ∈ ps, v.oneCell' = true) (hds : ds.length = 64) (hm : made ≤ 1000000) (hl : level ≤ 10) :
    Calls Try.prog 39 #[.pointer (some ⟨k, 0, none⟩), .pointer (some ⟨g0, 0, none⟩), .int .i64 level] w fun e w' =>
      e = .returned (.pointer (some ⟨w.heap.size, 0, none⟩)) ∧ Turns (thBox k (forV av nv cv made) 74) (thAll [thBox w.heap.size (nodeV (made + 1) nv level0 ps ds) 82, thBox k (forV av nv cv (made + 1)) 74]) w w' := by
  have h0l : g0 < w.heap.size := h0.lt
  have wm : IntKind.i64.wrap ((made : Int) + 1) = (made : Int) + 1 := IntWalk.i64_in _ (by omega)
  have T0 := Lib.hid (Turns.boxed (t := thBox k (forV av nv cv made) 74) hk (nodeV 0 0 level nils zeros) 82)
  have H0 := Lib.hid (h0.alloc (.cells (nodeV 0 0 level nils zeros) 82))
  have HN := Lib.hid (Box.new (w := w) (vs := nodeV 0 0 level nils zeros) (t := 82) rfl)
  have hsz : (nodeV id0 birth0 level0 ps ds).size = 71 := by simp [nodeV, hps, hds]
  have hone : (nodeV id0 birth0 level0 ps ds).toList.all (·.oneCell') = true := by
    rw [List.all_eq_true]
    intro v hv
    simp only [nodeV, List.mem_append, List.mem_cons, List.mem_map] at hv
    rcases hv with (h | h) | ⟨x, _, rfl⟩
    · rcases h with rfl | rfl | rfl | h
      · rfl
      · rfl
      · rfl
      · cases h
    · exact hp1 v h
    · rfl
  have HI : Hid ((Try.prog.info? 82).map (·.size) = some (nodeV id0 birth0 level0 ps ds).size) := by show _ = _; rw [hsz]; kernel_rfl
  have hz : (Try.zeroCells82.setIfInBounds 2 (.int .i64 (level : Int))).size = 71 := by rw [zero_node]; rfl
  have HZ : Hid ((Try.zeroCells82.setIfInBounds 2 (.int .i64 (level : Int))).size = (nodeV id0 birth0 level0 ps ds).size) := by show _ = _; rw [hz, hsz]
  have HONE := Lib.hid hone
  obtain ⟨g, hg⟩ : ∃ g, Hid (w.heap.size = g) := ⟨_, rfl⟩
  clear hsz hone hz
  have NB : Hid (Box (w.alloc (.cells (Try.zeroCells82.setIfInBounds 2 (.int .i64 (level : Int))) 82)) w.heap.size (Try.zeroCells82.setIfInBounds 2 (.int .i64 (level : Int))) 82) := Box.new rfl
  have H0A : Hid (Box (w.alloc (.cells (Try.zeroCells82.setIfInBounds 2 (.int .i64 (level : Int))) 82)) g0 (nodeV id0 birth0 level0 ps ds) 82) := h0.alloc _
  rw [← zero_node] at T0
  go_enter Try.func39, Try.ntmps39
  go_wp2_with (first | (refine wpList_load_box rfl 82 (.tmp 15) rfl g0 rfl 82 (nodeV id0 birth0 level0 ps ds) H0A.out _ Try.underlying82 rfl HI.out ?_) | (refine wpList_store_box rfl 82 (.tmp 17) (.tmp 16) rfl w.heap.size (nodeV id0 birth0 level0 ps ds) rfl rfl 82 _ NB.out HI.out HZ.out HONE.out ?_; intro w3 hb3 hg3; have T3 := Lib.hid (T0.out.headBox hb3 hg3); have B3 := Lib.hid (show Box w3 k (forV av nv cv made) 74 from Apt.all T3.out.now 1 _ rfl); have k1 : w3.cell? ⟨k, 1, none⟩ = some (.int .i64 made) := B3.out.cell 1; have kf : w3.frozen? ⟨k, 1, none⟩ = false := B3.out.free 1; have hkl : k < w3.heap.size := B3.out.lt; clear hb3 hg3))
  rw [hg.out] at T3 ⊢
  have T1 := Lib.hid (T3.out.next (Turns.cell B3.out 1 (.int .i64 ((made : Int) + 1))))
  obtain ⟨V, hV⟩ : ∃ V, V = w3.setCell ⟨k, 1, none⟩ (.int .i64 ((made : Int) + 1)) := ⟨_, rfl⟩
  rw [← hV] at T1 ⊢
  have BN := Lib.hid (show Box V g (nodeV id0 birth0 level0 ps ds) 82 from Apt.head T1.out.now)
  have BF := Lib.hid (show Box V k (forV av nv cv (made + 1)) 74 from Apt.all T1.out.now 1 _ rfl)
  have q0 : V.cell? ⟨k, 0, none⟩ = some (.slice av nv cv) := BF.out.cell 0
  have q1 : V.cell? ⟨k, 1, none⟩ = some (.int .i64 ((made : Int) + 1)) := BF.out.cell 1
  have n0 : V.cell? ⟨g, 0, none⟩ = some (.int .i64 id0) := (BN.out.cell 0).trans (by simp [nodeV])
  have n1 : V.cell? ⟨g, 1, none⟩ = some (.int .i64 birth0) := (BN.out.cell 1).trans (by simp [nodeV])
  have f0 : V.frozen? ⟨g, 0, none⟩ = false := BN.out.free 0
  have f1 : V.frozen? ⟨g, 1, none⟩ = false := BN.out.free 1
  have hgV : g < V.heap.size := BN.out.lt
  have hkV : k < V.heap.size := BF.out.lt
  have hgk : g ≠ k := fun e => T1.out.now.apart 0 1 _ _ rfl rfl (by decide) g rfl e
  have hkg : k ≠ g := fun e => hgk e.symm
  clear hV k1 kf hkl
  go_region
  have T2 := T1.out.trans (Turns.inside (i := 0) T1.out.now rfl (Turns.cell BN.out 0 (.int .i64 ((made : Int) + 1))))
  have e2 : (nodeV id0 birth0 level0 ps ds).setIfInBounds 0 (.int .i64 ((made : Int) + 1)) = nodeV (made + 1) birth0 level0 ps ds := nodeV_set0 _ _ _ _ _ (made + 1)
  rw [e2] at T2
  have T3 := T2.trans (Turns.inside (i := 0) T2.now rfl (Turns.cell (Apt.head T2.now) 1 (.int .i64 (nv : Int))))
  rw [nodeV_set1] at T3
  have T4 := Lib.hid (T3.stays (below_drewN (Below.refl _ _) 1))
  clear T2 T3 e2
  go_wp2_with fail
  go_ret
  exact ⟨by rw [hg.out]; rfl, by rw [hg.out]; exact T4.out⟩
end Go.Proofs.Ythjjfmnipemakaa
