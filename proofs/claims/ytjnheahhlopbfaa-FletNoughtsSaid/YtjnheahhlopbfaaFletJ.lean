/- The walk of Join. -/
import Derived.Test.YtjnheahhlopbfaaFletX
namespace Go.Proofs.Ytjnheahhlopbfaa
open Go.RowKit
set_option linter.unusedVariables false

theorem cell_alloc {w : World} {a : Addr} {v : Value} (o : Obj) (h : w.cell? a = some v) : (w.alloc o).cell? a = some v := (World.cell?_alloc_lt _ _ _ (World.block_lt_of_cell? _ _ h)).trans h
theorem cell_drew {w : World} {a : Addr} {v : Value} (h : w.cell? a = some v) : w.drew.cell? a = some v := h
theorem of_exact (a b c d : Int) (w : World) :
    Calls Try.prog 36 #[.agg #[.int .i64 a, .int .i64 b, .int .i64 c, .int .i64 d]] w fun e w' => e = .returned (.agg #[.int .i64 a, .int .i64 b, .int .i64 c, .int .i64 d]) ∧
      (w.alloc (.cells #[.int .i64 a, .int .i64 b, .int .i64 c, .int .i64 d] 41)).alloc (.cells #[.int .i64 a, .int .i64 b, .int .i64 c, .int .i64 d] 65) = w' := by
  go_enter Try.func36, Try.ntmps36
  go_wp2
  go_returns
  exact ⟨rfl, rfl⟩

/-- the four blocks of a join -/
structure JW (w0 : World) (g1 g2 f : Nat) (s0 s1 s2 s3 f1 f2 f3 t0 t1 t2 t3 : Int) (W : World) : Prop where
  b1 : Box W g1 #[.int .i64 s0, .int .i64 s1, .int .i64 s2, .int .i64 s3] 65
  b2 : Box W g2 #[.int .i64 t0, .int .i64 t1, .int .i64 t2, .int .i64 t3] 65
  b3 : Box W f #[.int .i64 1, .int .i64 f1, .int .i64 f2, .int .i64 f3] 64
  b4 : Box W (w0.heap.size + 2) #[.int .i64 0, .int .i64 0, .int .i64 0, .int .i64 0] 41
  bl : Below w0.heap.size w0 W
  n1 : g1 ≠ g2
  n2 : f ≠ g2
  n3 : w0.heap.size + 2 < g2
section
variable {w0 : World} {g1 g2 f : Nat} {s0 s1 s2 s3 f1 f2 f3 t0 t1 t2 t3 : Int} {W : World} (J : JW w0 g1 g2 f s0 s1 s2 s3 f1 f2 f3 t0 t1 t2 t3 W)
include J
theorem JW.facts : (W.cell? ⟨g1, 0, none⟩ = some (.int .i64 s0) ∧ W.cell? ⟨g1, 1, none⟩ = some (.int .i64 s1) ∧ W.cell? ⟨g1, 2, none⟩ = some (.int .i64 s2) ∧ W.cell? ⟨g1, 3, none⟩ = some (.int .i64 s3)) ∧
    (W.cell? ⟨g2, 0, none⟩ = some (.int .i64 t0) ∧ W.cell? ⟨g2, 1, none⟩ = some (.int .i64 t1) ∧ W.cell? ⟨g2, 2, none⟩ = some (.int .i64 t2) ∧ W.cell? ⟨g2, 3, none⟩ = some (.int .i64 t3)) ∧
    (W.cell? ⟨f, 0, none⟩ = some (.int .i64 1) ∧ W.cell? ⟨f, 1, none⟩ = some (.int .i64 f1) ∧ W.cell? ⟨f, 2, none⟩ = some (.int .i64 f2) ∧ W.cell? ⟨f, 3, none⟩ = some (.int .i64 f3)) ∧
    (W.frozen? ⟨g2, 0, none⟩ = false ∧ W.frozen? ⟨g2, 1, none⟩ = false ∧ W.frozen? ⟨g2, 2, none⟩ = false ∧ W.frozen? ⟨g2, 3, none⟩ = false) :=
  ⟨⟨J.b1.cell 0, J.b1.cell 1, J.b1.cell 2, J.b1.cell 3⟩, ⟨J.b2.cell 0, J.b2.cell 1, J.b2.cell 2, J.b2.cell 3⟩, ⟨J.b3.cell 0, J.b3.cell 1, J.b3.cell 2, J.b3.cell 3⟩, ⟨J.b2.free 0, J.b2.free 1, J.b2.free 2, J.b2.free 3⟩⟩
theorem JW.set0 {v : Int} {V : World} (h : (W.setCell ⟨g2, 0, none⟩ (.int .i64 v)).drew = V) : JW w0 g1 g2 f s0 s1 s2 s3 f1 f2 f3 v t1 t2 t3 V := by
  subst h
  have n3 := J.n3
  exact ⟨(J.b1.other _ (Ne.symm J.n1) _).drew, (J.b2.set 0 _).drew, (J.b3.other _ (Ne.symm J.n2) _).drew, (J.b4.other _ (by show g2 ≠ _; omega) _).drew, (J.bl.setCell (by show _ ≤ g2; omega) _).drew, J.n1, J.n2, J.n3⟩
theorem JW.set1 {v : Int} {V : World} (h : (W.setCell ⟨g2, 1, none⟩ (.int .i64 v)).drew = V) : JW w0 g1 g2 f s0 s1 s2 s3 f1 f2 f3 t0 v t2 t3 V := by
  subst h
  have n3 := J.n3
  exact ⟨(J.b1.other _ (Ne.symm J.n1) _).drew, (J.b2.set 1 _).drew, (J.b3.other _ (Ne.symm J.n2) _).drew, (J.b4.other _ (by show g2 ≠ _; omega) _).drew, (J.bl.setCell (by show _ ≤ g2; omega) _).drew, J.n1, J.n2, J.n3⟩
theorem JW.set2 {v : Int} {V : World} (h : (W.setCell ⟨g2, 2, none⟩ (.int .i64 v)).drew = V) : JW w0 g1 g2 f s0 s1 s2 s3 f1 f2 f3 t0 t1 v t3 V := by
  subst h
  have n3 := J.n3
  exact ⟨(J.b1.other _ (Ne.symm J.n1) _).drew, (J.b2.set 2 _).drew, (J.b3.other _ (Ne.symm J.n2) _).drew, (J.b4.other _ (by show g2 ≠ _; omega) _).drew, (J.bl.setCell (by show _ ≤ g2; omega) _).drew, J.n1, J.n2, J.n3⟩
theorem JW.set3 {v : Int} {V : World} (h : (W.setCell ⟨g2, 3, none⟩ (.int .i64 v)).drew = V) : JW w0 g1 g2 f s0 s1 s2 s3 f1 f2 f3 t0 t1 t2 v V := by
  subst h
  have n3 := J.n3
  exact ⟨(J.b1.other _ (Ne.symm J.n1) _).drew, (J.b2.set 3 _).drew, (J.b3.other _ (Ne.symm J.n2) _).drew, (J.b4.other _ (by show g2 ≠ _; omega) _).drew, (J.bl.setCell (by show _ ≤ g2; omega) _).drew, J.n1, J.n2, J.n3⟩
end
theorem still_to_drew {P : Program} {ops : Array Oper} {Q : Exit → Act → World → Prop} {l : List Oper} {a : Act} {w : World} (h : wpList P ops Q l a w.drew) :
    wpList P ops Q l a { heap := w.heap, tape := w.tape, drawn := w.drawn + 1, os := w.os, output := w.output } := h
set_option maxHeartbeats 20000000 in
theorem join_ (sa sb sc sd ta tb tc td : Int) (n : Nat) (w : World) (hn : n ≤ 1000) :
    Calls Try.prog 24 #[.agg #[.int .i64 sa, .int .i64 sb, .int .i64 sc, .int .i64 sd], .agg #[.int .i64 ta, .int .i64 tb, .int .i64 tc, .int .i64 td], .int .i64 n] w (Mores (joinE ⟨sa, sb, sc, sd⟩ ⟨ta, tb, tc, td⟩ n).wrap w) := by
  obtain ⟨t2, ht2⟩ : ∃ t2, Hid (t2 = tri n) := ⟨_, rfl⟩
  obtain ⟨t3, ht3⟩ : ∃ t3, Hid (t3 = tet n) := ⟨_, rfl⟩
  have p0 : 0 ≤ (n : Int) * (n + 1) := Int.mul_nonneg (by omega) (by omega)
  have p1 : (n : Int) * (n + 1) ≤ 1000 * 1001 := Int.mul_le_mul (by omega) (by omega) (by omega) (by omega)
  have e2 : (n : Int) * (n + 1) / 2 = t2 := by rw [ht2.out]; exact tri_div n
  have q0 : 0 ≤ t2 ∧ t2 ≤ 1000000 := by omega
  have p2 : 0 ≤ t2 * ((n : Int) + 2) := Int.mul_nonneg (by omega) (by omega)
  have p3 : t2 * ((n : Int) + 2) ≤ 1000000 * 1002 := Int.mul_le_mul (by omega) (by omega) (by omega) (by omega)
  have e3 : t2 * ((n : Int) + 2) / 3 = t3 := by rw [ht3.out, ht2.out]; exact tet_div n
  have q1 : 0 ≤ t3 ∧ t3 ≤ 1000000000 := by omega
  go_enter Try.func24, Try.ntmps24
  go_wp2_with fail
  go_cut [8, 9] (fun v8 v9 wx => ∃ g1 g2 : Nat, v8 = .pointer (some ⟨g1, 0, none⟩) ∧ v9 = .pointer (some ⟨g2, 0, none⟩) ∧ g1 ≠ g2 ∧ w.heap.size + 2 < g1 ∧ w.heap.size + 2 < g2 ∧ Hid (Box wx g1 #[.int .i64 sa, .int .i64 sb, .int .i64 sc, .int .i64 sd] 65) ∧
    Hid (Box wx g2 #[.int .i64 ta, .int .i64 tb, .int .i64 tc, .int .i64 td] 65) ∧ Hid (Box wx (w.heap.size + 2) #[.int .i64 0, .int .i64 0, .int .i64 0, .int .i64 0] 41) ∧ Below w.heap.size w wx)
  case first => as_aux_lemma =>
    have hW : ∃ W, W = ((w.alloc (.cells #[.int .i64 sa, .int .i64 sb, .int .i64 sc, .int .i64 sd] 41)).alloc (.cells #[.int .i64 ta, .int .i64 tb, .int .i64 tc, .int .i64 td] 41)).alloc (.cells #[.int .i64 0, .int .i64 0, .int .i64 0, .int .i64 0] 41) := ⟨_, rfl⟩
    obtain ⟨W, hW⟩ := hW
    rw [← hW]
    have b0 : Box W w.heap.size #[.int .i64 sa, .int .i64 sb, .int .i64 sc, .int .i64 sd] 41 := by rw [hW]; exact ((Box.new rfl).alloc _).alloc _
    have b1 : Box W (w.heap.size + 1) #[.int .i64 ta, .int .i64 tb, .int .i64 tc, .int .i64 td] 41 := by rw [hW]; exact (Box.new (by simp)).alloc _
    have b2 : Box W (w.heap.size + 2) #[.int .i64 0, .int .i64 0, .int .i64 0, .int .i64 0] 41 := by rw [hW]; exact Box.new (by simp)
    have hWs : W.heap.size = w.heap.size + 3 := by rw [hW]; simp
    have hWb : Below w.heap.size w W := by rw [hW]; exact (Below_alloc2 _ _).alloc (by simp; omega) _
    have c0 : W.cell? ⟨w.heap.size, 0, none⟩ = some (.int .i64 sa) := b0.cell 0
    have c1 : W.cell? ⟨w.heap.size, 1, none⟩ = some (.int .i64 sb) := b0.cell 1
    have c2 : W.cell? ⟨w.heap.size, 2, none⟩ = some (.int .i64 sc) := b0.cell 2
    have c3 : W.cell? ⟨w.heap.size, 3, none⟩ = some (.int .i64 sd) := b0.cell 3
    have d0 : W.cell? ⟨w.heap.size + 1, 0, none⟩ = some (.int .i64 ta) := b1.cell 0
    have d1 : W.cell? ⟨w.heap.size + 1, 1, none⟩ = some (.int .i64 tb) := b1.cell 1
    have d2 : W.cell? ⟨w.heap.size + 1, 2, none⟩ = some (.int .i64 tc) := b1.cell 2
    have d3 : W.cell? ⟨w.heap.size + 1, 3, none⟩ = some (.int .i64 td) := b1.cell 3
    have B2 := Lib.hid b2
    have HWs := Lib.hid hWs
    clear hW b0 b1 b2 hWs
    go_region_held3 (fun w' => w'.cell? ⟨w.heap.size, 0, none⟩ = some (.int .i64 sa) ∧ w'.cell? ⟨w.heap.size, 1, none⟩ = some (.int .i64 sb) ∧ w'.cell? ⟨w.heap.size, 2, none⟩ = some (.int .i64 sc) ∧ w'.cell? ⟨w.heap.size, 3, none⟩ = some (.int .i64 sd) ∧ w'.cell? ⟨w.heap.size + 1, 0, none⟩ = some (.int .i64 ta) ∧ w'.cell? ⟨w.heap.size + 1, 1, none⟩ = some (.int .i64 tb) ∧ w'.cell? ⟨w.heap.size + 1, 2, none⟩ = some (.int .i64 tc) ∧ w'.cell? ⟨w.heap.size + 1, 3, none⟩ = some (.int .i64 td)) (first | (go_keep; done) | (refine ⟨?_, ?_, ?_, ?_, ?_, ?_, ?_, ?_⟩ <;> (repeat first | (with_reducible assumption) | (with_reducible apply cell_drew) | (with_reducible apply cell_alloc))))
      (first | (go_at_call 36; refine (of_exact _ _ _ _ _).mono ?_; rintro e w' ⟨rfl, rfl⟩))
    all_goals (go_wp2_with fail; go_meet)
    all_goals
      have hws := HWs.out
      have hwb := hWb.size
      refine ⟨_, _, rfl, rfl, by omega, by omega, by omega, ?_, ?_, ?_, ?_⟩
      · refine Box.drew ?_
        repeat first | (refine Box.new ?_; simp; done) | refine Box.alloc ?_ _
      · refine Box.drew ?_
        repeat first | (refine Box.new ?_; simp; done) | refine Box.alloc ?_ _
      · refine Box.drew ?_
        repeat first | exact B2.out | refine Box.alloc ?_ _
      · refine Below.drew ?_
        repeat' first | exact hWb | refine Below.alloc ?_ ?_ _ | omega | (simp; omega)
  case rest =>
    obtain ⟨g1, g2, rfl, rfl, hne, hg1, hg2, B1, B2, B3, hbl⟩ := hcut
    have l1 := B1.out.lt
    have l2 := B2.out.lt
    go_wp2_with fail
    generalize hW0 : wc.alloc _ = W0
    have J : JW w g1 g2 wc.heap.size sa sb sc sd n t2 t3 ta tb tc td W0 := by
      rw [← hW0]
      exact ⟨B1.out.alloc _, B2.out.alloc _, Box.new rfl, B3.out.alloc _, hbl.alloc hbl.size _, hne, by omega, hg2⟩
    obtain ⟨f, hf⟩ : ∃ f, Hid (wc.heap.size = f) := ⟨_, rfl⟩
    rw [hf.out] at J
    rw [hf.out]
    clear hW0 B1 B2 B3 hbl l1 l2 p0 p1 p2 p3 e2 e3 hg1 hg2
    have HJ := Lib.hid J
    clear J
    obtain ⟨⟨c0, c1, c2, c3⟩, ⟨d0, d1, d2, d3⟩, ⟨k0, k1, k2, k3⟩, ⟨z0, z1, z2, z3⟩⟩ := HJ.out.facts
    refine wp_loop_rounds 5 ?_
    rw [rounds_succ]
    go_wp2_with fail
    refine wp_loop_rounds 5 ?_
    rw [rounds_succ]
    go_wp2_with fail
    go_region
    go_wp2_with fail
    generalize hW1 : (World.setCell W0 ⟨g2, 0, none⟩ (.int .i64 (wrap64 (ta + wrap64 sa)))).drew = W1
    have J := HJ.out.set0 hW1
    clear hW1 HJ c0 c1 c2 c3 d0 d1 d2 d3 k0 k1 k2 k3 z0 z1 z2 z3
    have HJ := Lib.hid J
    clear J
    obtain ⟨⟨c0, c1, c2, c3⟩, ⟨d0, d1, d2, d3⟩, ⟨k0, k1, k2, k3⟩, ⟨z0, z1, z2, z3⟩⟩ := HJ.out.facts
    as_aux_lemma =>
      rw [rounds_succ]
      go_wp2_with fail
      rw [rounds_succ]
      go_wp2_with fail
      refine wp_loop_rounds 5 ?_
      rw [rounds_succ]
      go_wp2_with fail
      go_region
      go_wp2_with fail
      generalize hW2 : (World.setCell W1 ⟨g2, 1, none⟩ (.int .i64 (wrap64 (tb + wrap64 ((n : Int) * sa))))).drew = W2
      have J := HJ.out.set1 hW2
      clear hW2 HJ c0 c1 c2 c3 d0 d1 d2 d3 k0 k1 k2 k3 z0 z1 z2 z3
      have HJ := Lib.hid J
      clear J
      obtain ⟨⟨c0, c1, c2, c3⟩, ⟨d0, d1, d2, d3⟩, ⟨k0, k1, k2, k3⟩, ⟨z0, z1, z2, z3⟩⟩ := HJ.out.facts
      as_aux_lemma =>
        rw [rounds_succ]
        go_wp2_with fail
        go_region
        go_wp2_with fail
        generalize hW3 : (World.setCell W2 ⟨g2, 1, none⟩ (.int .i64 (wrap64 (wrap64 (tb + wrap64 ((n : Int) * sa)) + wrap64 sb)))).drew = W3
        have J := HJ.out.set1 hW3
        clear hW3 HJ c0 c1 c2 c3 d0 d1 d2 d3 k0 k1 k2 k3 z0 z1 z2 z3
        have HJ := Lib.hid J
        clear J
        obtain ⟨⟨c0, c1, c2, c3⟩, ⟨d0, d1, d2, d3⟩, ⟨k0, k1, k2, k3⟩, ⟨z0, z1, z2, z3⟩⟩ := HJ.out.facts
        as_aux_lemma =>
          rw [rounds_succ]
          go_wp2_with fail
          rw [rounds_succ]
          go_wp2_with fail
          refine wp_loop_rounds 5 ?_
          rw [rounds_succ]
          go_wp2_with fail
          go_region
          go_wp2_with fail
          generalize hW4 : (World.setCell W3 ⟨g2, 2, none⟩ (.int .i64 (wrap64 (tc + wrap64 (t2 * sa))))).drew = W4
          have J := HJ.out.set2 hW4
          clear hW4 HJ c0 c1 c2 c3 d0 d1 d2 d3 k0 k1 k2 k3 z0 z1 z2 z3
          have HJ := Lib.hid J
          clear J
          obtain ⟨⟨c0, c1, c2, c3⟩, ⟨d0, d1, d2, d3⟩, ⟨k0, k1, k2, k3⟩, ⟨z0, z1, z2, z3⟩⟩ := HJ.out.facts
          as_aux_lemma =>
            rw [rounds_succ]
            go_wp2_with fail
            go_region
            go_wp2_with fail
            generalize hW5 : (World.setCell W4 ⟨g2, 2, none⟩ (.int .i64 (wrap64 (wrap64 (tc + wrap64 (t2 * sa)) + wrap64 ((n : Int) * sb))))).drew = W5
            have J := HJ.out.set2 hW5
            clear hW5 HJ c0 c1 c2 c3 d0 d1 d2 d3 k0 k1 k2 k3 z0 z1 z2 z3
            have HJ := Lib.hid J
            clear J
            obtain ⟨⟨c0, c1, c2, c3⟩, ⟨d0, d1, d2, d3⟩, ⟨k0, k1, k2, k3⟩, ⟨z0, z1, z2, z3⟩⟩ := HJ.out.facts
            as_aux_lemma =>
              rw [rounds_succ]
              go_wp2_with fail
              go_region
              go_wp2_with fail
              generalize hW6 : (World.setCell W5 ⟨g2, 2, none⟩ (.int .i64 (wrap64 (wrap64 (wrap64 (tc + wrap64 (t2 * sa)) + wrap64 ((n : Int) * sb)) + wrap64 sc)))).drew = W6
              have J := HJ.out.set2 hW6
              clear hW6 HJ c0 c1 c2 c3 d0 d1 d2 d3 k0 k1 k2 k3 z0 z1 z2 z3
              have HJ := Lib.hid J
              clear J
              obtain ⟨⟨c0, c1, c2, c3⟩, ⟨d0, d1, d2, d3⟩, ⟨k0, k1, k2, k3⟩, ⟨z0, z1, z2, z3⟩⟩ := HJ.out.facts
              as_aux_lemma =>
                rw [rounds_succ]
                go_wp2_with fail
                rw [rounds_succ]
                go_wp2_with fail
                refine wp_loop_rounds 5 ?_
                rw [rounds_succ]
                go_wp2_with fail
                go_region
                go_wp2_with fail
                generalize hW7 : (World.setCell W6 ⟨g2, 3, none⟩ (.int .i64 (wrap64 (td + wrap64 (t3 * sa))))).drew = W7
                have J := HJ.out.set3 hW7
                clear hW7 HJ c0 c1 c2 c3 d0 d1 d2 d3 k0 k1 k2 k3 z0 z1 z2 z3
                have HJ := Lib.hid J
                clear J
                obtain ⟨⟨c0, c1, c2, c3⟩, ⟨d0, d1, d2, d3⟩, ⟨k0, k1, k2, k3⟩, ⟨z0, z1, z2, z3⟩⟩ := HJ.out.facts
                as_aux_lemma =>
                  rw [rounds_succ]
                  go_wp2_with fail
                  go_region
                  go_wp2_with fail
                  generalize hW8 : (World.setCell W7 ⟨g2, 3, none⟩ (.int .i64 (wrap64 (wrap64 (td + wrap64 (t3 * sa)) + wrap64 (t2 * sb))))).drew = W8
                  have J := HJ.out.set3 hW8
                  clear hW8 HJ c0 c1 c2 c3 d0 d1 d2 d3 k0 k1 k2 k3 z0 z1 z2 z3
                  have HJ := Lib.hid J
                  clear J
                  obtain ⟨⟨c0, c1, c2, c3⟩, ⟨d0, d1, d2, d3⟩, ⟨k0, k1, k2, k3⟩, ⟨z0, z1, z2, z3⟩⟩ := HJ.out.facts
                  as_aux_lemma =>
                    rw [rounds_succ]
                    go_wp2_with fail
                    go_region
                    go_wp2_with fail
                    generalize hW9 : (World.setCell W8 ⟨g2, 3, none⟩ (.int .i64 (wrap64 (wrap64 (wrap64 (td + wrap64 (t3 * sa)) + wrap64 (t2 * sb)) + wrap64 ((n : Int) * sc))))).drew = W9
                    have J := HJ.out.set3 hW9
                    clear hW9 HJ c0 c1 c2 c3 d0 d1 d2 d3 k0 k1 k2 k3 z0 z1 z2 z3
                    have HJ := Lib.hid J
                    clear J
                    obtain ⟨⟨c0, c1, c2, c3⟩, ⟨d0, d1, d2, d3⟩, ⟨k0, k1, k2, k3⟩, ⟨z0, z1, z2, z3⟩⟩ := HJ.out.facts
                    as_aux_lemma =>
                      rw [rounds_succ]
                      go_wp2_with fail
                      go_region
                      go_wp2_with fail
                      generalize hW10 : (World.setCell W9 ⟨g2, 3, none⟩ (.int .i64 (wrap64 (wrap64 (wrap64 (wrap64 (td + wrap64 (t3 * sa)) + wrap64 (t2 * sb)) + wrap64 ((n : Int) * sc)) + wrap64 sd)))).drew = W10
                      have J := HJ.out.set3 hW10
                      clear hW10 HJ c0 c1 c2 c3 d0 d1 d2 d3 k0 k1 k2 k3 z0 z1 z2 z3
                      have HJ := Lib.hid J
                      clear J
                      obtain ⟨⟨c0, c1, c2, c3⟩, ⟨d0, d1, d2, d3⟩, ⟨k0, k1, k2, k3⟩, ⟨z0, z1, z2, z3⟩⟩ := HJ.out.facts
                      as_aux_lemma =>
                        rw [rounds_succ]
                        go_wp2_with fail
                        rw [rounds_succ]
                        go_wp2_with fail
                        refine (sum_ _ _ _ _ _).mono ?_; rintro e w2 ⟨rfl, hb2⟩
                        obtain ⟨va, hva⟩ : ∃ v, Hid (wrap64 (ta + wrap64 sa) = v) := ⟨_, rfl⟩
                        obtain ⟨vb, hvb⟩ : ∃ v, Hid (wrap64 (wrap64 (tb + wrap64 ((n : Int) * sa)) + wrap64 sb) = v) := ⟨_, rfl⟩
                        obtain ⟨vc, hvc⟩ : ∃ v, Hid (wrap64 (wrap64 (wrap64 (tc + wrap64 (t2 * sa)) + wrap64 ((n : Int) * sb)) + wrap64 sc) = v) := ⟨_, rfl⟩
                        obtain ⟨vd, hvd⟩ : ∃ v, Hid (wrap64 (wrap64 (wrap64 (wrap64 (td + wrap64 (t3 * sa)) + wrap64 (t2 * sb)) + wrap64 ((n : Int) * sc)) + wrap64 sd) = v) := ⟨_, rfl⟩
                        rw [hva.out, hvb.out, hvc.out, hvd.out]
                        have hR : Box w2 (w.heap.size + 1 + 1) #[.int .i64 0, .int .i64 0, .int .i64 0, .int .i64 0] 41 := Box.below HJ.out.b4 hb2 HJ.out.b4.lt
                        have hL : Below w.heap.size w w2 := HJ.out.bl.trans (hb2.mono HJ.out.bl.size)
                        clear HJ c0 c1 c2 c3 d0 d1 d2 d3 k0 k1 k2 k3 z0 z1 z2 z3
                        have y0 : w2.cell? ⟨w.heap.size + 1 + 1, 0, none⟩ = some (.int .i64 0) := hR.cell 0
                        have y1 : w2.cell? ⟨w.heap.size + 1 + 1, 1, none⟩ = some (.int .i64 0) := hR.cell 1
                        have y2 : w2.cell? ⟨w.heap.size + 1 + 1, 2, none⟩ = some (.int .i64 0) := hR.cell 2
                        have y3 : w2.cell? ⟨w.heap.size + 1 + 1, 3, none⟩ = some (.int .i64 0) := hR.cell 3
                        have f0 := hR.free 0
                        have f1 := hR.free 1
                        have f2 := hR.free 2
                        have f3 := hR.free 3
                        have hp : w.heap.size ≤ w.heap.size + 1 + 1 := by omega
                        have HL2 := Lib.hid ((((hL.setCell (p := ⟨w.heap.size + 1 + 1, 0, none⟩) hp (.int .i64 va)).setCell (p := ⟨w.heap.size + 1 + 1, 1, none⟩) hp (.int .i64 vb)).setCell (p := ⟨w.heap.size + 1 + 1, 2, none⟩) hp (.int .i64 vc)).setCell (p := ⟨w.heap.size + 1 + 1, 3, none⟩) hp (.int .i64 vd))
                        have HB2 := Lib.hid ((((hR.set 0 (.int .i64 va)).set 1 (.int .i64 vb)).set 2 (.int .i64 vc)).set 3 (.int .i64 vd))
                        clear hR hb2 hL hp
                        go_wp2
                        generalize (((w2.setCell ⟨w.heap.size + 1 + 1, 0, none⟩ (.int .i64 va)).setCell ⟨w.heap.size + 1 + 1, 1, none⟩ (.int .i64 vb)).setCell ⟨w.heap.size + 1 + 1, 2, none⟩ (.int .i64 vc)).setCell ⟨w.heap.size + 1 + 1, 3, none⟩ (.int .i64 vd) = W at *
                        have q0 : W.cell? ⟨w.heap.size + 1 + 1, 0, none⟩ = some (.int .i64 va) := HB2.out.cell 0
                        have q1 : W.cell? ⟨w.heap.size + 1 + 1, 1, none⟩ = some (.int .i64 vb) := HB2.out.cell 1
                        have q2 : W.cell? ⟨w.heap.size + 1 + 1, 2, none⟩ = some (.int .i64 vc) := HB2.out.cell 2
                        have q3 : W.cell? ⟨w.heap.size + 1 + 1, 3, none⟩ = some (.int .i64 vd) := HB2.out.cell 3
                        clear y0 y1 y2 y3 f0 f1 f2 f3
                        refine bodyPost_ret (by simp [results, Try.results24, go_sem, q0, q1, q2, q3]) rfl ⟨va, vb, vc, vd, ?_, rfl, HL2.out⟩
                        rw [← hva.out, ← hvb.out, ← hvc.out, ← hvd.out]
                        simp only [Four.wrap, joinE, wrap_add_l, wrap_add_r, ← ht2.out, ← ht3.out, Int.add_assoc]
                        exact (trivial : True)
end Go.Proofs.Ytjnheahhlopbfaa
