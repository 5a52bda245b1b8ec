/- The walk of package label: May. -/
import Derived.Test.YteidmdakglkkfaaLbT
namespace Go.Proofs.Yteidmdakglkkfaa
open Go.RowKit
set_option linter.unusedVariables false
set_option maxRecDepth 100000

def inB (n low high : Int) : Bool := decide (low ≤ n ∧ n ≤ high)
structure Lab where
  pool : Int
  drive : Int
  drives : Int
  parity : Int
  time : Int
  addr : Int
  count : Int
  bytes : Int
  birth : Int
  a : Int
  b : Int
  c : Int
  d : Int
def Lab.cells (x : Lab) : Array Value := #[.int .i64 x.pool, .int .i64 x.drive, .int .i64 x.drives, .int .i64 x.parity, .int .i64 x.time, .int .i64 x.addr, .int .i64 x.count, .int .i64 x.bytes, .int .i64 x.birth, .int .i64 x.a, .int .i64 x.b, .int .i64 x.c, .int .i64 x.d]
def Lab.may (x : Lab) : Bool := inB x.pool 1 1048576 && inB x.drives 2 8 && inB x.drive 0 (x.drives - 1) && inB x.parity 1 (min 3 (x.drives - 1)) && inB x.time 0 1048576 && inB x.addr 0 65536 && inB x.count 0 32 && inB x.bytes 0 (x.count * 128) && inB x.birth 0 x.time
theorem inB_true {n low high : Int} (h : inB n low high = true) : low ≤ n ∧ n ≤ high := by simpa [inB] using h
set_option maxHeartbeats 4000000 in
theorem may_ (pool drive drives parity time addr count bytes birth a b c d : Int) (w : World) :
    Calls Try.prog 27 #[.agg #[.int .i64 pool, .int .i64 drive, .int .i64 drives, .int .i64 parity, .int .i64 time, .int .i64 addr, .int .i64 count, .int .i64 bytes, .int .i64 birth, .int .i64 a, .int .i64 b, .int .i64 c, .int .i64 d]] w fun e w' => e = .returned (.bool (Lab.may ⟨pool, drive, drives, parity, time, addr, count, bytes, birth, a, b, c, d⟩)) ∧ Below w.heap.size w w' := by
  obtain ⟨res, hres⟩ : ∃ res, Hid (Lab.may ⟨pool, drive, drives, parity, time, addr, count, bytes, birth, a, b, c, d⟩ = res) := ⟨_, rfl⟩
  rw [hres.out]
  obtain ⟨b0, h0⟩ : ∃ b, Hid (inB pool 1 1048576 = b) := ⟨_, rfl⟩
  obtain ⟨b1, h1⟩ : ∃ b, Hid (inB drives 2 8 = b) := ⟨_, rfl⟩
  obtain ⟨b2, h2⟩ : ∃ b, Hid (inB drive 0 (drives - 1) = b) := ⟨_, rfl⟩
  obtain ⟨b3, h3⟩ : ∃ b, Hid (inB parity 1 (min 3 (drives - 1)) = b) := ⟨_, rfl⟩
  obtain ⟨b4, h4⟩ : ∃ b, Hid (inB time 0 1048576 = b) := ⟨_, rfl⟩
  obtain ⟨b5, h5⟩ : ∃ b, Hid (inB addr 0 65536 = b) := ⟨_, rfl⟩
  obtain ⟨b6, h6⟩ : ∃ b, Hid (inB count 0 32 = b) := ⟨_, rfl⟩
  obtain ⟨b7, h7⟩ : ∃ b, Hid (inB bytes 0 (count * 128) = b) := ⟨_, rfl⟩
  obtain ⟨b8, h8⟩ : ∃ b, Hid (inB birth 0 time = b) := ⟨_, rfl⟩
  have hres2 : Hid ((b0 && b1 && b2 && b3 && b4 && b5 && b6 && b7 && b8) = res) := by
    show _ = _
    rw [← h0.out, ← h1.out, ← h2.out, ← h3.out, ← h4.out, ← h5.out, ← h6.out, ← h7.out, ← h8.out]; exact hres.out
  clear hres
  go_enter Try.func27, Try.ntmps27
  go_wp2_with fail
  obtain ⟨V, hV⟩ : ∃ V, V = (w.alloc (.cells #[Value.int .i64 pool, Value.int .i64 drive, Value.int .i64 drives, Value.int .i64 parity, Value.int .i64 time, Value.int .i64 addr, Value.int .i64 count, Value.int .i64 bytes, Value.int .i64 birth, Value.int .i64 a, Value.int .i64 b, Value.int .i64 c, Value.int .i64 d] 57)).alloc (.cells #[Value.int .i64 addr, Value.int .i64 count, Value.int .i64 bytes, Value.int .i64 birth, Value.int .i64 a, Value.int .i64 b, Value.int .i64 c, Value.int .i64 d] 55) := ⟨_, rfl⟩
  have B1 : Box V w.heap.size #[Value.int .i64 pool, Value.int .i64 drive, Value.int .i64 drives, Value.int .i64 parity, Value.int .i64 time, Value.int .i64 addr, Value.int .i64 count, Value.int .i64 bytes, Value.int .i64 birth, Value.int .i64 a, Value.int .i64 b, Value.int .i64 c, Value.int .i64 d] 57 := by rw [hV]; exact (Box.new rfl).alloc _
  have B2 : Box V (w.heap.size + 1) #[Value.int .i64 addr, Value.int .i64 count, Value.int .i64 bytes, Value.int .i64 birth, Value.int .i64 a, Value.int .i64 b, Value.int .i64 c, Value.int .i64 d] 55 := by
    have h := Box.new (w := w.alloc (.cells #[Value.int .i64 pool, Value.int .i64 drive, Value.int .i64 drives, Value.int .i64 parity, Value.int .i64 time, Value.int .i64 addr, Value.int .i64 count, Value.int .i64 bytes, Value.int .i64 birth, Value.int .i64 a, Value.int .i64 b, Value.int .i64 c, Value.int .i64 d] 57)) (vs := #[Value.int .i64 addr, Value.int .i64 count, Value.int .i64 bytes, Value.int .i64 birth, Value.int .i64 a, Value.int .i64 b, Value.int .i64 c, Value.int .i64 d]) (t := 55) rfl
    rw [← hV] at h
    simpa using h
  have LB : Hid (Below w.heap.size w V) := by rw [hV]; exact (Below_alloc1 _).trans ((Below_alloc1 _).mono (by simp))
  rw [← hV]
  clear hV
  have x0 : V.cell? ⟨w.heap.size, 0, none⟩ = some (.int .i64 pool) := B1.cell 0
  have x1 : V.cell? ⟨w.heap.size, 1, none⟩ = some (.int .i64 drive) := B1.cell 1
  have x2 : V.cell? ⟨w.heap.size, 2, none⟩ = some (.int .i64 drives) := B1.cell 2
  have x3 : V.cell? ⟨w.heap.size, 3, none⟩ = some (.int .i64 parity) := B1.cell 3
  have x4 : V.cell? ⟨w.heap.size, 4, none⟩ = some (.int .i64 time) := B1.cell 4
  have y0 : V.cell? ⟨w.heap.size + 1, 0, none⟩ = some (.int .i64 addr) := B2.cell 0
  have y1 : V.cell? ⟨w.heap.size + 1, 1, none⟩ = some (.int .i64 count) := B2.cell 1
  have y2 : V.cell? ⟨w.heap.size + 1, 2, none⟩ = some (.int .i64 bytes) := B2.cell 2
  have y3 : V.cell? ⟨w.heap.size + 1, 3, none⟩ = some (.int .i64 birth) := B2.cell 3
  clear B1 B2
  obtain ⟨g, hg⟩ : ∃ g, Hid (w.heap.size = g) := ⟨_, rfl⟩
  rw [hg.out] at x0 x1 x2 x3 x4 y0 y1 y2 y3 ⊢
  refine (in_ pool 1 1048576 _ b0 h0).mono ?_
  rintro e w' ⟨rfl, rfl⟩
  cases b0 with
  | false =>
    obtain rfl : false = res := by rw [← hres2.out]; simp
    go_wp2_with fail
    go_ret
    exact ⟨rfl, LB.out⟩
  | true =>
    go_wp2_with fail
    refine (in_ drives 2 8 _ b1 h1).mono ?_
    rintro e w' ⟨rfl, rfl⟩
    cases b1 with
    | false =>
      obtain rfl : false = res := by rw [← hres2.out]; simp
      go_wp2_with fail
      go_ret
      exact ⟨rfl, LB.out⟩
    | true =>
      have hd := inB_true h1.out
      go_wp2_with fail
      refine (in_ drive 0 (drives - 1) _ b2 h2).mono ?_
      rintro e w' ⟨rfl, rfl⟩
      cases b2 with
      | false =>
        obtain rfl : false = res := by rw [← hres2.out]; simp
        go_wp2_with fail
        go_ret
        exact ⟨rfl, LB.out⟩
      | true =>
        by_cases hmn : 3 ≤ drives - 1
        · have hm : min 3 (drives - 1) = 3 := by omega
          rw [hm] at h3
          clear hm
          go_wp2_with fail
          refine (in_ parity 1 3 _ b3 h3).mono ?_
          rintro e w' ⟨rfl, rfl⟩
          cases b3 with
          | false =>
            obtain rfl : false = res := by rw [← hres2.out]; simp
            go_wp2_with fail
            go_ret
            exact ⟨rfl, LB.out⟩
          | true =>
            go_wp2_with fail
            refine (in_ time 0 1048576 _ b4 h4).mono ?_
            rintro e w' ⟨rfl, rfl⟩
            cases b4 with
            | false =>
              obtain rfl : false = res := by rw [← hres2.out]; simp
              go_wp2_with fail
              go_ret
              exact ⟨rfl, LB.out⟩
            | true =>
              go_wp2_with fail
              refine (in_ addr 0 65536 _ b5 h5).mono ?_
              rintro e w' ⟨rfl, rfl⟩
              cases b5 with
              | false =>
                obtain rfl : false = res := by rw [← hres2.out]; simp
                go_wp2_with fail
                go_ret
                exact ⟨rfl, LB.out⟩
              | true =>
                go_wp2_with fail
                refine (in_ count 0 32 _ b6 h6).mono ?_
                rintro e w' ⟨rfl, rfl⟩
                cases b6 with
                | false =>
                  obtain rfl : false = res := by rw [← hres2.out]; simp
                  go_wp2_with fail
                  go_ret
                  exact ⟨rfl, LB.out⟩
                | true =>
                  have hc := inB_true h6.out
                  go_wp2_with fail
                  refine (in_ bytes 0 (count * 128) _ b7 h7).mono ?_
                  rintro e w' ⟨rfl, rfl⟩
                  cases b7 with
                  | false =>
                    obtain rfl : false = res := by rw [← hres2.out]; simp
                    go_wp2_with fail
                    go_ret
                    exact ⟨rfl, LB.out⟩
                  | true =>
                    go_wp2_with fail
                    refine (in_ birth 0 time _ b8 h8).mono ?_
                    rintro e w' ⟨rfl, rfl⟩
                    cases b8 with
                    | false =>
                      obtain rfl : false = res := by rw [← hres2.out]; simp
                      go_wp2_with fail
                      go_ret
                      exact ⟨rfl, LB.out⟩
                    | true =>
                      obtain rfl : true = res := by rw [← hres2.out]; rfl
                      go_wp2_with fail
                      go_ret
                      exact ⟨rfl, LB.out⟩
        · have hm : min 3 (drives - 1) = (drives - 1) := by omega
          rw [hm] at h3
          clear hm
          go_wp2_with fail
          refine (in_ parity 1 (drives - 1) _ b3 h3).mono ?_
          rintro e w' ⟨rfl, rfl⟩
          cases b3 with
          | false =>
            obtain rfl : false = res := by rw [← hres2.out]; simp
            go_wp2_with fail
            go_ret
            exact ⟨rfl, LB.out⟩
          | true =>
            go_wp2_with fail
            refine (in_ time 0 1048576 _ b4 h4).mono ?_
            rintro e w' ⟨rfl, rfl⟩
            cases b4 with
            | false =>
              obtain rfl : false = res := by rw [← hres2.out]; simp
              go_wp2_with fail
              go_ret
              exact ⟨rfl, LB.out⟩
            | true =>
              go_wp2_with fail
              refine (in_ addr 0 65536 _ b5 h5).mono ?_
              rintro e w' ⟨rfl, rfl⟩
              cases b5 with
              | false =>
                obtain rfl : false = res := by rw [← hres2.out]; simp
                go_wp2_with fail
                go_ret
                exact ⟨rfl, LB.out⟩
              | true =>
                go_wp2_with fail
                refine (in_ count 0 32 _ b6 h6).mono ?_
                rintro e w' ⟨rfl, rfl⟩
                cases b6 with
                | false =>
                  obtain rfl : false = res := by rw [← hres2.out]; simp
                  go_wp2_with fail
                  go_ret
                  exact ⟨rfl, LB.out⟩
                | true =>
                  have hc := inB_true h6.out
                  go_wp2_with fail
                  refine (in_ bytes 0 (count * 128) _ b7 h7).mono ?_
                  rintro e w' ⟨rfl, rfl⟩
                  cases b7 with
                  | false =>
                    obtain rfl : false = res := by rw [← hres2.out]; simp
                    go_wp2_with fail
                    go_ret
                    exact ⟨rfl, LB.out⟩
                  | true =>
                    go_wp2_with fail
                    refine (in_ birth 0 time _ b8 h8).mono ?_
                    rintro e w' ⟨rfl, rfl⟩
                    cases b8 with
                    | false =>
                      obtain rfl : false = res := by rw [← hres2.out]; simp
                      go_wp2_with fail
                      go_ret
                      exact ⟨rfl, LB.out⟩
                    | true =>
                      obtain rfl : true = res := by rw [← hres2.out]; rfl
                      go_wp2_with fail
                      go_ret
                      exact ⟨rfl, LB.out⟩
end Go.Proofs.Yteidmdakglkkfaa
