/- The walk of field. -/
import Derived.Test.YtdonmdiebibabaaDoorLoA
namespace Go.Proofs.YtdonmdiebibabaaDoor
open Go.RowKit Go.Sort
set_option linter.unusedVariables false
set_option maxRecDepth 100000
set_option linter.unusedSimpArgs false

def Cmd.cells (c : Cmd) (a : Option Addr) (l k : Nat) : Array Value := #[.int .i64 c.kind, encStr c.name, encStr c.other, .int .i64 c.off, .int .i64 c.count, .int .i64 c.drive, .int .i64 c.keep, .slice a l k]
def ptr (g j : Nat) : Value := .pointer (some ⟨g, j, none⟩)
def fieldV (g : Nat) (x : UInt8) : Array Value :=
  #[if x = 110 then ptr g 1 else if x = 111 then ptr g 2 else .pointer none,
    if x = 102 then ptr g 3 else if x = 99 then ptr g 4 else if x = 100 then ptr g 5 else if x = 107 then ptr g 6 else .pointer none,
    if x = 120 then ptr g 7 else .pointer none]
set_option maxHeartbeats 8000000 in
theorem fieldW (g : Nat) (x : UInt8) (hx : x ∈ lettersAll) (w : World) : Calls Tryd.prog 28 #[.pointer (some ⟨g, 0, none⟩), .int .i32 (x.toNat : Int)] w fun e w' => e = .returned (.tuple (fieldV g x)) ∧ w' = w := by
  simp only [lettersAll, List.mem_cons, List.mem_nil_iff, or_false] at hx
  rcases hx with rfl | rfl | rfl | rfl | rfl | rfl | rfl
  all_goals
    go_enter Tryd.func28, Tryd.ntmps28
    go_wp2_with fail
    exact bodyPost_ret (results_tmp3 Tryd.results28 _ _ _) rfl ⟨rfl, rfl⟩
end Go.Proofs.YtdonmdiebibabaaDoor
