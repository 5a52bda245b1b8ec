/-
  No cell of these rows narrows 'for every input' (looked for: loops, veiled, ifaces, maps, wideKeys, modest, calm, conditions, laid).
  DERIVED. THE GIVEN ROWS OF THIS SEAT. 7 by the template 'for every input the law returns true; each argument reads behind the call as it read before'; 0 by the template 'total and deterministic' (their statements: YthjjfmnipemakaaTotals.lean).
  GIVEN WITH THE SEED: the statements are not yours to turn. If you find one false, say at which input.
  Laid BY PROGRAM, IN A SANDBOX (cutbox-rows.mjs): the forced cells as the released guide's own fill.sh prints them over the translation e2eff3269e8b1c66… (all of the seat's roots in one cut). By AI agents, Wed Nov 11 2026. No macro, syntax, notation, axiom, sorry.
-/
import Derived.Test.YthjjfmnipemakaaChecked
import GoSem.Claim
import GoSem.ClaimJoined
import GoSem.ClaimMapViews
import Derived.JoinedTies
import Derived.KernelRfl
namespace Go.Proofs.Ythjjfmnipemakaa
/- THE CELL 'sum', in the pinned program and in every row, IS THE sha256 OF THE DUMP (.gsa) THAT YthjjfmnipemakaaProg.lean LOADS. Nothing in Lean hashes anything: it is a label: what it is worth is what the hold of that sum in a sandbox is worth. -/
noncomputable def Try.pinned : Pinned := { name := "ythjjfmnipemakaa", sum := "e2eff3269e8b1c66966509e59bfafcd5fe318e4c84d86e50c4216572afcc2fda", checked := Try.checked }
namespace Rows
def none {H : Type} : Left H := { results := [], args := [] }

/-- 'quicksetkeep.TreeReads': WHATEVER THE INPUT: true; the input reads as it did. -/
def treeReadsSpec : ChangeSpec := { name := "treeReads", fn := fun _ => fun
  | [d1, d2, d3, d4] => { results := [.lit (.bool true)], args := [d1, d2, d3, d4] }
  | _ => none }
def treeReadsRow : OpenClaim := { program := "ythjjfmnipemakaa", sum := "e2eff3269e8b1c66966509e59bfafcd5fe318e4c84d86e50c4216572afcc2fda", func := "quickset/quicksetkeep.TreeReads", spec := "treeReads", recurses := true, apart := false }
def TreeReadsSaid : Prop := treeReadsRow.holds Try.pinned (OpenSpec.ofChange treeReadsSpec)

/-- ITS FALSE NEIGHBOUR: 'it returns false'. Refute it at one input. -/
def treeReadsWrong : ChangeSpec := { name := "treeReads", fn := fun _ => fun
  | [d1, d2, d3, d4] => { results := [.lit (.bool false)], args := [d1, d2, d3, d4] }
  | _ => none }
def TreeReadsWrongFalsely : Prop := treeReadsRow.holds Try.pinned (OpenSpec.ofChange treeReadsWrong)

/-- 'quicksetkeep.TreeShares': WHATEVER THE INPUT: true; the input reads as it did. -/
def treeSharesSpec : ChangeSpec := { name := "treeShares", fn := fun _ => fun
  | [d1, d2, d3, d4] => { results := [.lit (.bool true)], args := [d1, d2, d3, d4] }
  | _ => none }
def treeSharesRow : OpenClaim := { program := "ythjjfmnipemakaa", sum := "e2eff3269e8b1c66966509e59bfafcd5fe318e4c84d86e50c4216572afcc2fda", func := "quickset/quicksetkeep.TreeShares", spec := "treeShares", recurses := true, apart := false }
def TreeSharesSaid : Prop := treeSharesRow.holds Try.pinned (OpenSpec.ofChange treeSharesSpec)

/-- ITS FALSE NEIGHBOUR: 'it returns false'. Refute it at one input. -/
def treeSharesWrong : ChangeSpec := { name := "treeShares", fn := fun _ => fun
  | [d1, d2, d3, d4] => { results := [.lit (.bool false)], args := [d1, d2, d3, d4] }
  | _ => none }
def TreeSharesWrongFalsely : Prop := treeSharesRow.holds Try.pinned (OpenSpec.ofChange treeSharesWrong)

/-- 'quicksetkeep.TreeWhole': WHATEVER THE INPUT: true; the input reads as it did. -/
def treeWholeSpec : ChangeSpec := { name := "treeWhole", fn := fun _ => fun
  | [d1, d2] => { results := [.lit (.bool true)], args := [d1, d2] }
  | _ => none }
def treeWholeRow : OpenClaim := { program := "ythjjfmnipemakaa", sum := "e2eff3269e8b1c66966509e59bfafcd5fe318e4c84d86e50c4216572afcc2fda", func := "quickset/quicksetkeep.TreeWhole", spec := "treeWhole", recurses := true, apart := false }
def TreeWholeSaid : Prop := treeWholeRow.holds Try.pinned (OpenSpec.ofChange treeWholeSpec)

/-- ITS FALSE NEIGHBOUR: 'it returns false'. Refute it at one input. -/
def treeWholeWrong : ChangeSpec := { name := "treeWhole", fn := fun _ => fun
  | [d1, d2] => { results := [.lit (.bool false)], args := [d1, d2] }
  | _ => none }
def TreeWholeWrongFalsely : Prop := treeWholeRow.holds Try.pinned (OpenSpec.ofChange treeWholeWrong)

/-- 'quicksetkeep.TreeStays': WHATEVER THE INPUT: true; the input reads as it did. -/
def treeStaysSpec : ChangeSpec := { name := "treeStays", fn := fun _ => fun
  | [d1, d2, d3] => { results := [.lit (.bool true)], args := [d1, d2, d3] }
  | _ => none }
def treeStaysRow : OpenClaim := { program := "ythjjfmnipemakaa", sum := "e2eff3269e8b1c66966509e59bfafcd5fe318e4c84d86e50c4216572afcc2fda", func := "quickset/quicksetkeep.TreeStays", spec := "treeStays", recurses := true, apart := false }
def TreeStaysSaid : Prop := treeStaysRow.holds Try.pinned (OpenSpec.ofChange treeStaysSpec)

/-- ITS FALSE NEIGHBOUR: 'it returns false'. Refute it at one input. -/
def treeStaysWrong : ChangeSpec := { name := "treeStays", fn := fun _ => fun
  | [d1, d2, d3] => { results := [.lit (.bool false)], args := [d1, d2, d3] }
  | _ => none }
def TreeStaysWrongFalsely : Prop := treeStaysRow.holds Try.pinned (OpenSpec.ofChange treeStaysWrong)

/-- 'quicksetkeep.SnapSafe': WHATEVER THE INPUT: true; the input reads as it did. -/
def snapSafeSpec : ChangeSpec := { name := "snapSafe", fn := fun _ => fun
  | [d] => { results := [.lit (.bool true)], args := [d] }
  | _ => none }
def snapSafeRow : OpenClaim := { program := "ythjjfmnipemakaa", sum := "e2eff3269e8b1c66966509e59bfafcd5fe318e4c84d86e50c4216572afcc2fda", func := "quickset/quicksetkeep.SnapSafe", spec := "snapSafe", unfollowed := true, recurses := true, apart := false }
def SnapSafeSaid : Prop := snapSafeRow.holds Try.pinned (OpenSpec.ofChange snapSafeSpec)

/-- ITS FALSE NEIGHBOUR: 'it returns false'. Refute it at one input. -/
def snapSafeWrong : ChangeSpec := { name := "snapSafe", fn := fun _ => fun
  | [d] => { results := [.lit (.bool false)], args := [d] }
  | _ => none }
def SnapSafeWrongFalsely : Prop := snapSafeRow.holds Try.pinned (OpenSpec.ofChange snapSafeWrong)

/-- 'quicksetkeep.SnapAll': WHATEVER THE INPUT: true; the input reads as it did. -/
def snapAllSpec : ChangeSpec := { name := "snapAll", fn := fun _ => fun
  | [d] => { results := [.lit (.bool true)], args := [d] }
  | _ => none }
def snapAllRow : OpenClaim := { program := "ythjjfmnipemakaa", sum := "e2eff3269e8b1c66966509e59bfafcd5fe318e4c84d86e50c4216572afcc2fda", func := "quickset/quicksetkeep.SnapAll", spec := "snapAll", unfollowed := true, recurses := true, apart := false }
def SnapAllSaid : Prop := snapAllRow.holds Try.pinned (OpenSpec.ofChange snapAllSpec)

/-- ITS FALSE NEIGHBOUR: 'it returns false'. Refute it at one input. -/
def snapAllWrong : ChangeSpec := { name := "snapAll", fn := fun _ => fun
  | [d] => { results := [.lit (.bool false)], args := [d] }
  | _ => none }
def SnapAllWrongFalsely : Prop := snapAllRow.holds Try.pinned (OpenSpec.ofChange snapAllWrong)

/-- 'quicksetkeep.SnapBirths': WHATEVER THE INPUT: true; the input reads as it did. -/
def snapBirthsSpec : ChangeSpec := { name := "snapBirths", fn := fun _ => fun
  | [d] => { results := [.lit (.bool true)], args := [d] }
  | _ => none }
def snapBirthsRow : OpenClaim := { program := "ythjjfmnipemakaa", sum := "e2eff3269e8b1c66966509e59bfafcd5fe318e4c84d86e50c4216572afcc2fda", func := "quickset/quicksetkeep.SnapBirths", spec := "snapBirths", unfollowed := true, recurses := true, apart := false }
def SnapBirthsSaid : Prop := snapBirthsRow.holds Try.pinned (OpenSpec.ofChange snapBirthsSpec)

/-- ITS FALSE NEIGHBOUR: 'it returns false'. Refute it at one input. -/
def snapBirthsWrong : ChangeSpec := { name := "snapBirths", fn := fun _ => fun
  | [d] => { results := [.lit (.bool false)], args := [d] }
  | _ => none }
def SnapBirthsWrongFalsely : Prop := snapBirthsRow.holds Try.pinned (OpenSpec.ofChange snapBirthsWrong)

/- THE SECOND FORM. 'bulk': how many values and letters a reading holds, each counted each time it is reached (what is shared counts as often as it is met; a slice's spare places count too). A statement '..UptoSaid' is the law's where the arguments, and the package variables that the reading takes, are together of bulk at most 1048576: NARROWER than '..Said'. Prove '..Said' where nothing that the law and all that it calls make is longer than what came in: it says more and counts as full. Else prove '..UptoSaid'. A law counts once. -/
mutual
def uptoBulk {H : Type} : DataW H → Nat
  | .lit (.string bytes) => bytes.length + 1
  | .lit _ => 1
  | .nil => 1
  | .ptr d => uptoBulk d + 1
  | .slice elems spare => uptoBulkAll elems + uptoBulkAll spare + 1
  | .agg parts => uptoBulkAll parts + 1
  | .iface _ d => uptoBulk d + 1
  | .map entries => uptoBulkEntries entries + 1
  | .held _ => 1
def uptoBulkAll {H : Type} : List (DataW H) → Nat
  | [] => 0
  | d :: r => uptoBulk d + uptoBulkAll r
def uptoBulkEntries {H : Type} : List (Lit × DataW H) → Nat
  | [] => 0
  | x :: r => uptoBulkEntry x + uptoBulkEntries r
def uptoBulkEntry {H : Type} : Lit × DataW H → Nat
  | (.string bytes, d) => bytes.length + uptoBulk d + 1
  | (_, d) => uptoBulk d + 1
 end
def uptoSmall : (H : Type) → List (DataW H) → Bool := fun _ ds => decide (uptoBulkAll ds ≤ 1048576)
def OpenSpec.upto (s : _root_.Go.ChangeSpec) : _root_.Go.OpenSpec := { _root_.Go.OpenSpec.ofChange s with cond := some uptoSmall }

/-- 'quicksetkeep.TreeReads', WHERE WHAT IT READS IS OF BULK AT MOST 1048576: true; the input reads as it did. -/
def treeReadsUptoRow : OpenClaim := { program := "ythjjfmnipemakaa", sum := "e2eff3269e8b1c66966509e59bfafcd5fe318e4c84d86e50c4216572afcc2fda", func := "quickset/quicksetkeep.TreeReads", spec := "treeReads", recurses := true, apart := false, narrowed := true }
def TreeReadsUptoSaid : Prop := treeReadsUptoRow.holds Try.pinned (OpenSpec.upto treeReadsSpec)

/-- 'quicksetkeep.TreeShares', WHERE WHAT IT READS IS OF BULK AT MOST 1048576: true; the input reads as it did. -/
def treeSharesUptoRow : OpenClaim := { program := "ythjjfmnipemakaa", sum := "e2eff3269e8b1c66966509e59bfafcd5fe318e4c84d86e50c4216572afcc2fda", func := "quickset/quicksetkeep.TreeShares", spec := "treeShares", recurses := true, apart := false, narrowed := true }
def TreeSharesUptoSaid : Prop := treeSharesUptoRow.holds Try.pinned (OpenSpec.upto treeSharesSpec)

/-- 'quicksetkeep.TreeWhole', WHERE WHAT IT READS IS OF BULK AT MOST 1048576: true; the input reads as it did. -/
def treeWholeUptoRow : OpenClaim := { program := "ythjjfmnipemakaa", sum := "e2eff3269e8b1c66966509e59bfafcd5fe318e4c84d86e50c4216572afcc2fda", func := "quickset/quicksetkeep.TreeWhole", spec := "treeWhole", recurses := true, apart := false, narrowed := true }
def TreeWholeUptoSaid : Prop := treeWholeUptoRow.holds Try.pinned (OpenSpec.upto treeWholeSpec)

/-- 'quicksetkeep.TreeStays', WHERE WHAT IT READS IS OF BULK AT MOST 1048576: true; the input reads as it did. -/
def treeStaysUptoRow : OpenClaim := { program := "ythjjfmnipemakaa", sum := "e2eff3269e8b1c66966509e59bfafcd5fe318e4c84d86e50c4216572afcc2fda", func := "quickset/quicksetkeep.TreeStays", spec := "treeStays", recurses := true, apart := false, narrowed := true }
def TreeStaysUptoSaid : Prop := treeStaysUptoRow.holds Try.pinned (OpenSpec.upto treeStaysSpec)

/-- 'quicksetkeep.SnapSafe', WHERE WHAT IT READS IS OF BULK AT MOST 1048576: true; the input reads as it did. -/
def snapSafeUptoRow : OpenClaim := { program := "ythjjfmnipemakaa", sum := "e2eff3269e8b1c66966509e59bfafcd5fe318e4c84d86e50c4216572afcc2fda", func := "quickset/quicksetkeep.SnapSafe", spec := "snapSafe", unfollowed := true, recurses := true, apart := false, narrowed := true }
def SnapSafeUptoSaid : Prop := snapSafeUptoRow.holds Try.pinned (OpenSpec.upto snapSafeSpec)

/-- 'quicksetkeep.SnapAll', WHERE WHAT IT READS IS OF BULK AT MOST 1048576: true; the input reads as it did. -/
def snapAllUptoRow : OpenClaim := { program := "ythjjfmnipemakaa", sum := "e2eff3269e8b1c66966509e59bfafcd5fe318e4c84d86e50c4216572afcc2fda", func := "quickset/quicksetkeep.SnapAll", spec := "snapAll", unfollowed := true, recurses := true, apart := false, narrowed := true }
def SnapAllUptoSaid : Prop := snapAllUptoRow.holds Try.pinned (OpenSpec.upto snapAllSpec)

/-- 'quicksetkeep.SnapBirths', WHERE WHAT IT READS IS OF BULK AT MOST 1048576: true; the input reads as it did. -/
def snapBirthsUptoRow : OpenClaim := { program := "ythjjfmnipemakaa", sum := "e2eff3269e8b1c66966509e59bfafcd5fe318e4c84d86e50c4216572afcc2fda", func := "quickset/quicksetkeep.SnapBirths", spec := "snapBirths", unfollowed := true, recurses := true, apart := false, narrowed := true }
def SnapBirthsUptoSaid : Prop := snapBirthsUptoRow.holds Try.pinned (OpenSpec.upto snapBirthsSpec)

end Rows
end Go.Proofs.Ythjjfmnipemakaa
