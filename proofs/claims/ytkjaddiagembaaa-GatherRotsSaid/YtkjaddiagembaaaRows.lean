/-
  No cell of these rows narrows 'for every input' (looked for: loops, veiled, ifaces, maps, wideKeys, modest, calm, conditions, laid).
  DERIVED. THE GIVEN ROWS OF THIS SEAT. 4 by the template 'for every input the law returns true; each argument reads behind the call as it read before'; 0 by the template 'total and deterministic' (their statements: YtkjaddiagembaaaTotals.lean).
  GIVEN WITH THE SEED: the statements are not yours to turn. If you find one false, say at which input.
  Laid BY PROGRAM, IN A SANDBOX (cutbox-rows.mjs): the forced cells as the released guide's own fill.sh prints them over the translation adfa75d16b8970a2… (all of the seat's roots in one cut). By AI agents, Wed Nov 11 2026. No macro, syntax, notation, axiom, sorry.
-/
import Derived.Test.YtkjaddiagembaaaChecked
import GoSem.Claim
import GoSem.ClaimJoined
import GoSem.ClaimMapViews
import Derived.JoinedTies
import Derived.KernelRfl
namespace Go.Proofs.Ytkjaddiagembaaa
/- THE CELL 'sum', in the pinned program and in every row, IS THE sha256 OF THE DUMP (.gsa) THAT YtkjaddiagembaaaProg.lean LOADS. Nothing in Lean hashes anything: it is a label: what it is worth is what the hold of that sum in a sandbox is worth. -/
noncomputable def Try.pinned : Pinned := { name := "ytkjaddiagembaaa", sum := "adfa75d16b8970a2dae8110167432fcdc338cbaea62d9b276c2ba36126376c7c", checked := Try.checked }
namespace Rows
def none {H : Type} : Left H := { results := [], args := [] }

/-- 'quicksetkeep.GatherLost': WHATEVER THE INPUT: true; the input reads as it did. -/
def gatherLostSpec : ChangeSpec := { name := "gatherLost", fn := fun _ => fun
  | [d1, d2, d3, d4, d5] => { results := [.lit (.bool true)], args := [d1, d2, d3, d4, d5] }
  | _ => none }
def gatherLostRow : OpenClaim := { program := "ytkjaddiagembaaa", sum := "adfa75d16b8970a2dae8110167432fcdc338cbaea62d9b276c2ba36126376c7c", func := "quickset/quicksetkeep.GatherLost", spec := "gatherLost", unfollowed := true, recurses := true, apart := false }
def GatherLostSaid : Prop := gatherLostRow.holds Try.pinned (OpenSpec.ofChange gatherLostSpec)

/-- ITS FALSE NEIGHBOUR: 'it returns false'. Refute it at one input. -/
def gatherLostWrong : ChangeSpec := { name := "gatherLost", fn := fun _ => fun
  | [d1, d2, d3, d4, d5] => { results := [.lit (.bool false)], args := [d1, d2, d3, d4, d5] }
  | _ => none }
def GatherLostWrongFalsely : Prop := gatherLostRow.holds Try.pinned (OpenSpec.ofChange gatherLostWrong)

/-- 'quicksetkeep.GatherRots': WHATEVER THE INPUT: true; the input reads as it did. -/
def gatherRotsSpec : ChangeSpec := { name := "gatherRots", fn := fun _ => fun
  | [d1, d2, d3, d4, d5, d6, d7] => { results := [.lit (.bool true)], args := [d1, d2, d3, d4, d5, d6, d7] }
  | _ => none }
def gatherRotsRow : OpenClaim := { program := "ytkjaddiagembaaa", sum := "adfa75d16b8970a2dae8110167432fcdc338cbaea62d9b276c2ba36126376c7c", func := "quickset/quicksetkeep.GatherRots", spec := "gatherRots", unfollowed := true, recurses := true, apart := false }
def GatherRotsSaid : Prop := gatherRotsRow.holds Try.pinned (OpenSpec.ofChange gatherRotsSpec)

/-- ITS FALSE NEIGHBOUR: 'it returns false'. Refute it at one input. -/
def gatherRotsWrong : ChangeSpec := { name := "gatherRots", fn := fun _ => fun
  | [d1, d2, d3, d4, d5, d6, d7] => { results := [.lit (.bool false)], args := [d1, d2, d3, d4, d5, d6, d7] }
  | _ => none }
def GatherRotsWrongFalsely : Prop := gatherRotsRow.holds Try.pinned (OpenSpec.ofChange gatherRotsWrong)

/-- 'quicksetkeep.GatherWord': WHATEVER THE INPUT: true; the input reads as it did. -/
def gatherWordSpec : ChangeSpec := { name := "gatherWord", fn := fun _ => fun
  | [d1, d2, d3, d4, d5, d6, d7] => { results := [.lit (.bool true)], args := [d1, d2, d3, d4, d5, d6, d7] }
  | _ => none }
def gatherWordRow : OpenClaim := { program := "ytkjaddiagembaaa", sum := "adfa75d16b8970a2dae8110167432fcdc338cbaea62d9b276c2ba36126376c7c", func := "quickset/quicksetkeep.GatherWord", spec := "gatherWord", unfollowed := true, recurses := true, apart := false }
def GatherWordSaid : Prop := gatherWordRow.holds Try.pinned (OpenSpec.ofChange gatherWordSpec)

/-- ITS FALSE NEIGHBOUR: 'it returns false'. Refute it at one input. -/
def gatherWordWrong : ChangeSpec := { name := "gatherWord", fn := fun _ => fun
  | [d1, d2, d3, d4, d5, d6, d7] => { results := [.lit (.bool false)], args := [d1, d2, d3, d4, d5, d6, d7] }
  | _ => none }
def GatherWordWrongFalsely : Prop := gatherWordRow.holds Try.pinned (OpenSpec.ofChange gatherWordWrong)

/-- 'quicksetkeep.GatherMany': WHATEVER THE INPUT: true; the input reads as it did. -/
def gatherManySpec : ChangeSpec := { name := "gatherMany", fn := fun _ => fun
  | [d1, d2, d3, d4, d5] => { results := [.lit (.bool true)], args := [d1, d2, d3, d4, d5] }
  | _ => none }
def gatherManyRow : OpenClaim := { program := "ytkjaddiagembaaa", sum := "adfa75d16b8970a2dae8110167432fcdc338cbaea62d9b276c2ba36126376c7c", func := "quickset/quicksetkeep.GatherMany", spec := "gatherMany", unfollowed := true, recurses := true, apart := false }
def GatherManySaid : Prop := gatherManyRow.holds Try.pinned (OpenSpec.ofChange gatherManySpec)

/-- ITS FALSE NEIGHBOUR: 'it returns false'. Refute it at one input. -/
def gatherManyWrong : ChangeSpec := { name := "gatherMany", fn := fun _ => fun
  | [d1, d2, d3, d4, d5] => { results := [.lit (.bool false)], args := [d1, d2, d3, d4, d5] }
  | _ => none }
def GatherManyWrongFalsely : Prop := gatherManyRow.holds Try.pinned (OpenSpec.ofChange gatherManyWrong)

/- THE SECOND FORM. 'bulk': how many values and letters a reading holds, each counted each time it is reached (what is shared counts as often as it is met; a slice's spare places count too). A statement '..UptoSaid' is the law's where the arguments, and the package variables that the reading takes, are together of bulk at most 1048576: NARROWER than '..Said'. Prove '..Said' where nothing that the law and all that it calls make is longer than what came in: it says more and counts as full. Else prove '..UptoSaid'. A law counts once. -/
mutual
def uptoBulk {H : Type} : DataW H → Nat
  | .lit (.string bytes) => bytes.length + 1
  | .lit _ => 1
  | .nil => 1
  | .ptr d => uptoBulk d + 1
  | .slice elems spare => uptoBulkAll elems + uptoBulkAll spare + 1
  | .agg parts => uptoBulkAll parts + 1
  | .iface _ d => uptoBulk d + 1
  | .map entries => uptoBulkEntries entries + 1
  | .held _ => 1
def uptoBulkAll {H : Type} : List (DataW H) → Nat
  | [] => 0
  | d :: r => uptoBulk d + uptoBulkAll r
def uptoBulkEntries {H : Type} : List (Lit × DataW H) → Nat
  | [] => 0
  | x :: r => uptoBulkEntry x + uptoBulkEntries r
def uptoBulkEntry {H : Type} : Lit × DataW H → Nat
  | (.string bytes, d) => bytes.length + uptoBulk d + 1
  | (_, d) => uptoBulk d + 1
 end
def uptoSmall : (H : Type) → List (DataW H) → Bool := fun _ ds => decide (uptoBulkAll ds ≤ 1048576)
def OpenSpec.upto (s : _root_.Go.ChangeSpec) : _root_.Go.OpenSpec := { _root_.Go.OpenSpec.ofChange s with cond := some uptoSmall }

/-- 'quicksetkeep.GatherLost', WHERE WHAT IT READS IS OF BULK AT MOST 1048576: true; the input reads as it did. -/
def gatherLostUptoRow : OpenClaim := { program := "ytkjaddiagembaaa", sum := "adfa75d16b8970a2dae8110167432fcdc338cbaea62d9b276c2ba36126376c7c", func := "quickset/quicksetkeep.GatherLost", spec := "gatherLost", unfollowed := true, recurses := true, apart := false, narrowed := true }
def GatherLostUptoSaid : Prop := gatherLostUptoRow.holds Try.pinned (OpenSpec.upto gatherLostSpec)

/-- 'quicksetkeep.GatherRots', WHERE WHAT IT READS IS OF BULK AT MOST 1048576: true; the input reads as it did. -/
def gatherRotsUptoRow : OpenClaim := { program := "ytkjaddiagembaaa", sum := "adfa75d16b8970a2dae8110167432fcdc338cbaea62d9b276c2ba36126376c7c", func := "quickset/quicksetkeep.GatherRots", spec := "gatherRots", unfollowed := true, recurses := true, apart := false, narrowed := true }
def GatherRotsUptoSaid : Prop := gatherRotsUptoRow.holds Try.pinned (OpenSpec.upto gatherRotsSpec)

/-- 'quicksetkeep.GatherWord', WHERE WHAT IT READS IS OF BULK AT MOST 1048576: true; the input reads as it did. -/
def gatherWordUptoRow : OpenClaim := { program := "ytkjaddiagembaaa", sum := "adfa75d16b8970a2dae8110167432fcdc338cbaea62d9b276c2ba36126376c7c", func := "quickset/quicksetkeep.GatherWord", spec := "gatherWord", unfollowed := true, recurses := true, apart := false, narrowed := true }
def GatherWordUptoSaid : Prop := gatherWordUptoRow.holds Try.pinned (OpenSpec.upto gatherWordSpec)

/-- 'quicksetkeep.GatherMany', WHERE WHAT IT READS IS OF BULK AT MOST 1048576: true; the input reads as it did. -/
def gatherManyUptoRow : OpenClaim := { program := "ytkjaddiagembaaa", sum := "adfa75d16b8970a2dae8110167432fcdc338cbaea62d9b276c2ba36126376c7c", func := "quickset/quicksetkeep.GatherMany", spec := "gatherMany", unfollowed := true, recurses := true, apart := false, narrowed := true }
def GatherManyUptoSaid : Prop := gatherManyUptoRow.holds Try.pinned (OpenSpec.upto gatherManySpec)

end Rows
end Go.Proofs.Ytkjaddiagembaaa
