/-
  No cell of these rows narrows 'for every input' (looked for: loops, veiled, ifaces, maps, wideKeys, modest, calm, conditions, laid).
  DERIVED. THE GIVEN ROWS OF THIS SEAT. 12 by the template 'for every input the law returns true; each argument reads behind the call as it read before'; 0 by the template 'total and deterministic' (their statements: YtkfjkdonbmjniaaTotals.lean).
  GIVEN WITH THE SEED: the statements are not yours to turn. If you find one false, say at which input.
  Laid BY PROGRAM, IN A SANDBOX (cutbox-rows.mjs): the forced cells as the released guide's own fill.sh prints them over the translation 013aca912ee4c2d5… (all of the seat's roots in one cut). By AI agents, Wed Nov 11 2026. No macro, syntax, notation, axiom, sorry.
-/
import Derived.Test.YtkfjkdonbmjniaaChecked
import GoSem.Claim
import GoSem.ClaimJoined
import GoSem.ClaimMapViews
import Derived.JoinedTies
import Derived.KernelRfl
namespace Go.Proofs.Ytkfjkdonbmjniaa
/- THE CELL 'sum', in the pinned program and in every row, IS THE sha256 OF THE DUMP (.gsa) THAT YtkfjkdonbmjniaaProg.lean LOADS. Nothing in Lean hashes anything: it is a label: what it is worth is what the hold of that sum in a sandbox is worth. -/
noncomputable def Try.pinned : Pinned := { name := "ytkfjkdonbmjniaa", sum := "013aca912ee4c2d5acd913873232daeb8d3395b0b24ae71c22a06c3e7014ba20", checked := Try.checked }
namespace Rows
def none {H : Type} : Left H := { results := [], args := [] }

/-- 'quicksetkeep.GfField': WHATEVER THE INPUT: true; the input reads as it did. -/
def gfFieldSpec : ChangeSpec := { name := "gfField", fn := fun _ => fun
  | [d1, d2, d3] => { results := [.lit (.bool true)], args := [d1, d2, d3] }
  | _ => none }
def gfFieldRow : OpenClaim := { program := "ytkfjkdonbmjniaa", sum := "013aca912ee4c2d5acd913873232daeb8d3395b0b24ae71c22a06c3e7014ba20", func := "quickset/quicksetkeep.GfField", spec := "gfField", apart := false }
def GfFieldSaid : Prop := gfFieldRow.holds Try.pinned (OpenSpec.ofChange gfFieldSpec)

/-- ITS FALSE NEIGHBOUR: 'it returns false'. Refute it at one input. -/
def gfFieldWrong : ChangeSpec := { name := "gfField", fn := fun _ => fun
  | [d1, d2, d3] => { results := [.lit (.bool false)], args := [d1, d2, d3] }
  | _ => none }
def GfFieldWrongFalsely : Prop := gfFieldRow.holds Try.pinned (OpenSpec.ofChange gfFieldWrong)

/-- 'quicksetkeep.GfPowers': WHATEVER THE INPUT: true; the input reads as it did. -/
def gfPowersSpec : ChangeSpec := { name := "gfPowers", fn := fun _ => fun
  | [d1, d2, d3] => { results := [.lit (.bool true)], args := [d1, d2, d3] }
  | _ => none }
def gfPowersRow : OpenClaim := { program := "ytkfjkdonbmjniaa", sum := "013aca912ee4c2d5acd913873232daeb8d3395b0b24ae71c22a06c3e7014ba20", func := "quickset/quicksetkeep.GfPowers", spec := "gfPowers", apart := false }
def GfPowersSaid : Prop := gfPowersRow.holds Try.pinned (OpenSpec.ofChange gfPowersSpec)

/-- ITS FALSE NEIGHBOUR: 'it returns false'. Refute it at one input. -/
def gfPowersWrong : ChangeSpec := { name := "gfPowers", fn := fun _ => fun
  | [d1, d2, d3] => { results := [.lit (.bool false)], args := [d1, d2, d3] }
  | _ => none }
def GfPowersWrongFalsely : Prop := gfPowersRow.holds Try.pinned (OpenSpec.ofChange gfPowersWrong)

/-- 'quicksetkeep.GfInverse': WHATEVER THE INPUT: true; the input reads as it did. -/
def gfInverseSpec : ChangeSpec := { name := "gfInverse", fn := fun _ => fun
  | [d1, d2] => { results := [.lit (.bool true)], args := [d1, d2] }
  | _ => none }
def gfInverseRow : OpenClaim := { program := "ytkfjkdonbmjniaa", sum := "013aca912ee4c2d5acd913873232daeb8d3395b0b24ae71c22a06c3e7014ba20", func := "quickset/quicksetkeep.GfInverse", spec := "gfInverse", apart := false }
def GfInverseSaid : Prop := gfInverseRow.holds Try.pinned (OpenSpec.ofChange gfInverseSpec)

/-- ITS FALSE NEIGHBOUR: 'it returns false'. Refute it at one input. -/
def gfInverseWrong : ChangeSpec := { name := "gfInverse", fn := fun _ => fun
  | [d1, d2] => { results := [.lit (.bool false)], args := [d1, d2] }
  | _ => none }
def GfInverseWrongFalsely : Prop := gfInverseRow.holds Try.pinned (OpenSpec.ofChange gfInverseWrong)

/-- 'quicksetkeep.GfLogBack': WHATEVER THE INPUT: true; the input reads as it did. -/
def gfLogBackSpec : ChangeSpec := { name := "gfLogBack", fn := fun _ => fun
  | [d1, d2] => { results := [.lit (.bool true)], args := [d1, d2] }
  | _ => none }
def gfLogBackRow : OpenClaim := { program := "ytkfjkdonbmjniaa", sum := "013aca912ee4c2d5acd913873232daeb8d3395b0b24ae71c22a06c3e7014ba20", func := "quickset/quicksetkeep.GfLogBack", spec := "gfLogBack", apart := false }
def GfLogBackSaid : Prop := gfLogBackRow.holds Try.pinned (OpenSpec.ofChange gfLogBackSpec)

/-- ITS FALSE NEIGHBOUR: 'it returns false'. Refute it at one input. -/
def gfLogBackWrong : ChangeSpec := { name := "gfLogBack", fn := fun _ => fun
  | [d1, d2] => { results := [.lit (.bool false)], args := [d1, d2] }
  | _ => none }
def GfLogBackWrongFalsely : Prop := gfLogBackRow.holds Try.pinned (OpenSpec.ofChange gfLogBackWrong)

/-- 'quicksetkeep.MatTogether': WHATEVER THE INPUT: true; the input reads as it did. -/
def matTogetherSpec : ChangeSpec := { name := "matTogether", fn := fun _ => fun
  | [d1, d2, d3, d4, d5, d6, d7] => { results := [.lit (.bool true)], args := [d1, d2, d3, d4, d5, d6, d7] }
  | _ => none }
def matTogetherRow : OpenClaim := { program := "ytkfjkdonbmjniaa", sum := "013aca912ee4c2d5acd913873232daeb8d3395b0b24ae71c22a06c3e7014ba20", func := "quickset/quicksetkeep.MatTogether", spec := "matTogether", unfollowed := true, recurses := true, apart := false }
def MatTogetherSaid : Prop := matTogetherRow.holds Try.pinned (OpenSpec.ofChange matTogetherSpec)

/-- ITS FALSE NEIGHBOUR: 'it returns false'. Refute it at one input. -/
def matTogetherWrong : ChangeSpec := { name := "matTogether", fn := fun _ => fun
  | [d1, d2, d3, d4, d5, d6, d7] => { results := [.lit (.bool false)], args := [d1, d2, d3, d4, d5, d6, d7] }
  | _ => none }
def MatTogetherWrongFalsely : Prop := matTogetherRow.holds Try.pinned (OpenSpec.ofChange matTogetherWrong)

/-- 'quicksetkeep.MatPowers': WHATEVER THE INPUT: true; the input reads as it did. -/
def matPowersSpec : ChangeSpec := { name := "matPowers", fn := fun _ => fun
  | [d1, d2] => { results := [.lit (.bool true)], args := [d1, d2] }
  | _ => none }
def matPowersRow : OpenClaim := { program := "ytkfjkdonbmjniaa", sum := "013aca912ee4c2d5acd913873232daeb8d3395b0b24ae71c22a06c3e7014ba20", func := "quickset/quicksetkeep.MatPowers", spec := "matPowers", unfollowed := true, recurses := true, apart := false }
def MatPowersSaid : Prop := matPowersRow.holds Try.pinned (OpenSpec.ofChange matPowersSpec)

/-- ITS FALSE NEIGHBOUR: 'it returns false'. Refute it at one input. -/
def matPowersWrong : ChangeSpec := { name := "matPowers", fn := fun _ => fun
  | [d1, d2] => { results := [.lit (.bool false)], args := [d1, d2] }
  | _ => none }
def MatPowersWrongFalsely : Prop := matPowersRow.holds Try.pinned (OpenSpec.ofChange matPowersWrong)

/-- 'quicksetkeep.MatBoth': WHATEVER THE INPUT: true; the input reads as it did. -/
def matBothSpec : ChangeSpec := { name := "matBoth", fn := fun _ => fun
  | [d1, d2] => { results := [.lit (.bool true)], args := [d1, d2] }
  | _ => none }
def matBothRow : OpenClaim := { program := "ytkfjkdonbmjniaa", sum := "013aca912ee4c2d5acd913873232daeb8d3395b0b24ae71c22a06c3e7014ba20", func := "quickset/quicksetkeep.MatBoth", spec := "matBoth", unfollowed := true, recurses := true, apart := false }
def MatBothSaid : Prop := matBothRow.holds Try.pinned (OpenSpec.ofChange matBothSpec)

/-- ITS FALSE NEIGHBOUR: 'it returns false'. Refute it at one input. -/
def matBothWrong : ChangeSpec := { name := "matBoth", fn := fun _ => fun
  | [d1, d2] => { results := [.lit (.bool false)], args := [d1, d2] }
  | _ => none }
def MatBothWrongFalsely : Prop := matBothRow.holds Try.pinned (OpenSpec.ofChange matBothWrong)

/-- 'quicksetkeep.MatProduct': WHATEVER THE INPUT: true; the input reads as it did. -/
def matProductSpec : ChangeSpec := { name := "matProduct", fn := fun _ => fun
  | [d1, d2, d3] => { results := [.lit (.bool true)], args := [d1, d2, d3] }
  | _ => none }
def matProductRow : OpenClaim := { program := "ytkfjkdonbmjniaa", sum := "013aca912ee4c2d5acd913873232daeb8d3395b0b24ae71c22a06c3e7014ba20", func := "quickset/quicksetkeep.MatProduct", spec := "matProduct", unfollowed := true, recurses := true, apart := false }
def MatProductSaid : Prop := matProductRow.holds Try.pinned (OpenSpec.ofChange matProductSpec)

/-- ITS FALSE NEIGHBOUR: 'it returns false'. Refute it at one input. -/
def matProductWrong : ChangeSpec := { name := "matProduct", fn := fun _ => fun
  | [d1, d2, d3] => { results := [.lit (.bool false)], args := [d1, d2, d3] }
  | _ => none }
def MatProductWrongFalsely : Prop := matProductRow.holds Try.pinned (OpenSpec.ofChange matProductWrong)

/-- 'quicksetkeep.EncodeSums': WHATEVER THE INPUT: true; the input reads as it did. -/
def encodeSumsSpec : ChangeSpec := { name := "encodeSums", fn := fun _ => fun
  | [d1, d2, d3, d4] => { results := [.lit (.bool true)], args := [d1, d2, d3, d4] }
  | _ => none }
def encodeSumsRow : OpenClaim := { program := "ytkfjkdonbmjniaa", sum := "013aca912ee4c2d5acd913873232daeb8d3395b0b24ae71c22a06c3e7014ba20", func := "quickset/quicksetkeep.EncodeSums", spec := "encodeSums", unfollowed := true, recurses := true, apart := false }
def EncodeSumsSaid : Prop := encodeSumsRow.holds Try.pinned (OpenSpec.ofChange encodeSumsSpec)

/-- ITS FALSE NEIGHBOUR: 'it returns false'. Refute it at one input. -/
def encodeSumsWrong : ChangeSpec := { name := "encodeSums", fn := fun _ => fun
  | [d1, d2, d3, d4] => { results := [.lit (.bool false)], args := [d1, d2, d3, d4] }
  | _ => none }
def EncodeSumsWrongFalsely : Prop := encodeSumsRow.holds Try.pinned (OpenSpec.ofChange encodeSumsWrong)

/-- 'quicksetkeep.EncodeTouches': WHATEVER THE INPUT: true; the input reads as it did. -/
def encodeTouchesSpec : ChangeSpec := { name := "encodeTouches", fn := fun _ => fun
  | [d1, d2, d3, d4, d5, d6] => { results := [.lit (.bool true)], args := [d1, d2, d3, d4, d5, d6] }
  | _ => none }
def encodeTouchesRow : OpenClaim := { program := "ytkfjkdonbmjniaa", sum := "013aca912ee4c2d5acd913873232daeb8d3395b0b24ae71c22a06c3e7014ba20", func := "quickset/quicksetkeep.EncodeTouches", spec := "encodeTouches", unfollowed := true, recurses := true, apart := false }
def EncodeTouchesSaid : Prop := encodeTouchesRow.holds Try.pinned (OpenSpec.ofChange encodeTouchesSpec)

/-- ITS FALSE NEIGHBOUR: 'it returns false'. Refute it at one input. -/
def encodeTouchesWrong : ChangeSpec := { name := "encodeTouches", fn := fun _ => fun
  | [d1, d2, d3, d4, d5, d6] => { results := [.lit (.bool false)], args := [d1, d2, d3, d4, d5, d6] }
  | _ => none }
def EncodeTouchesWrongFalsely : Prop := encodeTouchesRow.holds Try.pinned (OpenSpec.ofChange encodeTouchesWrong)

/-- 'quicksetkeep.RebuildAll': WHATEVER THE INPUT: true; the input reads as it did. -/
def rebuildAllSpec : ChangeSpec := { name := "rebuildAll", fn := fun _ => fun
  | [d1, d2, d3, d4, d5] => { results := [.lit (.bool true)], args := [d1, d2, d3, d4, d5] }
  | _ => none }
def rebuildAllRow : OpenClaim := { program := "ytkfjkdonbmjniaa", sum := "013aca912ee4c2d5acd913873232daeb8d3395b0b24ae71c22a06c3e7014ba20", func := "quickset/quicksetkeep.RebuildAll", spec := "rebuildAll", unfollowed := true, recurses := true, apart := false }
def RebuildAllSaid : Prop := rebuildAllRow.holds Try.pinned (OpenSpec.ofChange rebuildAllSpec)

/-- ITS FALSE NEIGHBOUR: 'it returns false'. Refute it at one input. -/
def rebuildAllWrong : ChangeSpec := { name := "rebuildAll", fn := fun _ => fun
  | [d1, d2, d3, d4, d5] => { results := [.lit (.bool false)], args := [d1, d2, d3, d4, d5] }
  | _ => none }
def RebuildAllWrongFalsely : Prop := rebuildAllRow.holds Try.pinned (OpenSpec.ofChange rebuildAllWrong)

/-- 'quicksetkeep.RebuildMany': WHATEVER THE INPUT: true; the input reads as it did. -/
def rebuildManySpec : ChangeSpec := { name := "rebuildMany", fn := fun _ => fun
  | [d1, d2, d3, d4] => { results := [.lit (.bool true)], args := [d1, d2, d3, d4] }
  | _ => none }
def rebuildManyRow : OpenClaim := { program := "ytkfjkdonbmjniaa", sum := "013aca912ee4c2d5acd913873232daeb8d3395b0b24ae71c22a06c3e7014ba20", func := "quickset/quicksetkeep.RebuildMany", spec := "rebuildMany", unfollowed := true, recurses := true, apart := false }
def RebuildManySaid : Prop := rebuildManyRow.holds Try.pinned (OpenSpec.ofChange rebuildManySpec)

/-- ITS FALSE NEIGHBOUR: 'it returns false'. Refute it at one input. -/
def rebuildManyWrong : ChangeSpec := { name := "rebuildMany", fn := fun _ => fun
  | [d1, d2, d3, d4] => { results := [.lit (.bool false)], args := [d1, d2, d3, d4] }
  | _ => none }
def RebuildManyWrongFalsely : Prop := rebuildManyRow.holds Try.pinned (OpenSpec.ofChange rebuildManyWrong)

/- THE SECOND FORM. 'bulk': how many values and letters a reading holds, each counted each time it is reached (what is shared counts as often as it is met; a slice's spare places count too). A statement '..UptoSaid' is the law's where the arguments, and the package variables that the reading takes, are together of bulk at most 1048576: NARROWER than '..Said'. Prove '..Said' where nothing that the law and all that it calls make is longer than what came in: it says more and counts as full. Else prove '..UptoSaid'. A law counts once. -/
mutual
def uptoBulk {H : Type} : DataW H → Nat
  | .lit (.string bytes) => bytes.length + 1
  | .lit _ => 1
  | .nil => 1
  | .ptr d => uptoBulk d + 1
  | .slice elems spare => uptoBulkAll elems + uptoBulkAll spare + 1
  | .agg parts => uptoBulkAll parts + 1
  | .iface _ d => uptoBulk d + 1
  | .map entries => uptoBulkEntries entries + 1
  | .held _ => 1
def uptoBulkAll {H : Type} : List (DataW H) → Nat
  | [] => 0
  | d :: r => uptoBulk d + uptoBulkAll r
def uptoBulkEntries {H : Type} : List (Lit × DataW H) → Nat
  | [] => 0
  | x :: r => uptoBulkEntry x + uptoBulkEntries r
def uptoBulkEntry {H : Type} : Lit × DataW H → Nat
  | (.string bytes, d) => bytes.length + uptoBulk d + 1
  | (_, d) => uptoBulk d + 1
 end
def uptoSmall : (H : Type) → List (DataW H) → Bool := fun _ ds => decide (uptoBulkAll ds ≤ 1048576)
def OpenSpec.upto (s : _root_.Go.ChangeSpec) : _root_.Go.OpenSpec := { _root_.Go.OpenSpec.ofChange s with cond := some uptoSmall }

/-- 'quicksetkeep.GfField', WHERE WHAT IT READS IS OF BULK AT MOST 1048576: true; the input reads as it did. -/
def gfFieldUptoRow : OpenClaim := { program := "ytkfjkdonbmjniaa", sum := "013aca912ee4c2d5acd913873232daeb8d3395b0b24ae71c22a06c3e7014ba20", func := "quickset/quicksetkeep.GfField", spec := "gfField", apart := false, narrowed := true }
def GfFieldUptoSaid : Prop := gfFieldUptoRow.holds Try.pinned (OpenSpec.upto gfFieldSpec)

/-- 'quicksetkeep.GfPowers', WHERE WHAT IT READS IS OF BULK AT MOST 1048576: true; the input reads as it did. -/
def gfPowersUptoRow : OpenClaim := { program := "ytkfjkdonbmjniaa", sum := "013aca912ee4c2d5acd913873232daeb8d3395b0b24ae71c22a06c3e7014ba20", func := "quickset/quicksetkeep.GfPowers", spec := "gfPowers", apart := false, narrowed := true }
def GfPowersUptoSaid : Prop := gfPowersUptoRow.holds Try.pinned (OpenSpec.upto gfPowersSpec)

/-- 'quicksetkeep.GfInverse', WHERE WHAT IT READS IS OF BULK AT MOST 1048576: true; the input reads as it did. -/
def gfInverseUptoRow : OpenClaim := { program := "ytkfjkdonbmjniaa", sum := "013aca912ee4c2d5acd913873232daeb8d3395b0b24ae71c22a06c3e7014ba20", func := "quickset/quicksetkeep.GfInverse", spec := "gfInverse", apart := false, narrowed := true }
def GfInverseUptoSaid : Prop := gfInverseUptoRow.holds Try.pinned (OpenSpec.upto gfInverseSpec)

/-- 'quicksetkeep.GfLogBack', WHERE WHAT IT READS IS OF BULK AT MOST 1048576: true; the input reads as it did. -/
def gfLogBackUptoRow : OpenClaim := { program := "ytkfjkdonbmjniaa", sum := "013aca912ee4c2d5acd913873232daeb8d3395b0b24ae71c22a06c3e7014ba20", func := "quickset/quicksetkeep.GfLogBack", spec := "gfLogBack", apart := false, narrowed := true }
def GfLogBackUptoSaid : Prop := gfLogBackUptoRow.holds Try.pinned (OpenSpec.upto gfLogBackSpec)

/-- 'quicksetkeep.MatTogether', WHERE WHAT IT READS IS OF BULK AT MOST 1048576: true; the input reads as it did. -/
def matTogetherUptoRow : OpenClaim := { program := "ytkfjkdonbmjniaa", sum := "013aca912ee4c2d5acd913873232daeb8d3395b0b24ae71c22a06c3e7014ba20", func := "quickset/quicksetkeep.MatTogether", spec := "matTogether", unfollowed := true, recurses := true, apart := false, narrowed := true }
def MatTogetherUptoSaid : Prop := matTogetherUptoRow.holds Try.pinned (OpenSpec.upto matTogetherSpec)

/-- 'quicksetkeep.MatPowers', WHERE WHAT IT READS IS OF BULK AT MOST 1048576: true; the input reads as it did. -/
def matPowersUptoRow : OpenClaim := { program := "ytkfjkdonbmjniaa", sum := "013aca912ee4c2d5acd913873232daeb8d3395b0b24ae71c22a06c3e7014ba20", func := "quickset/quicksetkeep.MatPowers", spec := "matPowers", unfollowed := true, recurses := true, apart := false, narrowed := true }
def MatPowersUptoSaid : Prop := matPowersUptoRow.holds Try.pinned (OpenSpec.upto matPowersSpec)

/-- 'quicksetkeep.MatBoth', WHERE WHAT IT READS IS OF BULK AT MOST 1048576: true; the input reads as it did. -/
def matBothUptoRow : OpenClaim := { program := "ytkfjkdonbmjniaa", sum := "013aca912ee4c2d5acd913873232daeb8d3395b0b24ae71c22a06c3e7014ba20", func := "quickset/quicksetkeep.MatBoth", spec := "matBoth", unfollowed := true, recurses := true, apart := false, narrowed := true }
def MatBothUptoSaid : Prop := matBothUptoRow.holds Try.pinned (OpenSpec.upto matBothSpec)

/-- 'quicksetkeep.MatProduct', WHERE WHAT IT READS IS OF BULK AT MOST 1048576: true; the input reads as it did. -/
def matProductUptoRow : OpenClaim := { program := "ytkfjkdonbmjniaa", sum := "013aca912ee4c2d5acd913873232daeb8d3395b0b24ae71c22a06c3e7014ba20", func := "quickset/quicksetkeep.MatProduct", spec := "matProduct", unfollowed := true, recurses := true, apart := false, narrowed := true }
def MatProductUptoSaid : Prop := matProductUptoRow.holds Try.pinned (OpenSpec.upto matProductSpec)

/-- 'quicksetkeep.EncodeSums', WHERE WHAT IT READS IS OF BULK AT MOST 1048576: true; the input reads as it did. -/
def encodeSumsUptoRow : OpenClaim := { program := "ytkfjkdonbmjniaa", sum := "013aca912ee4c2d5acd913873232daeb8d3395b0b24ae71c22a06c3e7014ba20", func := "quickset/quicksetkeep.EncodeSums", spec := "encodeSums", unfollowed := true, recurses := true, apart := false, narrowed := true }
def EncodeSumsUptoSaid : Prop := encodeSumsUptoRow.holds Try.pinned (OpenSpec.upto encodeSumsSpec)

/-- 'quicksetkeep.EncodeTouches', WHERE WHAT IT READS IS OF BULK AT MOST 1048576: true; the input reads as it did. -/
def encodeTouchesUptoRow : OpenClaim := { program := "ytkfjkdonbmjniaa", sum := "013aca912ee4c2d5acd913873232daeb8d3395b0b24ae71c22a06c3e7014ba20", func := "quickset/quicksetkeep.EncodeTouches", spec := "encodeTouches", unfollowed := true, recurses := true, apart := false, narrowed := true }
def EncodeTouchesUptoSaid : Prop := encodeTouchesUptoRow.holds Try.pinned (OpenSpec.upto encodeTouchesSpec)

/-- 'quicksetkeep.RebuildAll', WHERE WHAT IT READS IS OF BULK AT MOST 1048576: true; the input reads as it did. -/
def rebuildAllUptoRow : OpenClaim := { program := "ytkfjkdonbmjniaa", sum := "013aca912ee4c2d5acd913873232daeb8d3395b0b24ae71c22a06c3e7014ba20", func := "quickset/quicksetkeep.RebuildAll", spec := "rebuildAll", unfollowed := true, recurses := true, apart := false, narrowed := true }
def RebuildAllUptoSaid : Prop := rebuildAllUptoRow.holds Try.pinned (OpenSpec.upto rebuildAllSpec)

/-- 'quicksetkeep.RebuildMany', WHERE WHAT IT READS IS OF BULK AT MOST 1048576: true; the input reads as it did. -/
def rebuildManyUptoRow : OpenClaim := { program := "ytkfjkdonbmjniaa", sum := "013aca912ee4c2d5acd913873232daeb8d3395b0b24ae71c22a06c3e7014ba20", func := "quickset/quicksetkeep.RebuildMany", spec := "rebuildMany", unfollowed := true, recurses := true, apart := false, narrowed := true }
def RebuildManyUptoSaid : Prop := rebuildManyUptoRow.holds Try.pinned (OpenSpec.upto rebuildManySpec)

end Rows
end Go.Proofs.Ytkfjkdonbmjniaa
