/- make, with room alone. -/
import Derived.Test.YtjnheahhlopbfaaOwnMake
namespace Go.Proofs.Ytjnheahhlopbfaa
open Go.RowKit
set_option linter.unusedVariables false

theorem wpList_make_room {P : Program} {w : World} {ops : Array Oper} {rest : List Oper} {o : Oper} {act : Act} {Q : Exit → Act → World → Prop}
    (hg : o.guard = none) (l c : Operand) (t : TypeId) (hop : o.op = Op.makeSlice t l c) (e : TypeId) (z : Value) (bytes : Nat) (h1 : P.underlying t = some (.slice e)) (hi : (P.info? e).map (fun i => (i.zero, i.size, i.bytes)) = some (some z, 1, bytes)) (hzc : z.cells = #[z])
    (kl kc : IntKind) (n : Nat) (hl : act.eval l = .int kl 0) (hc : act.eval c = .int kc (n : Int)) (b2 : bytes * n ≤ 281474976710656) (b3 : n ≤ maxLen)
    (hK : Box (w.alloc (.cells (List.replicate n z).toArray e)) w.heap.size (List.replicate n z).toArray e → wpList P ops Q rest (act.put o.dst (.slice (some ⟨w.heap.size, 0, none⟩) 0 n)) (w.alloc (.cells (List.replicate n z).toArray e))) :
    wpList P ops Q (o :: rest) act w := by
  obtain ⟨i, hi0, hz, hsize, hby⟩ := info_parts hi
  subst hby
  refine wpList_plain hg fun K hK' => ?_
  have b3' : (n : Int) ≤ 9223372036854775807 := by unfold maxLen at b3; omega
  have b2' : (i.bytes : Int) * (n : Int) ≤ 281474976710656 := by
    have h : ((i.bytes * n : Nat) : Int) ≤ 281474976710656 := by omega
    rwa [Int.natCast_mul] at h
  have hr := run_make (P := P) w t e i z h1 hi0 hz kl kc 0 n (Int.le_refl _) (by omega) b2' b3'
  simp only [Int.toNat_zero, Int.toNat_natCast] at hr
  have hm : madeCells z.cells (n * i.size) = (List.replicate n z).toArray := by
    rw [hsize, Nat.mul_one, hzc]
    exact Array.toList_inj.1 (by rw [toList_madeCells_one])
  rw [hm] at hr
  unfold Oper.wp
  simp [execOp, hop, hl, hc, hr, Result.andThen]
  exact hK' _ _ (by simpa using hK (Box.new rfl))
end Go.Proofs.Ytjnheahhlopbfaa
