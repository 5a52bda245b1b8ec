/- Texts that belong together: ItR, OwnStep, CombN, CombQ. -/
import Derived.Test.YtkjaddiagembaaaZ3
import Derived.Test.YtkjaddiagembaaaZ16
import Derived.Test.YtkjaddiagembaaaZ5
/- make, with room alone. -/
namespace Go.Proofs.Ytkjaddiagembaaa
open Go.RowKit
set_option linter.unusedVariables false

theorem wpList_make_room {P : Program} {w : World} {ops : Array Oper} {rest : List Oper} {o : Oper} {act : Act} {Q : Exit → Act → World → Prop}
    (hg : o.guard = none) (l c : Operand) (t : TypeId) (hop : o.op = Op.makeSlice t l c) (e : TypeId) (z : Value) (bytes : Nat) (h1 : P.underlying t = some (.slice e)) (hi : (P.info? e).map (fun i => (i.zero, i.size, i.bytes)) = some (some z, 1, bytes)) (hzc : z.cells = #[z])
    (kl kc : IntKind) (n : Nat) (hl : act.eval l = .int kl 0) (hc : act.eval c = .int kc (n : Int)) (b2 : bytes * n ≤ 281474976710656) (b3 : n ≤ maxLen)
    (hK : Box (w.alloc (.cells (List.replicate n z).toArray e)) w.heap.size (List.replicate n z).toArray e → wpList P ops Q rest (act.put o.dst (.slice (some ⟨w.heap.size, 0, none⟩) 0 n)) (w.alloc (.cells (List.replicate n z).toArray e))) :
    wpList P ops Q (o :: rest) act w := by
  obtain ⟨i, hi0, hz, hsize, hby⟩ := info_parts hi
  subst hby
  refine wpList_plain hg fun K hK' => ?_
  have b3' : (n : Int) ≤ 9223372036854775807 := by unfold maxLen at b3; omega
  have b2' : (i.bytes : Int) * (n : Int) ≤ 281474976710656 := by
    have h : ((i.bytes * n : Nat) : Int) ≤ 281474976710656 := by omega
    rwa [Int.natCast_mul] at h
  have hr := run_make (P := P) w t e i z h1 hi0 hz kl kc 0 n (Int.le_refl _) (by omega) b2' b3'
  simp only [Int.toNat_zero, Int.toNat_natCast] at hr
  have hm : madeCells z.cells (n * i.size) = (List.replicate n z).toArray := by
    rw [hsize, Nat.mul_one, hzc]
    exact Array.toList_inj.1 (by rw [toList_madeCells_one])
  rw [hm] at hr
  unfold Oper.wp
  simp [execOp, hop, hl, hc, hr, Result.andThen]
  exact hK' _ _ (by simpa using hK (Box.new rfl))
end Go.Proofs.Ytkjaddiagembaaa
/- Append onto a slice of the call's own, as one step of a region that draws its order; pieces of slices, their addresses written out. -/
namespace Go.Proofs.Ytkjaddiagembaaa
open Go.RowKit
set_option linter.unusedVariables false

theorem run_append_any {P : Program} (w : World) (base : Nat) (t ty e : TypeId) (z : Value) (size bytes : Nat) (ht : P.underlying t = some (.slice e)) (hi : (P.info? e).map (fun i => (i.zero, i.size, i.bytes)) = some (some z, size, bytes)) (hzs : z.cells.size = size) (hsz : 0 < size)
    (a : Option Addr) (len cap : Nat) (vs : List Value) (hown : Own w base e size a len cap vs) (a2 : Option Addr) (len2 cap2 : Nat) (us : List Value) (hrow : VRow w size a2 len2 cap2 us) (h1 : ∀ u ∈ us, u.oneCell' = true)
    (h63 : len + len2 ≤ maxLen) (hbytes : (len + len2) * bytes ≤ 140737488355328) (hbase : base ≤ w.heap.size) :
    ∃ a' cap' w', (Builtin.append_ #[t, t] ty #[.slice a len cap, .slice a2 len2 cap2]).run P w = .ok (.slice a' (len + len2) cap') w' ∧ Own w' base e size a' (len + len2) cap' (vs ++ us) ∧ w.grownBy w' (Value.slice a len cap).ownBlock := by
  obtain ⟨i, hi0, hz, hsize, hby⟩ := info_parts hi
  cases a2 with
  | none =>
    obtain rfl := hrow.hnil rfl
    obtain rfl : len2 = 0 := by have := hrow.hle; omega
    obtain rfl : us = [] := List.eq_nil_of_length_eq_zero (by rw [hrow.hlen]; simp)
    exact ⟨a, cap, w, run_append_owned_none (P := P) w base t ty e i size ht hi0 _ len vs hown, by simpa using hown, World.grownBy.refl _ _⟩
  | some ad =>
    obtain ⟨v', w', hr, h2, h3, _⟩ := run_append_own (P := P) w base t ty e i z size bytes ht hi0 hz hsize hby hzs hsz _ len vs hown ad len2 cap2 us hrow.hlen (by
      intro j u hj
      have hjl : j < us.length := (List.getElem?_eq_some_iff.1 hj).1
      rw [hrow.hlen] at hjl
      rcases hrow.hat with h0 | ⟨b, off, hab, hc⟩
      · omega
      · obtain rfl : ad = ⟨b, off, none⟩ := by simpa using hab
        have : (⟨b, off, none⟩ : Addr).add j = ⟨b, off + j, none⟩ := by unfold Addr.add; split <;> simp_all
        rw [this, hc j hjl, hj]) h1 h63 hbytes hbase
    rcases h2.2 with ⟨rfl, h0⟩ | ⟨g, c, cur, rfl, r⟩
    · refine ⟨none, 0, w', by rw [hr, h0], ?_, h3⟩
      rw [h0] at h2 ⊢; exact h2
    · exact ⟨_, _, w', hr, h2, h3⟩

theorem step_append_any {P : Program} {ops : Array Oper} {o : Oper} {act : Act} {w : World} {K : Act → World → Prop} {Q : Exit → Act → World → Prop} {E : Prop}
    (hg : o.guard = none) (s x : Operand) (t : TypeId) (hop : o.op = Op.call { callee := Callee.builtin Builtin.append, args := #[s, x], argTypes := #[t, t] })
    (base : Nat) (e : TypeId) (z : Value) (size bytes : Nat) (ht : P.underlying t = some (.slice e)) (hi : (P.info? e).map (fun i => (i.zero, i.size, i.bytes)) = some (some z, size, bytes)) (hzs : z.cells.size = size) (hsz : 0 < size)
    (a : Option Addr) (len cap : Nat) (vs : List Value) (hs : act.eval s = .slice a len cap) (hown : Own w base e size a len cap vs) (a2 : Option Addr) (len2 cap2 : Nat) (us : List Value) (hx : act.eval x = .slice a2 len2 cap2) (hrow : VRow w size a2 len2 cap2 us) (h1 : ∀ u ∈ us, u.oneCell' = true)
    (h63 : len + len2 ≤ maxLen) (hbytes : (len + len2) * bytes ≤ 140737488355328) (hbase : base ≤ w.heap.size)
    (hK : ∀ a' cap' w', Own w' base e size a' (len + len2) cap' (vs ++ us) → w.grownBy w' (Value.slice a len cap).ownBlock → K (act.put o.dst (.slice a' (len + len2) cap')) w') :
    if Region.wanted o (yielded ops act.tmps) = true then Oper.wp P o act w K Q else E := by
  have hw : Region.wanted o (yielded ops act.tmps) = true := by simp [Region.wanted, hg]
  rw [if_pos hw]
  obtain ⟨a', cap', w', hrun, r1, r2⟩ := run_append_any (P := P) w base t o.type e z size bytes ht hi hzs hsz a len cap vs hown a2 len2 cap2 us hrow h1 h63 hbytes hbase
  unfold Oper.wp
  simp [execOp, hop, resolve, invoke, builtin, hs, hx, hrun, Result.andThen]
  exact hK _ _ _ r1 r2

/-- A piece, where the cut doesn't stand at the capacity's end. -/
theorem VRow.cut {w : World} {size : Nat} {g off : Nat} {len cap : Nat} {vs : List Value} (h : VRow w size (some ⟨g, off, none⟩) len cap vs) (lo hi : Nat) (hlo : lo ≤ hi) (hhi : hi ≤ len) (hc : cap ≠ lo) :
    VRow w size (some ⟨g, off + lo * size, none⟩) (hi - lo) (cap - lo) ((vs.drop (lo * size)).take ((hi - lo) * size)) := by
  have := h.piece lo hi hlo hhi
  rw [if_neg hc] at this
  have hadd : (⟨g, off, none⟩ : Addr).add (lo * size) = ⟨g, off + lo * size, none⟩ := by unfold Addr.add; split <;> simp_all
  simpa [hadd] using this
theorem VRow.empty {w : World} {size : Nat} (a : Option Addr) (cap : Nat) (hc : cap ≤ maxLen) (hn : a = none → cap = 0) : VRow w size a 0 cap [] := ⟨by simp, Nat.zero_le _, hc, hn, .inl (by simp)⟩
end Go.Proofs.Ytkjaddiagembaaa
/- The walks of Number and sameInts. -/
namespace Go.Proofs.Ytkjaddiagembaaa
open Go.RowKit
set_option linter.unusedVariables false

def ints (p : List Nat) : List Int := p.map (fun x : Nat => (x : Int))
theorem ints_getD (p : List Nat) (i : Nat) : (ints p).getD i 0 = ((p.getD i 0 : Nat) : Int) := by
  unfold ints
  by_cases h : i < p.length
  · simp [List.getD, h]
  · simp [List.getD, List.getElem?_eq_none (by omega : p.length ≤ i)]
def Numbers (r : Nat) (w : World) (e : Ending) (w' : World) : Prop := ∃ v : Int, Hid (v = (r : Int)) ∧ 0 ≤ v ∧ v ≤ 4096 ∧ e = .returned (.tuple #[.int .i64 v, .int .i64 0]) ∧ w = w'
end Go.Proofs.Ytkjaddiagembaaa
/- The walks of At and sameInts. -/
namespace Go.Proofs.Ytkjaddiagembaaa
open Go.RowKit
set_option linter.unusedVariables false

theorem info_int : (Try.prog.info? 3).map (fun i => (i.zero, i.size, i.bytes)) = some (some (.int .i64 0), 1, 8) := by kernel_rfl
theorem int_wf {x : Int} (h0 : -9223372036854775808 ≤ x) (h1 : x ≤ 9223372036854775807) : (Lit.int .i64 x).wf = true := by
  simp [Lit.wf, IntKind.min, IntKind.max, IntKind.signed, IntKind.bits]; omega
theorem rk_step {n y : Nat} {z : Nat} {ps : List Nat} (hy : y < n) (hp : Pick n y (z :: ps)) :
    (z = y ∧ rk n (n - y) (z :: ps) = rk n (n - (y + 1)) ps ∧ rk n (n - (y + 1)) ps < pas (n - y - 1) ps.length) ∨ (z ≠ y ∧ rk n (n - y) (z :: ps) = pas (n - y - 1) ps.length + rk n (n - (y + 1)) (z :: ps)) := by
  have e : n - y = (n - (y + 1)) + 1 := by omega
  by_cases h : z = y
  · left
    refine ⟨h, ?_, ?_⟩
    · rw [e, rk, if_pos (by omega)]
    · rw [show n - y - 1 = n - (y + 1) by omega]
      refine rk_lt n (n - (y + 1)) ps (by omega) ?_
      have := hp.2.2
      rw [h] at this
      rw [show n - (n - (y + 1)) = y + 1 by omega]; exact this
  · right
    refine ⟨h, ?_⟩
    rw [e, rk, if_neg (by omega), show n - (y + 1) + 1 - 1 = n - (y + 1) by omega]

/-- 'At' found the pick. -/
def AtIs (p : List Nat) (k : Nat) (w : World) (e : Ending) (w' : World) : Prop := ∃ a cap, e = .returned (.tuple #[.slice a k cap, .int .i64 0]) ∧ Hid (SOwn (Lay.int .i64) w' w.heap.size 3 (fun _ => True) a k cap (ints p)) ∧ Below w.heap.size w w'
/-- 'At' beyond the last number. -/
def AtNone (w : World) (e : Ending) (w' : World) : Prop := e = .returned (.tuple #[.slice none 0 0, .int .i64 2]) ∧ w = w'
end Go.Proofs.Ytkjaddiagembaaa
