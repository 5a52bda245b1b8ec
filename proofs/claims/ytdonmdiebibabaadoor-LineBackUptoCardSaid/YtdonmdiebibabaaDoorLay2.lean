/- Pieces of slices of data. -/
import Derived.Test.YtdonmdiebibabaaDoorLay
namespace Go.Proofs.YtdonmdiebibabaaDoor
open Go.RowKit
set_option linter.unusedVariables false

theorem flatten_drop {α : Type} (n : Nat) : ∀ (l : List (List α)), (∀ x ∈ l, x.length = n) → ∀ k, l.flatten.drop (k * n) = (l.drop k).flatten
  | l, _, 0 => by simp
  | [], _, k + 1 => by simp
  | x :: l, h, k + 1 => by
    have hx := h x (List.mem_cons_self ..)
    rw [List.flatten_cons, show (k + 1) * n = x.length + k * n by rw [hx, Nat.add_mul]; omega, ← List.drop_drop, List.drop_left, flatten_drop n l (fun y hy => h y (List.mem_cons_of_mem _ hy)) k]; rfl
theorem flatten_take {α : Type} (n : Nat) : ∀ (l : List (List α)), (∀ x ∈ l, x.length = n) → ∀ k, l.flatten.take (k * n) = (l.take k).flatten
  | l, _, 0 => by simp
  | [], _, k + 1 => by simp
  | x :: l, h, k + 1 => by
    have hx := h x (List.mem_cons_self ..)
    rw [List.flatten_cons, show (k + 1) * n = x.length + k * n by rw [hx, Nat.add_mul]; omega, List.take_length_add_append, flatten_take n l (fun y hy => h y (List.mem_cons_of_mem _ hy)) k]; rfl
theorem SOwn.piece {α : Type} {L : Lay α} {w : World} {base : Nat} {e : TypeId} {G : Nat → Prop} {a : Option Addr} {len cap : Nat} {xs : List α} (h : SOwn L w base e G a len cap xs) (lo hi : Nat) (hlo : lo ≤ hi) (hhi : hi ≤ len) :
    ∃ (uss : List (List Value)) (F : Nat → Prop), VRow w L.size (if cap = lo then a else a.map (·.add (lo * L.size))) (hi - lo) (cap - lo) uss.flatten ∧ Pt L w F ((xs.drop lo).take (hi - lo)) uss ∧ ((xs.drop lo).take (hi - lo)).length = hi - lo ∧ ∀ b, F b → G b ∧ b < w.heap.size ∧ (Value.slice a len cap).ownBlock ≠ some b := by
  obtain ⟨hl, vss, F, ho, hp, hF⟩ := h
  refine ⟨(vss.drop lo).take (hi - lo), F, ?_, (hp.drop lo).take _, by rw [List.length_take, List.length_drop]; omega, hF⟩
  have := ho.row.piece lo hi hlo hhi
  rw [flatten_drop _ _ hp.sizes, flatten_take _ _ (fun x hx => hp.sizes x (List.mem_of_mem_drop hx))] at this
  exact this
theorem SOwn.whole {α : Type} {L : Lay α} {w : World} {base : Nat} {e : TypeId} {G : Nat → Prop} {a : Option Addr} {len cap : Nat} {xs : List α} (h : SOwn L w base e G a len cap xs) :
    ∃ (uss : List (List Value)) (F : Nat → Prop), VRow w L.size a len cap uss.flatten ∧ Pt L w F xs uss ∧ xs.length = len ∧ ∀ b, F b → G b ∧ b < w.heap.size ∧ (Value.slice a len cap).ownBlock ≠ some b := by
  obtain ⟨hl, vss, F, ho, hp, hF⟩ := h
  exact ⟨vss, F, ho.row, hp, hl, hF⟩
theorem SRow.whole {α : Type} {L : Lay α} {w : World} {G : Nat → Prop} {a : Option Addr} {len cap : Nat} {xs : List α} (h : SRow L w G a len cap xs) :
    ∃ (uss : List (List Value)), VRow w L.size a len cap uss.flatten ∧ Pt L w G xs uss ∧ xs.length = len := by
  obtain ⟨hl, hf, vss, hv, hp⟩ := h
  exact ⟨vss, hv, hp, hl⟩
/-- The whole of a slice of the call's own, as what one who only reads it wants. -/
theorem SOwn.sRow {α : Type} {L : Lay α} {w : World} {base : Nat} {e : TypeId} {G : Nat → Prop} {a : Option Addr} {len cap : Nat} {xs : List α} (h : SOwn L w base e G a len cap xs) : SRow L w (fun _ => True) a len cap xs :=
  (h.mono (Nat.le_refl _) (G' := fun _ => True) (fun _ _ => trivial)).row (fun _ _ => trivial)
theorem results_tmp4 {fn : Func} {t u v x : Tmp} (h : fn.results = #[.tmp t, .tmp u, .tmp v, .tmp x]) (tmps : Array Value) (P : Program) (w : World) :
    (results fn tmps).run P w = .ok (.tuple #[tmps.getD t undef, tmps.getD u undef, tmps.getD v undef, tmps.getD x undef]) w := by simp [results, h]
end Go.Proofs.YtdonmdiebibabaaDoor
