/- Data as cells: how a datum lies in cells, slices of such data, slices of the call's own that grow. -/
import Derived.Test.YtdonmdiebibabaaDoorOwn
import Derived.Maps.AppendAt
namespace Go.Proofs.YtdonmdiebibabaaDoor
open Go.RowKit
set_option linter.unusedVariables false

/-- How data of a kind lie in cells: 'at_ w F x vs': the cells vs are the datum x; what is reached from them lies in blocks that F holds of. -/
structure Lay (α : Type) where
  size : Nat
  pos : 0 < size
  at_ : World → (Nat → Prop) → α → List Value → Prop
  len : ∀ {w F x vs}, at_ w F x vs → vs.length = size
  one : ∀ {w F x vs}, at_ w F x vs → ∀ v ∈ vs, v.oneCell' = true
  keep : ∀ {w w' F G x vs}, at_ w F x vs → (∀ b, F b → G b) → (∀ b, F b → b < w.heap.size → w'.heap[b]? = w.heap[b]?) → at_ w' G x vs

def Lay.int (k : IntKind) : Lay Int where
  size := 1
  pos := by decide
  at_ := fun _ _ x vs => vs = [.int k x] ∧ (Lit.int k x).wf = true
  len := fun h => by rw [h.1]; rfl
  one := fun h v hv => by rw [h.1] at hv; obtain rfl := List.mem_singleton.1 hv; rfl
  keep := fun h _ _ => h
def Lay.bool : Lay Bool where
  size := 1
  pos := by decide
  at_ := fun _ _ x vs => vs = [.bool x]
  len := fun h => by rw [h]; rfl
  one := fun h v hv => by rw [h] at hv; obtain rfl := List.mem_singleton.1 hv; rfl
  keep := fun h _ _ => h
def Lay.map {α β : Type} (A : Lay α) (f : β → α) : Lay β where
  size := A.size
  pos := A.pos
  at_ := fun w F x vs => A.at_ w F (f x) vs
  len := A.len
  one := A.one
  keep := A.keep
def Lay.pair {α β : Type} (A : Lay α) (B : Lay β) : Lay (α × β) where
  size := A.size + B.size
  pos := by have := A.pos; omega
  at_ := fun w F x vs => ∃ us ws, vs = us ++ ws ∧ A.at_ w F x.1 us ∧ B.at_ w F x.2 ws
  len := fun ⟨us, ws, h, ha, hb⟩ => by rw [h, List.length_append, A.len ha, B.len hb]
  one := fun ⟨us, ws, h, ha, hb⟩ v hv => by
    rw [h] at hv
    rcases List.mem_append.1 hv with h | h
    · exact A.one ha v h
    · exact B.one hb v h
  keep := fun ⟨us, ws, h, ha, hb⟩ hF hw => ⟨us, ws, h, A.keep ha hF hw, B.keep hb hF hw⟩

/-- Structs of plain cells. -/
def Lay.flat {α : Type} (n : Nat) (hn : 0 < n) (f : α → List Value) (hf : ∀ x, (f x).length = n) (h1 : ∀ x, ∀ v ∈ f x, v.oneCell' = true) : Lay α where
  size := n
  pos := hn
  at_ := fun _ _ x vs => vs = f x
  len := fun h => by rw [h, hf]
  one := fun h v hv => by rw [h] at hv; exact h1 _ v hv
  keep := fun h _ _ => h
theorem flatten_at {α : Type} (n : Nat) : ∀ (l : List (List α)), (∀ x ∈ l, x.length = n) → ∀ i j, j < n → l.flatten[i * n + j]? = (l[i]?).bind (·[j]?)
  | [], _, i, j, _ => by simp
  | x :: l, h, 0, j, hj => by
    rw [List.flatten_cons, Nat.zero_mul, Nat.zero_add, List.getElem?_append_left (by rw [h x (List.mem_cons_self ..)]; exact hj)]; rfl
  | x :: l, h, i + 1, j, hj => by
    have hx := h x (List.mem_cons_self ..)
    rw [List.flatten_cons, List.getElem?_append_right (by rw [hx, Nat.add_mul]; omega), hx, show (i + 1) * n + j - n = i * n + j by rw [Nat.add_mul]; omega,
      flatten_at n l (fun y hy => h y (List.mem_cons_of_mem _ hy)) i j hj]
    rfl
theorem flatten_length {α : Type} (n : Nat) : ∀ (l : List (List α)), (∀ x ∈ l, x.length = n) → l.flatten.length = l.length * n
  | [], _ => by simp
  | x :: l, h => by
    rw [List.flatten_cons, List.length_append, h x (List.mem_cons_self ..), flatten_length n l (fun y hy => h y (List.mem_cons_of_mem _ hy)), List.length_cons, Nat.add_mul]; omega

/-- Data of one kind, side by side, each in its own cells. -/
def Pt {α : Type} (L : Lay α) (w : World) (F : Nat → Prop) (xs : List α) (vss : List (List Value)) : Prop :=
  xs.length = vss.length ∧ ∀ (i : Nat) (x : α) (vs : List Value), xs[i]? = some x → vss[i]? = some vs → L.at_ w F x vs
theorem Pt.nil {α : Type} (L : Lay α) (w : World) (F : Nat → Prop) : Pt L w F [] [] := ⟨rfl, fun i x vs h => by simp at h⟩
theorem Pt.keep {α : Type} {L : Lay α} {w w' : World} {F G : Nat → Prop} {xs : List α} {vss : List (List Value)} (h : Pt L w F xs vss) (hF : ∀ b, F b → G b) (hw : ∀ b, F b → b < w.heap.size → w'.heap[b]? = w.heap[b]?) : Pt L w' G xs vss :=
  ⟨h.1, fun i x vs hx hv => L.keep (h.2 i x vs hx hv) hF hw⟩
theorem Pt.append {α : Type} {L : Lay α} {w : World} {F : Nat → Prop} {xs ys : List α} {vss uss : List (List Value)} (h : Pt L w F xs vss) (k : Pt L w F ys uss) : Pt L w F (xs ++ ys) (vss ++ uss) := by
  refine ⟨by simp [h.1, k.1], fun i x vs hx hv => ?_⟩
  by_cases hi : i < xs.length
  · rw [List.getElem?_append_left hi] at hx
    rw [List.getElem?_append_left (by rw [← h.1]; exact hi)] at hv
    exact h.2 i x vs hx hv
  · rw [List.getElem?_append_right (by omega)] at hx
    rw [List.getElem?_append_right (by rw [← h.1]; omega), ← h.1] at hv
    exact k.2 _ x vs hx hv
theorem Pt.single {α : Type} {L : Lay α} {w : World} {F : Nat → Prop} {x : α} {vs : List Value} (h : L.at_ w F x vs) : Pt L w F [x] [vs] :=
  ⟨rfl, fun i y us hy hu => by
    cases i with
    | zero => obtain rfl : x = y := by simpa using hy
              obtain rfl : vs = us := by simpa using hu
              exact h
    | succ i => simp at hy⟩
theorem Pt.all {α : Type} {L : Lay α} {w : World} {F : Nat → Prop} {xs : List α} {vss : List (List Value)} (h : Pt L w F xs vss) : ∀ vs ∈ vss, ∃ x ∈ xs, L.at_ w F x vs := by
  intro vs hv
  obtain ⟨i, hi, rfl⟩ := List.mem_iff_getElem.1 hv
  have hx : i < xs.length := by rw [h.1]; exact hi
  exact ⟨xs[i], List.getElem_mem hx, h.2 i _ _ (List.getElem?_eq_getElem hx) (List.getElem?_eq_getElem hi)⟩
theorem Pt.sizes {α : Type} {L : Lay α} {w : World} {F : Nat → Prop} {xs : List α} {vss : List (List Value)} (h : Pt L w F xs vss) : ∀ vs ∈ vss, vs.length = L.size := by
  intro vs hv
  obtain ⟨x, _, hx⟩ := h.all vs hv
  exact L.len hx
theorem Pt.one {α : Type} {L : Lay α} {w : World} {F : Nat → Prop} {xs : List α} {vss : List (List Value)} (h : Pt L w F xs vss) : ∀ u ∈ vss.flatten, u.oneCell' = true := by
  intro u hu
  obtain ⟨vs, hv, huv⟩ := List.mem_flatten.1 hu
  obtain ⟨x, _, hx⟩ := h.all vs hv
  exact L.one hx u huv
theorem Pt.take {α : Type} {L : Lay α} {w : World} {F : Nat → Prop} {xs : List α} {vss : List (List Value)} (h : Pt L w F xs vss) (n : Nat) : Pt L w F (xs.take n) (vss.take n) := by
  refine ⟨by simp [h.1], fun i x vs hx hv => ?_⟩
  rw [List.getElem?_take] at hx hv
  split at hx
  · rename_i hi
    rw [if_pos hi] at hv
    exact h.2 i x vs hx hv
  · cases hx
theorem Pt.drop {α : Type} {L : Lay α} {w : World} {F : Nat → Prop} {xs : List α} {vss : List (List Value)} (h : Pt L w F xs vss) (n : Nat) : Pt L w F (xs.drop n) (vss.drop n) := by
  refine ⟨by simp [h.1], fun i x vs hx hv => ?_⟩
  rw [List.getElem?_drop] at hx hv
  exact h.2 _ x vs hx hv

/-- A slice value (not the call's own, or no more) that reads as the data xs. -/
def SRow {α : Type} (L : Lay α) (w : World) (F : Nat → Prop) (a : Option Addr) (len cap : Nat) (xs : List α) : Prop :=
  xs.length = len ∧ (∀ x, a = some x → 0 < len → F x.block) ∧ ∃ vss, VRow w L.size a len cap vss.flatten ∧ Pt L w F xs vss
theorem VRow.keep {w w' : World} {size : Nat} {a : Option Addr} {len cap : Nat} {vs : List Value} (h : VRow w size a len cap vs) (hw : ∀ b o, a = some ⟨b, o, none⟩ → 0 < len → b < w.heap.size → w'.heap[b]? = w.heap[b]?) : VRow w' size a len cap vs := by
  refine ⟨h.hlen, h.hle, h.hmax, h.hnil, ?_⟩
  rcases h.hat with h0 | ⟨b, off, ha, hc⟩
  · exact .inl h0
  · refine .inr ⟨b, off, ha, fun i hi => ?_⟩
    have hl : 0 < len := Nat.pos_of_ne_zero fun e => by rw [e, Nat.zero_mul] at hi; omega
    have hg : vs[i]? = some (vs[i]'(by rw [h.hlen]; exact hi)) := List.getElem?_eq_getElem _
    have hlt := World.block_lt_of_cell? _ _ ((hc i hi).trans hg)
    exact (World.cell?_of_block (w := w) (hw b off ha hl hlt)).trans (hc i hi)
theorem SRow.keep {α : Type} {L : Lay α} {w w' : World} {F G : Nat → Prop} {a : Option Addr} {len cap : Nat} {xs : List α} (h : SRow L w F a len cap xs) (hF : ∀ b, F b → G b) (hw : ∀ b, F b → b < w.heap.size → w'.heap[b]? = w.heap[b]?) : SRow L w' G a len cap xs := by
  obtain ⟨hl, hf, vss, hv, hp⟩ := h
  exact ⟨hl, fun x hx h0 => hF _ (hf x hx h0), vss, hv.keep (fun b o hb h0 hlt => hw b (hf _ hb h0) hlt), hp.keep hF hw⟩
theorem SRow.below {α : Type} {L : Lay α} {w w' : World} {F : Nat → Prop} {a : Option Addr} {len cap : Nat} {xs : List α} (h : SRow L w F a len cap xs) (hb : Below w.heap.size w w') : SRow L w' F a len cap xs :=
  h.keep (fun _ hb => hb) (fun b _ hlt => hb.block b hlt)
theorem SRow.drewN {α : Type} {L : Lay α} {w : World} {F : Nat → Prop} {a : Option Addr} {len cap : Nat} {xs : List α} (h : SRow L w F a len cap xs) (n : Nat) : SRow L (w.drewN n) F a len cap xs := h.keep (fun _ hb => hb) (fun _ _ _ => rfl)
theorem SRow.hle {α : Type} {L : Lay α} {w : World} {F : Nat → Prop} {a : Option Addr} {len cap : Nat} {xs : List α} (h : SRow L w F a len cap xs) : len ≤ cap := h.2.2.choose_spec.1.hle
theorem SRow.hmax {α : Type} {L : Lay α} {w : World} {F : Nat → Prop} {a : Option Addr} {len cap : Nat} {xs : List α} (h : SRow L w F a len cap xs) : cap ≤ maxLen := h.2.2.choose_spec.1.hmax
theorem SRow.nil {α : Type} (L : Lay α) (w : World) (F : Nat → Prop) : SRow L w F none 0 0 [] := ⟨rfl, (fun x hx => by cases hx), [], ⟨by simp, Nat.le_refl _, Nat.zero_le _, fun _ => rfl, .inl (by simp)⟩, Pt.nil ..⟩
/-- An element of a slice: its cells. -/
theorem SRow.get {α : Type} {L : Lay α} {w : World} {F : Nat → Prop} {a : Option Addr} {len cap : Nat} {xs : List α} (h : SRow L w F a len cap xs) (i : Nat) (hi : i < len) :
    ∃ b off vs, a = some ⟨b, off, none⟩ ∧ F b ∧ b < w.heap.size ∧ (∀ x, xs[i]? = some x → L.at_ w F x vs) ∧ ∀ j, j < L.size → w.cell? ⟨b, off + (i * L.size + j), none⟩ = vs[j]? := by
  obtain ⟨hl, hf, vss, hv, hp⟩ := h
  have hi' : i < vss.length := by rw [← hp.1, hl]; exact hi
  have hpos := L.pos
  have hm : i * L.size + L.size ≤ len * L.size := by rw [← Nat.succ_mul]; exact Nat.mul_le_mul_right _ hi
  rcases hv.hat with h0 | ⟨b, off, rfl, hc⟩
  · omega
  · have hcell : ∀ j, j < L.size → w.cell? ⟨b, off + (i * L.size + j), none⟩ = vss[i][j]? := fun j hj => by
      rw [hc _ (by omega), flatten_at L.size vss hp.sizes i j hj, List.getElem?_eq_getElem hi']; rfl
    have hlen : vss[i].length = L.size := hp.sizes _ (List.getElem_mem hi')
    refine ⟨b, off, vss[i], rfl, hf _ rfl (by omega), ?_, fun x hx => hp.2 i x _ hx (List.getElem?_eq_getElem hi'), hcell⟩
    have := hcell 0 hpos
    rw [List.getElem?_eq_getElem (by omega)] at this
    exact World.block_lt_of_cell? _ _ this
theorem flatten_ints (k : IntKind) : ∀ xs : List Int, (xs.map (fun x => [Value.int k x])).flatten = xs.map (Value.int k)
  | [] => rfl
  | x :: xs => by simp only [List.map_cons, List.flatten_cons, flatten_ints k xs]; rfl
theorem SRow.toRow {k : IntKind} {w : World} {F : Nat → Prop} {a : Option Addr} {len cap : Nat} {xs : List Int} (h : SRow (Lay.int k) w F a len cap xs) : Row k w a len cap xs := by
  obtain ⟨hl, hf, vss, hv, hp⟩ := h
  have e : vss = xs.map (fun x => [Value.int k x]) := by
    apply List.ext_getElem?
    intro i
    by_cases hi : i < xs.length
    · have hi' : i < vss.length := by rw [← hp.1]; exact hi
      have := hp.2 i _ _ (List.getElem?_eq_getElem hi) (List.getElem?_eq_getElem hi')
      rw [List.getElem?_eq_getElem hi', this.1, List.getElem?_map, List.getElem?_eq_getElem hi]; rfl
    · rw [List.getElem?_eq_none (by have := hp.1; omega), List.getElem?_eq_none (by rw [List.length_map]; omega)]
  have e2 : vss.flatten = xs.map (Value.int k) := by rw [e, flatten_ints]
  rw [e2] at hv
  refine VRow.toRow hv (fun x hx => ?_)
  obtain ⟨i, hi, rfl⟩ := List.mem_iff_getElem.1 hx
  have hi' : i < vss.length := by rw [← hp.1]; exact hi
  exact (hp.2 i _ _ (List.getElem?_eq_getElem hi) (List.getElem?_eq_getElem hi')).2
theorem Pt.ints {k : IntKind} {w : World} {F : Nat → Prop} {xs : List Int} (h : ∀ x ∈ xs, (Lit.int k x).wf = true) : Pt (Lay.int k) w F xs (xs.map fun x => [Value.int k x]) := by
  refine ⟨by simp, fun i x vs hx hv => ?_⟩
  rw [List.getElem?_map, hx] at hv
  obtain rfl : [Value.int k x] = vs := by simpa using hv
  exact ⟨rfl, h x (List.mem_of_getElem? hx)⟩
theorem Row.toS {k : IntKind} {w : World} {F : Nat → Prop} {a : Option Addr} {len cap : Nat} {xs : List Int} (h : Row k w a len cap xs) (hF : ∀ x, a = some x → 0 < len → F x.block) : SRow (Lay.int k) w F a len cap xs :=
  ⟨h.hlen, hF, xs.map fun x => [Value.int k x], by rw [flatten_ints]; exact h.toV, Pt.ints h.hwf⟩

/-- Slices as data. -/
def Lay.slice {α : Type} (L : Lay α) : Lay (List α) where
  size := 1
  pos := by decide
  at_ := fun w F xs vs => ∃ a len cap, vs = [.slice a len cap] ∧ SRow L w F a len cap xs
  len := fun ⟨a, len, cap, h, _⟩ => by rw [h]; rfl
  one := fun ⟨a, len, cap, h, _⟩ v hv => by rw [h] at hv; obtain rfl := List.mem_singleton.1 hv; rfl
  keep := fun ⟨a, len, cap, h, hr⟩ hF hw => ⟨a, len, cap, h, hr.keep hF hw⟩

/-- A slice that the call itself made, of such data: its own block is none of those that its elements reach; these are all ones that G holds of. -/
def SOwn {α : Type} (L : Lay α) (w : World) (base : Nat) (e : TypeId) (G : Nat → Prop) (a : Option Addr) (len cap : Nat) (xs : List α) : Prop :=
  xs.length = len ∧ ∃ vss F, Own w base e L.size a len cap vss.flatten ∧ Pt L w F xs vss ∧ ∀ b, F b → G b ∧ b < w.heap.size ∧ (Value.slice a len cap).ownBlock ≠ some b
theorem SOwn.nil {α : Type} (L : Lay α) (w : World) (base : Nat) (e : TypeId) (G : Nat → Prop) : SOwn L w base e G none 0 0 [] :=
  ⟨rfl, [], fun _ => False, Own.nil .., Pt.nil .., fun b h => h.elim⟩
theorem SOwn.row {α : Type} {L : Lay α} {w : World} {base : Nat} {e : TypeId} {G : Nat → Prop} {a : Option Addr} {len cap : Nat} {xs : List α} (h : SOwn L w base e G a len cap xs) (hG : ∀ b, base ≤ b → G b) : SRow L w G a len cap xs := by
  obtain ⟨hl, vss, F, ho, hp, hF⟩ := h
  refine ⟨hl, fun x hx h0 => ?_, vss, ho.row, hp.keep (fun b hb => (hF b hb).1) (fun _ _ _ => rfl)⟩
  have := (World.ownsRow.lt ho x.block (by rw [hx]; rfl)).1
  exact hG _ this
theorem SOwn.keep {α : Type} {L : Lay α} {w w' : World} {base : Nat} {e : TypeId} {G : Nat → Prop} {a : Option Addr} {len cap : Nat} {xs : List α} (h : SOwn L w base e G a len cap xs)
    (hs : w.heap.size ≤ w'.heap.size) (hw : ∀ b, b < w.heap.size → (G b ∨ base ≤ b) → w'.heap[b]? = w.heap[b]?) : SOwn L w' base e G a len cap xs := by
  obtain ⟨hl, vss, F, ho, hp, hF⟩ := h
  refine ⟨hl, vss, F, ?_, hp.keep (fun b hb => hb) (fun b hb hlt => hw b hlt (.inl (hF b hb).1)), fun b hb => ⟨(hF b hb).1, by have := (hF b hb).2.1; omega, (hF b hb).2.2⟩⟩
  refine ⟨ho.1, ?_⟩
  rcases ho.2 with h0 | ⟨g, c, cur, hv, hbg, hg, r⟩
  · exact .inl h0
  · exact .inr ⟨g, c, cur, hv, hbg, by rw [hw g (Array.getElem?_eq_some_iff.1 hg).1 (.inr hbg)]; exact hg, r⟩
theorem SOwn.below {α : Type} {L : Lay α} {w w' : World} {base : Nat} {e : TypeId} {G : Nat → Prop} {a : Option Addr} {len cap : Nat} {xs : List α} (h : SOwn L w base e G a len cap xs) (hb : Below w.heap.size w w') : SOwn L w' base e G a len cap xs :=
  h.keep hb.size (fun b hlt _ => hb.block b hlt)
theorem SOwn.mono {α : Type} {L : Lay α} {w : World} {base base' : Nat} {e : TypeId} {G G' : Nat → Prop} {a : Option Addr} {len cap : Nat} {xs : List α} (h : SOwn L w base e G a len cap xs) (hb : base' ≤ base) (hG : ∀ b, G b → G' b) : SOwn L w base' e G' a len cap xs := by
  obtain ⟨hl, vss, F, ho, hp, hF⟩ := h
  exact ⟨hl, vss, F, ho.mono hb, hp, fun b hb => ⟨hG _ (hF b hb).1, (hF b hb).2⟩⟩
theorem SOwn.lt {α : Type} {L : Lay α} {w : World} {base : Nat} {e : TypeId} {G : Nat → Prop} {a : Option Addr} {len cap : Nat} {xs : List α} (h : SOwn L w base e G a len cap xs) : ∀ k, (Value.slice a len cap).ownBlock = some k → base ≤ k ∧ k < w.heap.size := by
  obtain ⟨hl, vss, F, ho, hp, hF⟩ := h
  exact World.ownsRow.lt ho
theorem SOwn.hle {α : Type} {L : Lay α} {w : World} {base : Nat} {e : TypeId} {G : Nat → Prop} {a : Option Addr} {len cap : Nat} {xs : List α} (h : SOwn L w base e G a len cap xs) : len ≤ cap := by
  obtain ⟨hl, vss, F, ho, hp, hF⟩ := h
  exact ho.row.hle
theorem SOwn.hmax {α : Type} {L : Lay α} {w : World} {base : Nat} {e : TypeId} {G : Nat → Prop} {a : Option Addr} {len cap : Nat} {xs : List α} (h : SOwn L w base e G a len cap xs) : cap ≤ maxLen := by
  obtain ⟨hl, vss, F, ho, hp, hF⟩ := h
  exact ho.row.hmax
/-- What an append to such a slice leaves of the world. -/
theorem SOwn.grown {α : Type} {L : Lay α} {w w' : World} {base : Nat} {e : TypeId} {G : Nat → Prop} {a : Option Addr} {len cap : Nat} {xs : List α} (h : SOwn L w base e G a len cap xs) {w0 : World} {B : Nat} (hB : Below B w0 w) (hbase : B ≤ base) (hs : B ≤ w.heap.size) (hg : w.grownBy w' (Value.slice a len cap).ownBlock) : Below B w0 w' :=
  hB.grown hg hs (fun k hk => Nat.le_trans hbase (h.lt k hk).1)

theorem run_append_at {P : Program} (w : World) (base : Nat) (t ty e : TypeId) (z : Value) (size bytes : Nat) (ht : P.underlying t = some (.slice e)) (hi : (P.info? e).map (fun i => (i.zero, i.size, i.bytes)) = some (some z, size, bytes)) (hzs : z.cells.size = size) (hsz : 0 < size)
    (a : Option Addr) (len cap : Nat) (vs : List Value) (hown : Own w base e size a len cap vs) (a2 : Option Addr) (len2 cap2 : Nat) (us : List Value) (hrow : VRow w size a2 len2 cap2 us) (h1 : ∀ u ∈ us, u.oneCell' = true)
    (h63 : len + len2 ≤ maxLen) (hbytes : (len + len2) * bytes ≤ 140737488355328) (hbase : base ≤ w.heap.size) :
    ∃ a' cap' w', (Builtin.append_ #[t, t] ty #[.slice a len cap, .slice a2 len2 cap2]).run P w = .ok (.slice a' (len + len2) cap') w' ∧ Own w' base e size a' (len + len2) cap' (vs ++ us) ∧ w.grownBy w' (Value.slice a len cap).ownBlock ∧
      ((Value.slice a' (len + len2) cap').ownBlock = (Value.slice a len cap).ownBlock ∨ (Value.slice a' (len + len2) cap').ownBlock = some w.heap.size) := by
  obtain ⟨i, hi0, hz, hsize, hby⟩ := info_parts hi
  cases a2 with
  | none =>
    obtain rfl := hrow.hnil rfl
    obtain rfl : len2 = 0 := by have := hrow.hle; omega
    obtain rfl : us = [] := List.eq_nil_of_length_eq_zero (by rw [hrow.hlen]; simp)
    exact ⟨a, cap, w, run_append_owned_none (P := P) w base t ty e i size ht hi0 _ len vs hown, by simpa using hown, World.grownBy.refl _ _, .inl rfl⟩
  | some ad =>
    obtain ⟨v', w', hr, h2, h3, _, h5⟩ := run_append_own_at (P := P) w base t ty e i z size bytes ht hi0 hz hsize hby hzs hsz _ len vs hown ad len2 cap2 us hrow.hlen (by
      intro j u hj
      have hjl : j < us.length := (List.getElem?_eq_some_iff.1 hj).1
      rw [hrow.hlen] at hjl
      rcases hrow.hat with h0 | ⟨b, off, hab, hc⟩
      · omega
      · obtain rfl : ad = ⟨b, off, none⟩ := by simpa using hab
        have : (⟨b, off, none⟩ : Addr).add j = ⟨b, off + j, none⟩ := by unfold Addr.add; split <;> simp_all
        rw [this, hc j hjl, hj]) h1 h63 hbytes hbase
    rcases h2.2 with ⟨rfl, h0⟩ | ⟨g, c, cur, rfl, r⟩
    · refine ⟨none, 0, w', by rw [hr, h0], ?_, h3, ?_⟩
      · rw [h0] at h2 ⊢; exact h2
      · rcases h5 with h5 | h5
        · exact .inl h5
        · cases h5
    · exact ⟨_, _, w', hr, h2, h3, h5⟩

theorem run_append_data {α : Type} {L : Lay α} {P : Program} (w : World) (base : Nat) (t ty e : TypeId) (z : Value) (bytes : Nat) (ht : P.underlying t = some (.slice e)) (hi : (P.info? e).map (fun i => (i.zero, i.size, i.bytes)) = some (some z, L.size, bytes)) (hzs : z.cells.size = L.size)
    (G : Nat → Prop) (a : Option Addr) (len cap : Nat) (xs : List α) (hown : SOwn L w base e G a len cap xs)
    (a2 : Option Addr) (len2 cap2 : Nat) (ys : List α) (uss : List (List Value)) (hrow : VRow w L.size a2 len2 cap2 uss.flatten) (F2 : Nat → Prop) (hp2 : Pt L w F2 ys uss)
    (hl2 : ys.length = len2) (hF2 : ∀ b, F2 b → G b ∧ b < w.heap.size ∧ (Value.slice a len cap).ownBlock ≠ some b)
    (h63 : len + len2 ≤ maxLen) (hbytes : (len + len2) * bytes ≤ 140737488355328) (hbase : base ≤ w.heap.size) :
    ∃ a' cap' w', (Builtin.append_ #[t, t] ty #[.slice a len cap, .slice a2 len2 cap2]).run P w = .ok (.slice a' (len + len2) cap') w' ∧ SOwn L w' base e G a' (len + len2) cap' (xs ++ ys) ∧ w.grownBy w' (Value.slice a len cap).ownBlock := by
  obtain ⟨hl, vss, F, hown, hp, hF⟩ := hown
  obtain ⟨a', cap', w', hrun, hown', hg, hat⟩ := run_append_at (P := P) w base t ty e z L.size bytes ht hi hzs L.pos a len cap vss.flatten hown a2 len2 cap2 uss.flatten hrow hp2.one h63 hbytes hbase
  refine ⟨a', cap', w', hrun, ⟨by rw [List.length_append, hl, hl2], vss ++ uss, fun b => F b ∨ F2 b, by rw [List.flatten_append]; exact hown', ?_, ?_⟩, hg⟩
  · have hk : ∀ b, (F b ∨ F2 b) → b < w.heap.size → w'.heap[b]? = w.heap[b]? := fun b hb hlt => hg.block b hlt (fun e => by
      rcases hb with hb | hb
      · exact (hF b hb).2.2 e.symm
      · exact (hF2 b hb).2.2 e.symm)
    exact (hp.keep (fun b hb => .inl hb) (fun b hb => hk b (.inl hb))).append (hp2.keep (fun b hb => .inr hb) (fun b hb => hk b (.inr hb)))
  · intro b hb
    have hb' : G b ∧ b < w.heap.size ∧ (Value.slice a len cap).ownBlock ≠ some b := by
      rcases hb with hb | hb
      · exact hF b hb
      · exact hF2 b hb
    refine ⟨hb'.1, Nat.lt_of_lt_of_le hb'.2.1 hg.size, fun e => ?_⟩
    rcases hat with h | h
    · exact hb'.2.2 (h ▸ e)
    · rw [h] at e
      have : w.heap.size = b := by simpa using e
      omega

/-- append: data from a slice, onto one of the call's own. -/
theorem wpList_append_data {α : Type} {L : Lay α} {P : Program} {w : World} {ops : Array Oper} {rest : List Oper} {o : Oper} {act : Act} {Q : Exit → Act → World → Prop} (hgd : o.guard = none) (s x : Operand) (t : TypeId)
    (ho : o.op = .call { callee := .builtin .append, args := #[s, x], argTypes := #[t, t] })
    (base : Nat) (e : TypeId) (z : Value) (bytes : Nat) (ht : P.underlying t = some (.slice e)) (hi : (P.info? e).map (fun i => (i.zero, i.size, i.bytes)) = some (some z, L.size, bytes)) (hzs : z.cells.size = L.size)
    (G : Nat → Prop) (a : Option Addr) (len cap : Nat) (xs : List α) (hs : act.eval s = .slice a len cap) (hown : SOwn L w base e G a len cap xs)
    (a2 : Option Addr) (len2 cap2 : Nat) (ys : List α) (uss : List (List Value)) (hx : act.eval x = .slice a2 len2 cap2) (hrow : VRow w L.size a2 len2 cap2 uss.flatten) (F2 : Nat → Prop) (hp2 : Pt L w F2 ys uss)
    (hl2 : ys.length = len2) (hF2 : ∀ b, F2 b → G b ∧ b < w.heap.size ∧ (Value.slice a len cap).ownBlock ≠ some b)
    (h63 : len + len2 ≤ maxLen) (hbytes : (len + len2) * bytes ≤ 140737488355328) (hbase : base ≤ w.heap.size)
    (h : ∀ a' cap' w', SOwn L w' base e G a' (len + len2) cap' (xs ++ ys) → w.grownBy w' (Value.slice a len cap).ownBlock → wpList P ops Q rest (act.put o.dst (.slice a' (len + len2) cap')) w') : wpList P ops Q (o :: rest) act w := by
  refine wpList_plain hgd fun K hK => ?_
  obtain ⟨a', cap', w', hrun, r1, r2⟩ := run_append_data (P := P) w base t o.type e z bytes ht hi hzs G a len cap xs hown a2 len2 cap2 ys uss hrow F2 hp2 hl2 hF2 h63 hbytes hbase
  unfold Oper.wp execOp
  simp only [ho, resolve, invoke, builtin, Sem.run_bind, Sem.run_pure, Result.andThen_ok, List.map_toArray, List.map_cons, List.map_nil, hs, hx, hrun]
  exact hK _ _ (h a' cap' w' r1 r2)
theorem step_append_data {α : Type} {L : Lay α} {P : Program} {w : World} {ops : Array Oper} {o : Oper} {act : Act} {K : Act → World → Prop} {Q : Exit → Act → World → Prop} {E : Prop} (hgd : o.guard = none) (s x : Operand) (t : TypeId)
    (ho : o.op = .call { callee := .builtin .append, args := #[s, x], argTypes := #[t, t] })
    (base : Nat) (e : TypeId) (z : Value) (bytes : Nat) (ht : P.underlying t = some (.slice e)) (hi : (P.info? e).map (fun i => (i.zero, i.size, i.bytes)) = some (some z, L.size, bytes)) (hzs : z.cells.size = L.size)
    (G : Nat → Prop) (a : Option Addr) (len cap : Nat) (xs : List α) (hs : act.eval s = .slice a len cap) (hown : SOwn L w base e G a len cap xs)
    (a2 : Option Addr) (len2 cap2 : Nat) (ys : List α) (uss : List (List Value)) (hx : act.eval x = .slice a2 len2 cap2) (hrow : VRow w L.size a2 len2 cap2 uss.flatten) (F2 : Nat → Prop) (hp2 : Pt L w F2 ys uss)
    (hl2 : ys.length = len2) (hF2 : ∀ b, F2 b → G b ∧ b < w.heap.size ∧ (Value.slice a len cap).ownBlock ≠ some b)
    (h63 : len + len2 ≤ maxLen) (hbytes : (len + len2) * bytes ≤ 140737488355328) (hbase : base ≤ w.heap.size)
    (h : ∀ a' cap' w', SOwn L w' base e G a' (len + len2) cap' (xs ++ ys) → w.grownBy w' (Value.slice a len cap).ownBlock → K (act.put o.dst (.slice a' (len + len2) cap')) w') :
    if Region.wanted o (yielded ops act.tmps) = true then Oper.wp P o act w K Q else E := by
  have hw : Region.wanted o (yielded ops act.tmps) = true := by simp [Region.wanted, hgd]
  rw [if_pos hw]
  obtain ⟨a', cap', w', hrun, r1, r2⟩ := run_append_data (P := P) w base t o.type e z bytes ht hi hzs G a len cap xs hown a2 len2 cap2 ys uss hrow F2 hp2 hl2 hF2 h63 hbytes hbase
  unfold Oper.wp execOp
  simp only [ho, resolve, invoke, builtin, Sem.run_bind, Sem.run_pure, Result.andThen_ok, List.map_toArray, List.map_cons, List.map_nil, hs, hx, hrun]
  exact h a' cap' w' r1 r2
/-- One datum that lies in a new block: as the source of an append. -/
theorem VRow.single {α : Type} {L : Lay α} {w w0 : World} {F : Nat → Prop} {x : α} {vs : List Value} (h : L.at_ w0 F x vs) (e : TypeId) (cs : Array Value) (hcs : cs.toList = vs) (hw : w = w0.alloc (.cells cs e)) : VRow w L.size (some ⟨w0.heap.size, 0, none⟩) 1 1 ([vs] : List (List Value)).flatten := by
  have hl := L.len h
  refine ⟨by simp [hl], Nat.le_refl _, by unfold maxLen; omega, (fun h => by cases h), .inr ⟨w0.heap.size, 0, rfl, fun i hi => ?_⟩⟩
  subst hw
  rw [Nat.zero_add, cell_of_row _ _ i cs e (0, 0) (heap_alloc_new w0 _)]
  subst hcs
  simp
/-- A full row of cells that the call made is a block known whole. -/
theorem Own.box {w : World} {base : Nat} {e : TypeId} {g n : Nat} {vs : List Value} (h : Own w base e 1 (some ⟨g, 0, none⟩) n n vs) : Box w g vs.toArray e := by
  rcases h.form with ⟨h0, _⟩ | ⟨g', cur, hg, hb, hh, h1, h2, h3, h4⟩
  · cases h0
  · obtain rfl : g = g' := by simpa using hg
    rw [Nat.mul_one] at h3 h4
    have : cur = vs.toArray := by
      rw [← h4, List.take_of_length_le (by simp [h3])]
    unfold Box
    rw [hh, this]
theorem SOwn.ints {k : IntKind} {w : World} {base : Nat} {e : TypeId} {G : Nat → Prop} {a : Option Addr} {len cap : Nat} {xs : List Int} (h : SOwn (Lay.int k) w base e G a len cap xs) : Row k w a len cap xs :=
  ((h.mono (Nat.le_refl _) (G' := fun _ => True) (fun _ _ => trivial)).row (fun _ _ => trivial)).toRow
/-- An element of a slice of the call's own: its cells. -/
theorem SOwn.get {α : Type} {L : Lay α} {w : World} {base : Nat} {e : TypeId} {G : Nat → Prop} {a : Option Addr} {len cap : Nat} {xs : List α} (h : SOwn L w base e G a len cap xs) (i : Nat) (hi : i < len) :
    ∃ g vs, a = some ⟨g, 0, none⟩ ∧ base ≤ g ∧ g < w.heap.size ∧ (∃ x, xs[i]? = some x ∧ L.at_ w G x vs) ∧ ∀ j, j < L.size → w.cell? ⟨g, i * L.size + j, none⟩ = vs[j]? := by
  obtain ⟨hl, vss, F, ho, hp, hF⟩ := h
  have hi' : i < vss.length := by rw [← hp.1, hl]; exact hi
  have hix : i < xs.length := by rw [hl]; exact hi
  have hm : i * L.size + L.size ≤ len * L.size := by rw [← Nat.succ_mul]; exact Nat.mul_le_mul_right _ hi
  rcases ho.form with ⟨rfl, rfl, _⟩ | ⟨g, cur, rfl, hb, hh, h1, h2, h3, h4⟩
  · omega
  · refine ⟨g, vss[i], rfl, hb, (Array.getElem?_eq_some_iff.1 hh).1, ⟨xs[i], List.getElem?_eq_getElem hix, L.keep (hp.2 i _ _ (List.getElem?_eq_getElem hix) (List.getElem?_eq_getElem hi')) (fun b hb => (hF b hb).1) (fun _ _ _ => rfl)⟩, fun j hj => ?_⟩
    rw [World.ownsRow.cellAt ho _ (by omega), flatten_at L.size vss hp.sizes i j hj, List.getElem?_eq_getElem hi']; rfl
theorem SOwn.alloc {α : Type} {L : Lay α} {w : World} {base : Nat} {e : TypeId} {G : Nat → Prop} {a : Option Addr} {len cap : Nat} {xs : List α} (h : SOwn L w base e G a len cap xs) (o : Obj) : SOwn L (w.alloc o) base e G a len cap xs := h.below (Below_alloc1 _)
/-- append of one datum, which a literal has just laid in a new block. -/
theorem wpList_append_one {α : Type} {L : Lay α} {P : Program} {wr : World} {ops : Array Oper} {rest : List Oper} {o : Oper} {act : Act} {Q : Exit → Act → World → Prop} (hgd : o.guard = none) (s x : Operand) (t : TypeId)
    (ho : o.op = .call { callee := .builtin .append, args := #[s, x], argTypes := #[t, t] })
    (base : Nat) (e : TypeId) (z : Value) (bytes : Nat) (ht : P.underlying t = some (.slice e)) (hi : (P.info? e).map (fun i => (i.zero, i.size, i.bytes)) = some (some z, L.size, bytes)) (hzs : z.cells.size = L.size)
    (G : Nat → Prop) (a : Option Addr) (len cap : Nat) (xs : List α) (hs : act.eval s = .slice a len cap) (hown : SOwn L wr base e G a len cap xs)
    (cs : Array Value) (y : α) (hx : act.eval x = .slice (some ⟨wr.heap.size, 0, none⟩) 1 1) (F2 : Nat → Prop) (hy : L.at_ wr F2 y cs.toList) (hF2 : ∀ b, F2 b → G b ∧ b < wr.heap.size ∧ (Value.slice a len cap).ownBlock ≠ some b)
    (h63 : len + 1 ≤ maxLen) (hbytes : (len + 1) * bytes ≤ 140737488355328) (hbase : base ≤ wr.heap.size)
    (h : ∀ a' cap' w', SOwn L w' base e G a' (len + 1) cap' (xs ++ [y]) → wr.grownBy w' (Value.slice a len cap).ownBlock → wpList P ops Q rest (act.put o.dst (.slice a' (len + 1) cap')) w') : wpList P ops Q (o :: rest) act (wr.alloc (.cells cs e)) :=
  wpList_append_data hgd s x t ho base e z bytes ht hi hzs G a len cap xs hs (hown.alloc _) (some ⟨wr.heap.size, 0, none⟩) 1 1 [y] [cs.toList] hx (VRow.single hy e cs rfl rfl) F2
    (Pt.single (L.keep hy (fun _ hb => hb) (fun b _ hlt => Below.heap_alloc _ _ _ hlt))) rfl (fun b hb => ⟨(hF2 b hb).1, by have := (hF2 b hb).2.1; simp; omega, (hF2 b hb).2.2⟩) h63 hbytes (by simp; omega)
    (fun a' cap' w' h1 h2 => h a' cap' w' h1 ((World.grownBy_alloc wr _ _).trans h2))
theorem step_append_one {α : Type} {L : Lay α} {P : Program} {wr : World} {ops : Array Oper} {o : Oper} {act : Act} {K : Act → World → Prop} {Q : Exit → Act → World → Prop} {E : Prop} (hgd : o.guard = none) (s x : Operand) (t : TypeId)
    (ho : o.op = .call { callee := .builtin .append, args := #[s, x], argTypes := #[t, t] })
    (base : Nat) (e : TypeId) (z : Value) (bytes : Nat) (ht : P.underlying t = some (.slice e)) (hi : (P.info? e).map (fun i => (i.zero, i.size, i.bytes)) = some (some z, L.size, bytes)) (hzs : z.cells.size = L.size)
    (G : Nat → Prop) (a : Option Addr) (len cap : Nat) (xs : List α) (hs : act.eval s = .slice a len cap) (hown : SOwn L wr base e G a len cap xs)
    (cs : Array Value) (y : α) (hx : act.eval x = .slice (some ⟨wr.heap.size, 0, none⟩) 1 1) (F2 : Nat → Prop) (hy : L.at_ wr F2 y cs.toList) (hF2 : ∀ b, F2 b → G b ∧ b < wr.heap.size ∧ (Value.slice a len cap).ownBlock ≠ some b)
    (h63 : len + 1 ≤ maxLen) (hbytes : (len + 1) * bytes ≤ 140737488355328) (hbase : base ≤ wr.heap.size)
    (h : ∀ a' cap' w', SOwn L w' base e G a' (len + 1) cap' (xs ++ [y]) → wr.grownBy w' (Value.slice a len cap).ownBlock → K (act.put o.dst (.slice a' (len + 1) cap')) w') :
    if Region.wanted o (yielded ops act.tmps) = true then Oper.wp P o act (wr.alloc (.cells cs e)) K Q else E :=
  step_append_data hgd s x t ho base e z bytes ht hi hzs G a len cap xs hs (hown.alloc _) (some ⟨wr.heap.size, 0, none⟩) 1 1 [y] [cs.toList] hx (VRow.single hy e cs rfl rfl) F2
    (Pt.single (L.keep hy (fun _ hb => hb) (fun b _ hlt => Below.heap_alloc _ _ _ hlt))) rfl (fun b hb => ⟨(hF2 b hb).1, by have := (hF2 b hb).2.1; simp; omega, (hF2 b hb).2.2⟩) h63 hbytes (by simp; omega)
    (fun a' cap' w' h1 h2 => h a' cap' w' h1 ((World.grownBy_alloc wr _ _).trans h2))
end Go.Proofs.YtdonmdiebibabaaDoor
