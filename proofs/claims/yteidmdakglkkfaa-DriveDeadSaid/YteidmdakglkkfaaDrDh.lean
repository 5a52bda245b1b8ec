/- The drive: Do (printed by wip/dogen.py). -/
import Derived.Test.YteidmdakglkkfaaDrG
import Derived.Test.YteidmdakglkkfaaBoxOps
namespace Go.Proofs.Yteidmdakglkkfaa
open Go.RowKit
set_option linter.unusedVariables false
set_option maxRecDepth 100000

/-- A reply, as it lies in memory. -/
def RepAt (w : World) (r : Int × Option (List Int)) (a : Option Addr) (l c : Nat) : Prop :=
  r.2 = none ∧ a = none ∧ l = 0 ∧ c = 0 ∨ ∃ d, r.2 = some d ∧ l = 128 ∧ d.length = 128 ∧ SRow (Lay.int .u8) w (Kind w 5) a l c d
theorem RepAt.keeps {w w' : World} {r : Int × Option (List Int)} {a : Option Addr} {l c : Nat} (h : RepAt w r a l c) (hk : Keeps [5] w w') : RepAt w' r a l c := by
  rcases h with h | ⟨d, h1, h2, h3, h4⟩
  · exact .inl h
  · exact .inr ⟨d, h1, h2, h3, h4.keep (fun b hb => hk.kind (by simp) hb) (fun b hb _ => hk.2 _ (by simp) b hb)⟩
def DoPost (B hd : Nat) (r : Int × Option (List Int)) (s : DS) (w : World) (e : Ending) (w' : World) : Prop :=
  ∃ a l c, e = .returned (.agg #[.int .i64 r.1, .slice a l c]) ∧ RepAt w' r a l c ∧ Dr w' B hd s ∧ Spare B w w'
theorem Spare.ends {B : Nat} {w V w1 : World} (hV : Below w.heap.size w V) (h1 : Below V.heap.size V w1) (hB : B ≤ w.heap.size) : Spare B w w1 :=
  Spare.below (hV.trans (h1.mono hV.size)) hB
theorem Spare.setNew {B : Nat} {w W : World} (h : Spare B w W) {g j : Nat} (hg : w.heap.size ≤ g) (hB : B ≤ w.heap.size) (v : Value) : Spare B w (W.setCell ⟨g, j, none⟩ v) := by
  refine ⟨h.1.setCell (p := ⟨g, j, none⟩) (by show B ≤ g; omega) v, fun ts h1 h2 h3 => ?_⟩
  have hk := h.2 ts h1 h2 h3
  refine ⟨by simp [World.setCell]; exact hk.1, fun t ht b hb => ?_⟩
  have hlt := hb.lt
  rw [Below.heap_setCell W ⟨g, j, none⟩ v b (by show b ≠ g; omega)]
  exact hk.2 t ht b hb
theorem do_out {B hd n1 : Nat} {r : Int × Option (List Int)} {s : DS} {w W9 : World} {tmps : Array Value} {code : Int} {a : Option Addr} {l c : Nat} (h4 : tmps.getD 4 undef = .pointer (some ⟨n1, 0, none⟩))
    (hB : Box W9 n1 #[.int .i64 code, .slice a l c] 90) (hc : r.1 = code) (hr : RepAt W9 r a l c) (hdr : Dr W9 B hd s) (hS : Spare B w W9) :
    bodyPost Try.prog Try.f50 (DoPost B hd r s w) .ret { tmps := tmps, defers := [] } W9 :=
  bodyPost_ret (results_box0 rfl _ _ n1 _ _ hB _ h4 Try.underlying90 rfl (by kernel_rfl)) rfl ⟨a, l, c, by rw [hc], hr, hdr, hS⟩
/-- The reply's cells are written: all else stands. -/
theorem do_wrote {B hd n1 : Nat} {s : DS} {w W : World} (hB : Box W n1 #[.int .i64 0, .slice none 0 0] 90) (hdr : Dr W B hd s) (hS : Spare B w W) (hn : w.heap.size ≤ n1) (hBw : B ≤ w.heap.size) (u v : Value) :
    Box ((W.setCell ⟨n1, 0, none⟩ u).setCell ⟨n1, 1, none⟩ v) n1 #[u, v] 90 ∧ Dr ((W.setCell ⟨n1, 0, none⟩ u).setCell ⟨n1, 1, none⟩ v) B hd s ∧ Spare B w ((W.setCell ⟨n1, 0, none⟩ u).setCell ⟨n1, 1, none⟩ v) ∧ Keeps [5] W ((W.setCell ⟨n1, 0, none⟩ u).setCell ⟨n1, 1, none⟩ v) :=
  ⟨(hB.set 0 u).set 1 v, hdr.keeps (keeps_reply hB u v (by decide)), (hS.setNew hn hBw u).setNew hn hBw v, keeps_reply hB u v (by decide)⟩
theorem do_end {B hd n1 : Nat} {s : DS} {w W : World} {tmps : Array Value} (hB : Box W n1 #[.int .i64 0, .slice none 0 0] 90) (hdr : Dr W B hd s) (hS : Spare B w W) (hn : w.heap.size ≤ n1) (hBw : B ≤ w.heap.size) (h4 : tmps.getD 4 undef = .pointer (some ⟨n1, 0, none⟩)) :
    bodyPost Try.prog Try.f50 (DoPost B hd (0, none) s w) .ret { tmps := tmps, defers := [] } ((W.setCell ⟨n1, 0, none⟩ (.int .i64 0)).setCell ⟨n1, 1, none⟩ (.slice none 0 0)) := by
  obtain ⟨h1, h2, h3, _⟩ := do_wrote hB hdr hS hn hBw (.int .i64 0) (.slice none 0 0)
  exact do_out h4 h1 rfl (.inl ⟨rfl, rfl, rfl, rfl⟩) h2 h3
theorem SOwn.put_snd {α : Type} {L : Lay α} (h2 : L.size = 2) {w : World} {base : Nat} {e : TypeId} {G : Nat → Prop} {g len cap : Nat} {xs : List α} (h : SOwn L w base e G (some ⟨g, 0, none⟩) len cap xs) (i : Nat) (hi : i < len) {x : α} {v : Value}
    (hx : ∀ y u v0, xs[i]? = some y → ∀ F, L.at_ w F y [u, v0] → L.at_ w F x [u, v]) :
    SOwn L (w.setCell ⟨g, i * 2 + 1, none⟩ v) base e G (some ⟨g, 0, none⟩) len cap (xs.set i x) := by
  obtain ⟨hl, vss, F, ho, hp, hF⟩ := h
  have hsz : ∀ y ∈ vss, y.length = 2 := fun y hy => (hp.sizes y hy).trans h2
  have hiv : i < vss.length := by rw [← hp.1, hl]; exact hi
  have hix : i < xs.length := by rw [hl]; exact hi
  obtain ⟨u, v0, huv⟩ : ∃ u v0, vss[i] = [u, v0] := by
    have := hsz _ (List.getElem_mem hiv)
    match hq : vss[i], this with
    | [p, q], _ => exact ⟨p, q, rfl⟩
  have s2 := World.ownsRow.stored ho (i * 2 + 1) v
  have hkeep : ∀ b, b < w.heap.size → b ≠ g → (w.setCell ⟨g, i * 2 + 1, none⟩ v).heap[b]? = w.heap[b]? := by
    intro b hb hne
    exact s2.2.block b hb (by intro e'; injection e' with e'; exact hne e')
  have hfl : vss.flatten.set (i * 2) u = vss.flatten := by
    apply List.ext_getElem?
    intro j
    rw [List.getElem?_set]
    split
    · rename_i hj
      subst hj
      have := flatten_at 2 vss hsz i 0 (by decide)
      rw [List.getElem?_eq_getElem hiv, huv] at this
      simp only [Nat.add_zero] at this
      rw [this]
      split
      · rfl
      · rename_i hn
        rw [List.getElem?_eq_none (by omega)] at this
        cases this
    · rfl
  refine ⟨by simp [hl], vss.set i [u, v], F, ?_, ?_, fun b hb => ⟨(hF b hb).1, Nat.lt_of_lt_of_le (hF b hb).2.1 s2.2.size, (hF b hb).2.2⟩⟩
  · rw [flatten_set_two vss u v i hsz hiv, hfl]
    exact s2.1
  · have h0 := hp.2 i _ _ (List.getElem?_eq_getElem hix) (List.getElem?_eq_getElem hiv)
    rw [huv] at h0
    exact (hp.set i (hx _ _ _ (List.getElem?_eq_getElem hix) F h0)).keep (fun _ hb => hb) (fun b hb hlt => hkeep b hlt (fun e' => (hF b hb).2.2 (by rw [e']; rfl)))

end Go.Proofs.Yteidmdakglkkfaa
