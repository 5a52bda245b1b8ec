/- The drive: clones of rows of bytes, New. -/
import Derived.Test.YteidmdakglkkfaaDrM
namespace Go.Proofs.Yteidmdakglkkfaa
open Go.RowKit
set_option linter.unusedVariables false
set_option maxRecDepth 100000

set_option maxHeartbeats 1000000 in
theorem cloneB (a : Addr) (len cap : Nat) (xs : List Int) (w : World) (h : Row .u8 w (some a) len cap xs) (hl : 0 < len) (hb : len ≤ 140737488351232) :
    Calls Try.prog 58 #[.slice (some a) len cap] w fun e w' => ∃ g c, e = .returned (.slice (some ⟨g, 0, none⟩) len c) ∧ Own w' w.heap.size 5 1 (some ⟨g, 0, none⟩) len c (xs.map (.int .u8)) ∧ Below w.heap.size w w' := by
  have hmx := h.hmax
  have hle := h.hle
  unfold maxLen at hmx
  have HR := Lib.hid h
  have qT : ∀ (w : World) (a : Option Addr) (n c n' c' : Nat), (binOp .eql 59 (.slice a n c) (.slice none n' c')).run Try.prog w = .ok (.bool a.isNone) w := fun w a n c n' c' => Lib.run_eql_slice_nil w _ _ a n c n' c' Try.underlying59
  clear h
  go_enter Try.func58, Try.ntmps58
  have hown0 : Own (w.alloc (.cells #[] 5)) w.heap.size 5 1 (some ⟨w.heap.size, 0, none⟩) 0 0 [] :=
    ⟨rfl, .inr ⟨w.heap.size, 0, #[], rfl, Nat.le_refl _, heap_alloc_new w _, Nat.le_refl _, Nat.zero_le _, rfl, rfl⟩⟩
  have HR1 := Lib.hid (HR.out.below (Below_alloc1 (.cells #[] 5)))
  have HO0 := Lib.hid hown0
  clear hown0
  go_wp2_with (at_builtin; refine wpList_append_any rfl (.tmp 5) (.tmp 6) 59 rfl w.heap.size 5 _ 1 1 Try.underlying59 info_byte0 rfl (by decide) (some ⟨w.heap.size, 0, none⟩) 0 0 [] rfl HO0.out (some a) len cap (xs.map (.int .u8)) rfl HR1.out.toV (one_bytes0 xs) (by unfold maxLen; omega) (by omega) (by simp) ?_)
  intro a1 c1 w1 ho hg
  have LB1 : Hid (Below w.heap.size w w1) := (Below_alloc1 _).grown hg (by simp) (fun k hk => by
    have e : w.heap.size = k := by injection hk
    omega)
  have ho' : Own w1 w.heap.size 5 1 a1 len c1 (xs.map (.int .u8)) := by simpa using ho
  have hgx : ∃ g, a1 = some ⟨g, 0, none⟩ := by
    rcases ho'.form with ⟨_, h0, _⟩ | ⟨g, cur, hg, _⟩
    · omega
    · exact ⟨g, hg⟩
  obtain ⟨g, rfl⟩ := hgx
  have HO := Lib.hid ho'
  clear ho ho' hg HO0 HR1
  go_wp2_with fail
  go_ret
  exact ⟨g, c1, rfl, HO.out, LB1.out⟩
structure Sec where
  data : Option (List Int)
  broken : Bool
/-- A sector of the plate. -/
def secL : Lay Sec where
  size := 2
  pos := by decide
  at_ := fun w F x vs => ∃ a l c, vs = [.slice a l c, .bool x.broken] ∧ (x.data = none ∧ a = none ∧ l = 0 ∧ c = 0 ∨ ∃ d, x.data = some d ∧ d.length = 128 ∧ SRow (Lay.int .u8) w F a l c d)
  len := fun ⟨a, l, c, h, _⟩ => by rw [h]; rfl
  one := fun ⟨a, l, c, h, _⟩ v hv => by
    rw [h] at hv
    simp only [List.mem_cons, List.not_mem_nil, or_false] at hv
    rcases hv with rfl | rfl <;> rfl
  keep := fun ⟨a, l, c, h, hd⟩ hF hw => ⟨a, l, c, h, by
    rcases hd with h0 | ⟨d, h1, h2, h3⟩
    · exact .inl h0
    · exact .inr ⟨d, h1, h2, h3.keep hF hw⟩⟩
/-- What waits. -/
structure Put where
  at_ : Nat
  data : List Int
def putL : Lay Put where
  size := 2
  pos := by decide
  at_ := fun w F x vs => ∃ a l c, vs = [.int .i64 (x.at_ : Int), .slice a l c] ∧ x.data.length = 128 ∧ SRow (Lay.int .u8) w F a l c x.data
  len := fun ⟨a, l, c, h, _⟩ => by rw [h]; rfl
  one := fun ⟨a, l, c, h, _⟩ v hv => by
    rw [h] at hv
    simp only [List.mem_cons, List.not_mem_nil, or_false] at hv
    rcases hv with rfl | rfl <;> rfl
  keep := fun ⟨a, l, c, h, h1, h2⟩ hF hw => ⟨a, l, c, h, h1, h2.keep hF hw⟩
structure DS where
  plate : List Sec
  waits : List Put
  dead : Bool
def DS.new : DS := ⟨List.replicate 8 ⟨none, false⟩, [], false⟩
/-- A drive in memory. -/
def Dr (w : World) (B hd : Nat) (s : DS) : Prop := ∃ (gp cp : Nat) (aw : Option Addr) (lw cw : Nat), B ≤ hd ∧ Box w hd #[.slice (some ⟨gp, 0, none⟩) 8 cp, .slice aw lw cw, .bool s.dead] 136 ∧
  SOwn secL w B 144 (Kind w 5) (some ⟨gp, 0, none⟩) 8 cp s.plate ∧ SOwn putL w B 140 (Kind w 5) aw lw cw s.waits ∧ (∀ x ∈ s.waits, x.at_ < 8)
theorem Dr.keeps {w w' : World} {B hd : Nat} {s : DS} (h : Dr w B hd s) (hk : Keeps [5, 136, 144, 140] w w') : Dr w' B hd s := by
  obtain ⟨gp, cp, aw, lw, cw, hB, hb, hp, hw, ha⟩ := h
  exact ⟨gp, cp, aw, lw, cw, hB, hb.keeps hk (by simp), hp.keeps hk (by simp) (by simp), hw.keeps hk (by simp) (by simp), ha⟩
end Go.Proofs.Yteidmdakglkkfaa
