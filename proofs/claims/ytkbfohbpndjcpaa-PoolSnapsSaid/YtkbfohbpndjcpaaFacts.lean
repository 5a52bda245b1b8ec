/- Facts about memory, carried together from world to world. -/
import Derived.Test.YtkbfohbpndjcpaaLay
namespace Go.Proofs.Ytkbfohbpndjcpaa
open Go.RowKit
set_option linter.unusedVariables false

/-- A fact about memory that new blocks leave standing. -/
structure Stay where
  holds : World → Prop
  stays : ∀ {w w' : World}, holds w → Below w.heap.size w w' → holds w'
/-- All of some facts. -/
def Facts : List Stay → World → Prop
  | [], _ => True
  | p :: ps, w => p.holds w ∧ Facts ps w
theorem Facts.below : ∀ {L : List Stay} {w w' : World}, Facts L w → Below w.heap.size w w' → Facts L w'
  | [], _, _, _, _ => trivial
  | p :: _, _, _, h, hb => ⟨p.stays h.1 hb, Facts.below h.2 hb⟩
theorem Facts.none (w : World) : Facts [] w := trivial
theorem Facts.add {L : List Stay} {w : World} (h : Facts L w) (p : Stay) (hp : p.holds w) : Facts (p :: L) w := ⟨hp, h⟩
theorem Facts.drewN {L : List Stay} {w : World} (h : Facts L w) (n : Nat) : Facts L (w.drewN n) := h.below (below_drewN (Below.refl _ _) n)
def sRow (k : IntKind) (a : Option Addr) (len cap : Nat) (xs : List Int) : Stay := ⟨fun w => Row k w a len cap xs, fun h hb => h.below hb⟩
def sData {α : Type} (L : Lay α) (F : Nat → Prop) (a : Option Addr) (len cap : Nat) (xs : List α) : Stay := ⟨fun w => SRow L w F a len cap xs, fun h hb => h.below hb⟩
def sOwn {α : Type} (L : Lay α) (base : Nat) (e : TypeId) (G : Nat → Prop) (a : Option Addr) (len cap : Nat) (xs : List α) : Stay := ⟨fun w => SOwn L w base e G a len cap xs, fun h hb => h.below hb⟩
def sBox (g : Nat) (vs : Array Value) (t : TypeId) : Stay := ⟨fun w => Box w g vs t, fun h hb => h.below hb h.lt⟩
/-- Of the world W nothing has turned since. -/
def sSince (W : World) : Stay := ⟨fun w => Below W.heap.size W w, fun h hb => h.trans (hb.mono h.size)⟩
/-- A new block, under a name. -/
theorem boxed (w : World) (cs : Array Value) (t : TypeId) : ∃ V g, V = w.alloc (.cells cs t) ∧ w.heap.size = g ∧ Box V g cs t ∧ Below w.heap.size w V :=
  ⟨_, _, rfl, rfl, Box.new rfl, Below_alloc1 _⟩
end Go.Proofs.Ytkbfohbpndjcpaa
