/- Package snap: which blocks nobody needs any more, as lists; the keeper in memory. -/
import Derived.Test.YthjjfmnipemakaaTh
namespace Go.Proofs.Ythjjfmnipemakaa
open Go.RowKit
set_option linter.unusedVariables false

structure Shot where
  num : Int
  made : Int
  dead : List Int
instance : Inhabited Shot := ⟨⟨0, 0, []⟩⟩
structure Kp where
  now : Int
  blocks : List (Int × Bool)
  shots : List Shot
  kept : Int
/-- A snapshot, and where the slice of its dead lies. -/
abbrev Sh := Shot × Option Addr × Nat × Nat
def blockV (x : Int × Bool) : List Value := [.int .i64 x.1, .bool x.2]
def blockL : Lay (Int × Bool) := Lay.flat 2 (by decide) blockV (fun _ => rfl) (fun x v hv => by
  rcases List.mem_cons.1 hv with rfl | hv
  · rfl
  · obtain rfl := List.mem_singleton.1 hv; rfl)
def shV (x : Sh) : List Value := [.int .i64 x.1.num, .int .i64 x.1.made, .slice x.2.1 x.2.2.1 x.2.2.2]
def shL : Lay Sh := Lay.flat 3 (by decide) shV (fun _ => rfl) (fun x v hv => by
  rcases List.mem_cons.1 hv with rfl | hv
  · rfl
  · rcases List.mem_cons.1 hv with rfl | hv
    · rfl
    · obtain rfl := List.mem_singleton.1 hv; rfl)
def thDead (B : Nat) (x : Sh) : Thing := thOwn (Lay.int .i64) B 3 x.2.1 x.2.2.1 x.2.2.2 x.1.dead
def keepV (s : Kp) (a1 : Option Addr) (n1 c1 : Nat) (a2 : Option Addr) (n2 c2 : Nat) : Array Value := #[.int .i64 s.now, .slice a1 n1 c1, .slice a2 n2 c2, .int .i64 s.kept]
/-- A keeper at k: its box, its blocks, its snapshots, their dead. -/
def thKp (B k : Nat) (vs : Array Value) (bs : List (Int × Bool)) (a1 : Option Addr) (n1 c1 : Nat) (ss : List Sh) (a2 : Option Addr) (n2 c2 : Nat) (ds : List Sh) : Thing :=
  thAll [thBox k vs 93, thOwn blockL B 103 a1 n1 c1 bs, thOwn shL B 106 a2 n2 c2 ss, thAll (ds.map (thDead B))]
/-- The keeper of the state s. -/
def thKeep (B k : Nat) (s : Kp) (a1 : Option Addr) (n1 c1 : Nat) (ss : List Sh) (a2 : Option Addr) (n2 c2 : Nat) : Thing := thKp B k (keepV s a1 n1 c1 a2 n2 c2) s.blocks a1 n1 c1 ss a2 n2 c2 ss
def IsKp (B k : Nat) (s : Kp) (t : Thing) : Prop :=
  ∃ a1 n1 c1 ss a2 n2 c2, ss.map (·.1) = s.shots ∧ t = thKeep B k s a1 n1 c1 ss a2 n2 c2
section
variable {B k : Nat} {vs vs' : Array Value} {bs bs' : List (Int × Bool)} {a1 a1' : Option Addr} {n1 c1 n1' c1' : Nat} {ss ss' : List Sh} {a2 a2' : Option Addr} {n2 c2 n2' c2' : Nat} {ds ds' : List Sh} {w w' : World}
theorem kpBox (h : (thKp B k vs bs a1 n1 c1 ss a2 n2 c2 ds).holds w) : Box w k vs 93 := Apt.all h 0 _ rfl
theorem kpBlocks (h : (thKp B k vs bs a1 n1 c1 ss a2 n2 c2 ds).holds w) : (thOwn blockL B 103 a1 n1 c1 bs).holds w := Apt.all h 1 _ rfl
theorem kpShots (h : (thKp B k vs bs a1 n1 c1 ss a2 n2 c2 ds).holds w) : (thOwn shL B 106 a2 n2 c2 ss).holds w := Apt.all h 2 _ rfl
theorem kpDeads (h : (thKp B k vs bs a1 n1 c1 ss a2 n2 c2 ds).holds w) : Apt (ds.map (thDead B)) w := Apt.all h 3 _ rfl
theorem Turns.kpBox (h : (thKp B k vs bs a1 n1 c1 ss a2 n2 c2 ds).holds w) (t : Turns (thBox k vs 93) (thBox k vs' 93) w w') :
    Turns (thKp B k vs bs a1 n1 c1 ss a2 n2 c2 ds) (thKp B k vs' bs a1 n1 c1 ss a2 n2 c2 ds) w w' := Turns.inside (i := 0) h rfl t
theorem Turns.kpBlocks (h : (thKp B k vs bs a1 n1 c1 ss a2 n2 c2 ds).holds w) (t : Turns (thOwn blockL B 103 a1 n1 c1 bs) (thOwn blockL B 103 a1' n1' c1' bs') w w') :
    Turns (thKp B k vs bs a1 n1 c1 ss a2 n2 c2 ds) (thKp B k vs bs' a1' n1' c1' ss a2 n2 c2 ds) w w' := Turns.inside (i := 1) h rfl t
theorem Turns.kpShots (h : (thKp B k vs bs a1 n1 c1 ss a2 n2 c2 ds).holds w) (t : Turns (thOwn shL B 106 a2 n2 c2 ss) (thOwn shL B 106 a2' n2' c2' ss') w w') :
    Turns (thKp B k vs bs a1 n1 c1 ss a2 n2 c2 ds) (thKp B k vs bs a1 n1 c1 ss' a2' n2' c2' ds) w w' := Turns.inside (i := 2) h rfl t
theorem Turns.kpDeads (h : (thKp B k vs bs a1 n1 c1 ss a2 n2 c2 ds).holds w) (t : Turns (thAll (ds.map (thDead B))) (thAll (ds'.map (thDead B))) w w') :
    Turns (thKp B k vs bs a1 n1 c1 ss a2 n2 c2 ds) (thKp B k vs bs a1 n1 c1 ss a2 n2 c2 ds') w w' := Turns.inside (i := 3) h rfl t
theorem Turns.dead {x x' : Sh} {i : Nat} (h : Apt (ds.map (thDead B)) w) (hi : ds[i]? = some x) (t : Turns (thDead B x) (thDead B x') w w') : Turns (thAll (ds.map (thDead B))) (thAll ((ds.set i x').map (thDead B))) w w' := by
  rw [List.map_set]
  exact Turns.inside (i := i) h (by rw [List.getElem?_map, hi]; rfl) t
end

/-! What a move does. -/
def Kp.lives (s : Kp) (b : Nat) : Bool := (s.blocks.getD b (0, false)).2
def Kp.born (s : Kp) (b : Nat) : Int := (s.blocks.getD b (0, false)).1
def Kp.birth (s : Kp) : Kp × Int × List Int := ({ s with blocks := s.blocks ++ [(s.now, true)] }, 0, [])
def Kp.kill (s : Kp) (b : Nat) : Kp × Int × List Int :=
  if s.lives b = false then (s, 6, [])
  else if h : s.shots = [] then ({ s with blocks := s.blocks.set b (s.born b, false) }, 0, [(b : Int)])
  else if (s.shots.getLast h).made < s.born b then ({ s with blocks := s.blocks.set b (s.born b, false) }, 0, [(b : Int)])
  else ({ s with blocks := s.blocks.set b (s.born b, false), shots := s.shots.set (s.shots.length - 1) { s.shots.getLast h with dead := (s.shots.getLast h).dead ++ [(b : Int)] } }, 0, [])
def Kp.shot (s : Kp) : Kp × Int × List Int :=
  if s.shots.length = 9 then (s, 8, []) else ({ s with shots := s.shots ++ [⟨s.kept, s.now, []⟩], kept := s.kept + 1 }, 0, [])
def shot0 : Shot := ⟨0, 0, []⟩
/-- The place of a snapshot. -/
def Kp.at_ (s : Kp) (num : Int) : Nat := s.shots.findIdx (fun x => x.num == num)
def Kp.ahead (s : Kp) (i : Nat) : Int := if 0 < i then (s.shots.getD (i - 1) shot0).made else -1
def Kp.younger (s : Kp) (i : Nat) (b : Int) : Bool := decide (s.ahead i < s.born b.toNat)
def Kp.gone (s : Kp) (i : Nat) (l : List Int) : List Int := l.filter (s.younger i)
def Kp.rest (s : Kp) (i : Nat) (l : List Int) : List Int := l.filter (fun b => !s.younger i b)
/-- The snapshots once the dead l of the one at i are dealt out. -/
def Kp.dealt (s : Kp) (i : Nat) (l : List Int) : List Shot :=
  s.shots.set (i - 1) { s.shots.getD (i - 1) shot0 with dead := (s.shots.getD (i - 1) shot0).dead ++ s.rest i l }
def sortI (l : List Int) : List Int := l.mergeSort fun x y => decide (x ≤ y)
def Kp.drop (s : Kp) (num : Int) : Kp × Int × List Int :=
  let i := s.at_ num
  if s.shots.length ≤ i then (s, 6, [])
  else ({ s with shots := (if 0 < i then s.dealt i (s.shots.getD i shot0).dead else s.shots).eraseIdx i }, 0, sortI (s.gone i (s.shots.getD i shot0).dead))
/-- A move: its kind, and which. -/
def Kp.move (s : Kp) (k : Int) (w : Nat) : Kp × Int × List Int :=
  if k = 1 then s.birth else if k = 2 then s.kill w else if k = 3 then s.shot else s.drop (w : Int)
/-- What is small enough to walk on. -/
structure Kp.Lim (s : Kp) : Prop where
  now : 0 ≤ s.now ∧ s.now ≤ 1000
  kept : 0 ≤ s.kept ∧ s.kept ≤ 1000
  bl : s.blocks.length < 200
  sl : s.shots.length ≤ 1000
  dl : ∀ x ∈ s.shots, x.dead.length ≤ 100000
  dv : ∀ x ∈ s.shots, ∀ b ∈ x.dead, 0 ≤ b ∧ b < s.blocks.length
  bb : ∀ x ∈ s.blocks, 0 ≤ x.1

theorem flatV {α : Type} {n : Nat} {hn : 0 < n} {f : α → List Value} {hf : ∀ x, (f x).length = n} {h1 : ∀ x, ∀ v ∈ f x, v.oneCell' = true} {w : World} {F : Nat → Prop} {xs : List α} {vss : List (List Value)}
    (h : Pt (Lay.flat n hn f hf h1) w F xs vss) : vss = xs.map f := by
  apply List.ext_getElem?
  intro i
  by_cases hi : i < xs.length
  · have hi' : i < vss.length := by rw [← h.1]; exact hi
    have := h.2 i _ _ (List.getElem?_eq_getElem hi) (List.getElem?_eq_getElem hi')
    rw [List.getElem?_map, List.getElem?_eq_getElem hi', List.getElem?_eq_getElem hi]
    exact congrArg some this
  · rw [List.getElem?_eq_none (by have := h.1; omega), List.getElem?_eq_none (by rw [List.length_map]; omega)]
/-- A row of flat data: its block. -/
theorem SOwn.flatForm {α : Type} {n : Nat} {hn : 0 < n} {f : α → List Value} {hf : ∀ x, (f x).length = n} {h1 : ∀ x, ∀ v ∈ f x, v.oneCell' = true} {w : World} {B : Nat} {e : TypeId} {G : Nat → Prop} {a : Option Addr} {len cap : Nat} {xs : List α}
    (h : SOwn (Lay.flat n hn f hf h1) w B e G a len cap xs) :
    (a = none ∧ len = 0 ∧ cap = 0 ∧ xs = []) ∨ ∃ g cur, a = some ⟨g, 0, none⟩ ∧ B ≤ g ∧ w.heap[g]? = some (.cells cur e (0, 0)) ∧ len ≤ cap ∧ cap ≤ maxLen ∧ cur.size = cap * n ∧ cur.toList.take (len * n) = (xs.map f).flatten := by
  obtain ⟨hl, vss, F, ho, hp, hF⟩ := h
  have e := flatV hp
  subst e
  rcases ho.form with ⟨h1, h2, h3, h4⟩ | h4
  · exact .inl ⟨h1, h2, h3, List.eq_nil_of_length_eq_zero (by omega)⟩
  · exact .inr h4
theorem SOwn.flatMake {α : Type} {n : Nat} {hn : 0 < n} {f : α → List Value} {hf : ∀ x, (f x).length = n} {h1 : ∀ x, ∀ v ∈ f x, v.oneCell' = true} {w : World} {B : Nat} {e : TypeId} {G : Nat → Prop} {g len cap : Nat} {xs : List α} {cur : Array Value}
    (hl : xs.length = len) (hB : B ≤ g) (hg : w.heap[g]? = some (.cells cur e (0, 0))) (hlc : len ≤ cap) (hm : cap ≤ maxLen) (hs : cur.size = cap * n) (ht : cur.toList.take (len * n) = (xs.map f).flatten) :
    SOwn (Lay.flat n hn f hf h1) w B e G (some ⟨g, 0, none⟩) len cap xs := by
  have hsz : ∀ v ∈ xs.map f, v.length = n := by
    intro v hv
    obtain ⟨x, _, rfl⟩ := List.mem_map.1 hv
    exact hf x
  refine ⟨hl, xs.map f, fun _ => False, ⟨?_, .inr ⟨g, cap, cur, rfl, hB, hg, hlc, hm, hs, ht⟩⟩, ⟨by simp, fun i x vs hx hv => ?_⟩, fun b hb => hb.elim⟩
  · rw [flatten_length n _ hsz, List.length_map, hl]; rfl
  · rw [List.getElem?_map, hx] at hv
    obtain rfl : f x = vs := by simpa using hv
    rfl
theorem flatten_set {α : Type} (n : Nat) : ∀ (l : List (List α)), (∀ x ∈ l, x.length = n) → ∀ (i j : Nat) (v : α), i < l.length → j < n → (l.set i ((l.getD i []).set j v)).flatten = l.flatten.set (i * n + j) v
  | [], _, i, j, v, h, _ => absurd h (by simp)
  | x :: l, h, 0, j, v, _, hj => by
    have hx := h x (List.mem_cons_self ..)
    simp only [List.set_cons_zero, List.flatten_cons, List.getD_cons_zero, Nat.zero_mul, Nat.zero_add]
    rw [List.set_append, if_pos (by omega)]
  | x :: l, h, i + 1, j, v, hi, hj => by
    have hx := h x (List.mem_cons_self ..)
    simp only [List.set_cons_succ, List.flatten_cons, List.getD_cons_succ]
    rw [List.set_append, if_neg (by rw [hx, Nat.add_mul]; omega), flatten_set n l (fun y hy => h y (List.mem_cons_of_mem _ hy)) i j v (by simpa using hi) hj,
      show (i + 1) * n + j - x.length = i * n + j by rw [hx, Nat.add_mul]; omega]
/-- One cell of one datum is stored. -/
theorem SOwn.put {α : Type} [Inhabited α] {n : Nat} {hn : 0 < n} {f : α → List Value} {hf : ∀ x, (f x).length = n} {h1 : ∀ x, ∀ v ∈ f x, v.oneCell' = true} {w : World} {B : Nat} {e : TypeId} {G : Nat → Prop} {g len cap : Nat} {xs : List α}
    (h : SOwn (Lay.flat n hn f hf h1) w B e G (some ⟨g, 0, none⟩) len cap xs) (i j : Nat) (x' : α) (v : Value) (hi : i < len) (hj : j < n) (hx : f x' = (f (xs.getD i default)).set j v) :
    SOwn (Lay.flat n hn f hf h1) (w.setCell ⟨g, i * n + j, none⟩ v) B e G (some ⟨g, 0, none⟩) len cap (xs.set i x') := by
  have hl := h.1
  rcases h.flatForm with ⟨h0, _⟩ | ⟨g', cur, hg', hB, hg, hlc, hm, hs, ht⟩
  · cases h0
  obtain rfl : g = g' := by simpa using hg'
  have hb : Box w g cur e := hg
  have hb' := hb.set (i * n + j) v
  have hk : i * n + j < len * n := by
    have : i * n + n ≤ len * n := by rw [← Nat.succ_mul]; exact Nat.mul_le_mul_right _ hi
    omega
  refine SOwn.flatMake (by simpa using hl) hB hb' hlc hm (by simpa using hs) ?_
  have hsz : ∀ y ∈ xs.map f, y.length = n := by
    intro y hy
    obtain ⟨x, _, rfl⟩ := List.mem_map.1 hy
    exact hf x
  have := flatten_set n (xs.map f) hsz i j v (by simpa [hl] using hi) hj
  rw [Array.toList_setIfInBounds, List.take_set, ht, List.map_set, hx, ← this]
  congr 2
  simp [List.getD, hl, hi]
theorem ownBlock_some (g len cap : Nat) : (Value.slice (some ⟨g, 0, none⟩) len cap).ownBlock = some g := rfl
theorem Turns.put {α : Type} [Inhabited α] {n : Nat} {hn : 0 < n} {f : α → List Value} {hf : ∀ x, (f x).length = n} {h1 : ∀ x, ∀ v ∈ f x, v.oneCell' = true} {w : World} {B : Nat} {e : TypeId} {g len cap : Nat} {xs : List α}
    (h : (thOwn (Lay.flat n hn f hf h1) B e (some ⟨g, 0, none⟩) len cap xs).holds w) (i j : Nat) (x' : α) (v : Value) (hi : i < len) (hj : j < n) (hx : f x' = (f (xs.getD i default)).set j v) :
    Turns (thOwn (Lay.flat n hn f hf h1) B e (some ⟨g, 0, none⟩) len cap xs) (thOwn (Lay.flat n hn f hf h1) B e (some ⟨g, 0, none⟩) len cap (xs.set i x')) w (w.setCell ⟨g, i * n + j, none⟩ v) :=
  ⟨SOwn.put h i j x' v hi hj hx, Mv.setCell v rfl, fun b hb => .inl hb⟩
theorem Turns.box {w : World} {g : Nat} {vs : Array Value} {t : TypeId} (h : (thBox g vs t).holds w) (j : Nat) (v : Value) : Turns (thBox g vs t) (thBox g (vs.setIfInBounds j v) t) w (w.setCell ⟨g, j, none⟩ v) :=
  ⟨Box.set h j v, Mv.setCell v rfl, fun b hb => .inl hb⟩
/-- What an append left. -/
theorem Turns.grown {α : Type} {L : Lay α} {w w' : World} {B : Nat} {e : TypeId} {a a' : Option Addr} {len cap len' cap' : Nat} {xs xs' : List α} (h : SOwn L w' B e (fun _ => False) a' len' cap' xs') (hg : w.grownBy w' (Value.slice a len cap).ownBlock)
    (hat : (Value.slice a' len' cap').ownBlock = (Value.slice a len cap).ownBlock ∨ ∀ b, (Value.slice a' len' cap').ownBlock = some b → w.heap.size ≤ b) : Turns (thOwn L B e a len cap xs) (thOwn L B e a' len' cap' xs') w w' :=
  ⟨h, Mv.grown hg (fun g hg => hg), fun b hb => by
    rcases hat with h1 | h1
    · left; show (Value.slice a len cap).ownBlock = some b; rw [← h1]; exact hb
    · exact .inr (h1 b hb)⟩
end Go.Proofs.Ythjjfmnipemakaa
