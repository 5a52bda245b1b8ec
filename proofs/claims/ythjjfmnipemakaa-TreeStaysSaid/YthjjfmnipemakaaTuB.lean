/- Clone of bytes; what the walk of Nodes wants. -/
import Derived.Test.YthjjfmnipemakaaTuA
import Derived.Test.YthjjfmnipemakaaTsD
namespace Go.Proofs.Ythjjfmnipemakaa
open Go.RowKit
set_option linter.unusedVariables false
set_option maxRecDepth 100000

set_option maxHeartbeats 2000000 in
theorem cloneT (b off len cap : Nat) (xs : List Int) (w : World) (h : Row .u8 w (some ⟨b, off, none⟩) len cap xs) (hb : len ≤ 1000000) :
    Calls Try.prog 23 #[.slice (some ⟨b, off, none⟩) len cap] w fun e w' => ∃ a c, e = .returned (.slice a len c) ∧ Hid (Turns (thAll []) (thOwn (Lay.int .u8) w.heap.size 5 a len c xs) w w') := by
  have hle := h.hle
  have hmx := h.hmax
  have hln := h.hlen
  unfold maxLen at hmx
  have HR := Lib.hid h
  have qT : ∀ (w : World) (a : Option Addr) (n c n' c' : Nat), (binOp .eql 23 (.slice a n c) (.slice none n' c')).run Try.prog w = .ok (.bool a.isNone) w := fun w a n c n' c' => Lib.run_eql_slice_nil w _ _ a n c n' c' Try.underlying23
  have HV : Hid (VRow (w.alloc (.cells #[] 5)) 1 (some ⟨b, off, none⟩) len cap (xs.map fun x => [Value.int .u8 x]).flatten) := by show VRow _ _ _ _ _ _; rw [flatten_ints]; exact (h.below (Below_alloc1 _)).toV
  have HP : Hid (Pt (Lay.int .u8) (w.alloc (.cells #[] 5)) (fun _ => False) xs (xs.map fun x => [Value.int .u8 x])) := Pt.ints h.hwf
  have HL := Lib.hid hln
  have O0 : Hid ((thOwn (Lay.int .u8) w.heap.size 5 (some ⟨w.heap.size, 0, none⟩) 0 0 []).holds (w.alloc (.cells #[] 5))) := byteOwn (xs := []) (Box.new rfl) (Nat.le_refl _) rfl (Nat.zero_le _) (fun x hx => by cases hx)
  have T0 : Hid (Turns (thAll []) (thOwn (Lay.int .u8) w.heap.size 5 (some ⟨w.heap.size, 0, none⟩) 0 0 []) w (w.alloc (.cells #[] 5))) := ⟨O0.out, Mv.alloc _ _, fun b hb => .inr (by have : some w.heap.size = some b := hb; injection this with this; omega)⟩
  clear h hln
  go_enter Try.func23, Try.ntmps23
  go_wp2_with (at_builtin; refine wpList_append_T (L := Lay.int .u8) rfl (.tmp 5) (.tmp 6) 23 rfl w.heap.size 5 _ 1 Try.underlying23 info_byte0 rfl (some ⟨w.heap.size, 0, none⟩) 0 0 [] rfl O0.out (some ⟨b, off, none⟩) len cap xs (xs.map fun x => [Value.int .u8 x]) rfl HV.out HP.out HL.out (by unfold maxLen; omega) (by omega) (by simp) ?_; intro a2 c2 w2 T2; have T3 := Lib.hid (T0.out.trans T2); rw [Nat.zero_add] at T3; clear T2)
  go_ret
  exact ⟨a2, c2, rfl, T3⟩
def ptrL : Lay PRt := Lay.flat 1 (by decide) (fun x => [rptr (some x)]) (fun _ => rfl) (fun x v hv => by obtain rfl := List.mem_singleton.1 hv; rfl)
def nd3 (x : Nd) : List Value := [.int .i64 x.id, .int .i64 x.birth, .int .i64 x.level]
def ndL : Lay Nd := Lay.map (Lay.pair (Lay.flat 3 (by decide) nd3 (fun _ => rfl) (fun x v hv => by
  unfold nd3 at hv
  simp only [List.mem_cons, List.mem_nil_iff, or_false] at hv
  rcases hv with rfl | rfl | rfl <;> rfl)) (Lay.pair (Lay.int .i64).slice (Lay.int .u8).slice)) (fun x => (x, x.kids, x.data))
def ndV (id birth level : Int) (ak : Option Addr) (nk ck : Nat) (ad : Option Addr) (nd cd : Nat) : Array Value := #[.int .i64 id, .int .i64 birth, .int .i64 level, .slice ak nk ck, .slice ad nd cd]
theorem info_node : (Try.prog.info? 42).map (fun i => (i.zero, i.size, i.bytes)) = some (some (.agg #[.int .i64 0, .int .i64 0, .int .i64 0, .slice none 0 0, .slice none 0 0]), 5, 72) := by kernel_rfl
theorem info_ptr : (Try.prog.info? 76).map (fun i => (i.zero, i.size, i.bytes)) = some (some (.pointer none), 1, 8) := by kernel_rfl
theorem info_int0 : (Try.prog.info? 3).map (fun i => (i.zero, i.size, i.bytes)) = some (some (.int .i64 0), 1, 8) := by kernel_rfl
theorem nd_at {B : Nat} {ak ad : Option Addr} {nk ck nd cd : Nat} {w : World} (x : Nd) (h : Apt [thOwn (Lay.int .i64) B 3 ak nk ck x.kids, thOwn (Lay.int .u8) B 5 ad nd cd x.data] w) :
    ndL.at_ w (thAll [thOwn (Lay.int .i64) B 3 ak nk ck x.kids, thOwn (Lay.int .u8) B 5 ad nd cd x.data]).foot x (ndV x.id x.birth x.level ak nk ck ad nd cd).toList :=
  ⟨nd3 x, [.slice ak nk ck, .slice ad nd cd], rfl, rfl, [.slice ak nk ck], [.slice ad nd cd], rfl,
    ⟨ak, nk, ck, rfl, (own_srowT (h.all 0 _ rfl)).keep (fun b hb => ⟨_, List.mem_cons_self .., hb⟩) (fun _ _ _ => rfl)⟩,
    ⟨ad, nd, cd, rfl, (own_srowT (h.all 1 _ rfl)).keep (fun b hb => ⟨_, List.mem_cons_of_mem _ (List.mem_cons_self ..), hb⟩) (fun _ _ _ => rfl)⟩⟩
theorem six_in {b k d t o r : Thing} {w : World} (h : Apt [b, k, d, t, o, r] w) : Turns (thAll [b, k, d, t, o, r]) (thAll [thAll [thAll [b, t, r], thAll [k, d]], o]) w w := by
  have T1 : Turns _ (thAll [b, t, r, k, d, o]) w w := Turns.pick [0, 3, 5, 1, 2, 4] h (by decide) (by intro i hi; show i < 6; revert i; decide)
  have T2 := T1.trans (Turns.part (l := [b, t, r, k, d]) (m := [o]) T1.now)
  have T3 := T2.trans (Turns.inside (i := 1) T2.now rfl (Turns.unsingle (T2.now.all 1 _ rfl)))
  exact T3.trans (Turns.inside (i := 0) T3.now rfl (Turns.part (l := [b, t, r]) (m := [k, d]) (T3.now.all 0 _ rfl)))
theorem six_out {b t r o : Thing} {w : World} (h : Apt [thAll [b, t, r], o] w) : Turns (thAll [thAll [b, t, r], o]) (thAll [t, o, r]) w w := by
  have T1 := Turns.inside (i := 1) h rfl (Turns.single (h.all 1 _ rfl))
  have T2 := T1.trans (Turns.join (l := [b, t, r]) (m := [o]) T1.now)
  exact T2.trans (Turns.pick [1, 3, 2] T2.now (by decide) (by intro i hi; show i < 4; revert i; decide))
def kidsP (r : PRt) : List (Option PRt) := match r with
  | ⟨0, _⟩ => []
  | ⟨n + 1, t⟩ => (InP.kids t).map asR
theorem kidsP_er (r : PRt) : (kidsP r).map (Option.map PRt.er) = kidsT (PRt.er r) := by
  obtain ⟨n, t⟩ := r
  cases n with
  | zero => rfl
  | succ n =>
    show ((InP.kids t).map asR).map (Option.map PRt.er) = ((InP.kids t).map (Option.map (PT.er n))).map (Option.map fun k => (⟨n, k⟩ : Rt))
    rw [List.map_map, List.map_map]
    apply List.map_congr_left
    intro k _
    cases k <;> rfl
theorem filter_er : ∀ (l : List (Option PRt)), (l.filterMap id).map PRt.er = (l.map (Option.map PRt.er)).filterMap id
  | [] => rfl
  | none :: l => filter_er l
  | some x :: l => by show PRt.er x :: (l.filterMap id).map PRt.er = PRt.er x :: _; rw [filter_er l]
def idOfP (r : PRt) : Nat := T.idOf (PRt.er r).2
def birthOfP (r : PRt) : Nat := T.birthOf (PRt.er r).2
theorem cells_id {n : Nat} (t : PT n) : (PT.cells t)[0]? = some (.int .i64 (idOfP ⟨n, t⟩ : Nat)) := by
  cases n with
  | zero => simp [PT.cells, nodeV, idOfP, T.idOf, PRt.er, PT.er]
  | succ n => simp [PT.cells, nodeV, idOfP, T.idOf, PRt.er, PT.er]
theorem cells_birth {n : Nat} (t : PT n) : (PT.cells t)[1]? = some (.int .i64 (birthOfP ⟨n, t⟩ : Nat)) := by
  cases n with
  | zero => simp [PT.cells, nodeV, birthOfP, T.birthOf, PRt.er, PT.er]
  | succ n => simp [PT.cells, nodeV, birthOfP, T.birthOf, PRt.er, PT.er]
theorem ptrCell {B : Nat} {a : Option Addr} {n c : Nat} {row : List PRt} {w : World} (h : (thOwn ptrL B 76 a n c row).holds w) (i : Nat) (x : PRt) (hx : row[i]? = some x) :
    ∃ g, a = some ⟨g, 0, none⟩ ∧ g < w.heap.size ∧ i < n ∧ w.cell? ⟨g, i, none⟩ = some (.pointer (some ⟨PT.gOf x.2, 0, none⟩)) := by
  have hi : i < n := by have := (List.getElem?_eq_some_iff.1 hx).1; have := h.1; omega
  obtain ⟨g, vs', ha, _, hg, ⟨y, hy, hat⟩, hc⟩ := SOwn.get h i hi
  rw [hx] at hy
  obtain rfl := Option.some.inj hy
  have e : vs' = [rptr (some x)] := hat
  subst e
  have := hc 0 (by decide)
  exact ⟨g, ha, hg, hi, by rw [show i * ptrL.size + 0 = i by show i * 1 + 0 = i; omega] at this; exact this⟩
/-- The nodes that were found, and those that are told of. -/
structure Found (W : World) (G : Nat → Prop) (cur : Nat) (root : Option Rt) (i : Nat) (row : List PRt) : Prop where
  er : row.map PRt.er = root.toList ++ flatK kidsT ((allT root).take i)
  old : ∀ x ∈ row, OldR W G cur (some x)
  le : i ≤ row.length
theorem Found.pfx {W : World} {G : Nat → Prop} {cur : Nat} {root : Option Rt} {i : Nat} {row : List PRt} (h : Found W G cur root i row) : ∃ m, row.map PRt.er ++ m = allT root := by
  cases root with
  | none => exact ⟨[], by rw [h.er]; simp [allT, flatK]⟩
  | some r =>
    obtain ⟨m, hm⟩ := lev_prefix lv_T r.1 r rfl i
    exact ⟨m, by rw [h.er]; exact hm⟩
theorem Found.len {W : World} {G : Nat → Prop} {cur : Nat} {root : Option Rt} {i : Nat} {row : List PRt} (h : Found W G cur root i row) : row.length ≤ (allT root).length := by
  obtain ⟨m, hm⟩ := h.pfx
  rw [← hm, List.length_append, List.length_map]; omega
theorem Found.get {W : World} {G : Nat → Prop} {cur : Nat} {root : Option Rt} {i : Nat} {row : List PRt} (h : Found W G cur root i row) (j : Nat) (x : PRt) (hx : row[j]? = some x) : (allT root)[j]? = some (PRt.er x) := by
  obtain ⟨m, hm⟩ := h.pfx
  have hj := (List.getElem?_eq_some_iff.1 hx).1
  rw [← hm, List.getElem?_append_left (by rw [List.length_map]; exact hj), List.getElem?_map, hx]; rfl
theorem Found.done {W : World} {G : Nat → Prop} {cur : Nat} {root : Option Rt} {row : List PRt} (h : Found W G cur root row.length row) : row.length = (allT root).length := by
  cases root with
  | none =>
    have := congrArg List.length h.er
    rw [List.length_map] at this
    rw [this]; simp [allT, flatK]
  | some r =>
    refine lev_done lv_T r.1 r rfl row.length h.len ?_
    have := congrArg List.length h.er
    rw [List.length_map] at this
    exact this.symm
theorem Found.next {W : World} {G : Nat → Prop} {cur : Nat} {root : Option Rt} {i : Nat} {row : List PRt} (h : Found W G cur root i row) (x : PRt) (hx : row[i]? = some x) : Found W G cur root (i + 1) (row ++ (kidsP x).filterMap id) := by
  have hg := h.get i x hx
  have hi := (List.getElem?_eq_some_iff.1 hg)
  refine ⟨?_, fun y hy => ?_, by rw [List.length_append]; have := (List.getElem?_eq_some_iff.1 hx).1; omega⟩
  · rw [List.map_append, h.er, filter_er, kidsP_er, List.take_succ_eq_append_getElem hi.1, hi.2, flatK_append, List.append_assoc]
    congr 2
    show _ = (kidsT (PRt.er x)).filterMap id ++ []
    rw [List.append_nil]
  · rcases List.mem_append.1 hy with hy | hy
    · exact h.old y hy
    · have hox := h.old x (List.mem_of_getElem? hx)
      obtain ⟨z, hz, hzy⟩ := List.mem_filterMap.1 hy
      have hz' : some y ∈ kidsP x := by have : z = some y := hzy; rw [← this]; exact hz
      obtain ⟨n, t⟩ := x
      cases n with
      | zero => cases hz'
      | succ n =>
        obtain ⟨k, hk, hke⟩ := List.mem_map.1 (show some y ∈ (InP.kids t).map asR from hz')
        cases k with
        | none => cases hke
        | some k =>
          obtain rfl := Option.some.inj hke
          exact hox.2.2.2.2 _ hk
end Go.Proofs.Ythjjfmnipemakaa
