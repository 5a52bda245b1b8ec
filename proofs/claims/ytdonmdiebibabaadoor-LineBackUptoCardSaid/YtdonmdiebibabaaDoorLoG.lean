/- The walk of LineCommand. (Printed by lcgen.py.) -/
import Derived.Test.YtdonmdiebibabaaDoorLoC
import Derived.Test.YtdonmdiebibabaaDoorLnG
namespace Go.Proofs.YtdonmdiebibabaaDoor
open Go.RowKit Go.Sort
set_option linter.unusedVariables false
set_option maxRecDepth 100000
set_option linter.unusedSimpArgs false

def snN (a : Int) : Nm := ([[115], [116], [117, 48], [118]] : List Nm).getD (a % 4).toNat []
set_option maxHeartbeats 4000000 in
theorem snapNameL (n : Int) (w : World) : Calls Tryd.prog 27 #[.int .i64 n] w fun e w' => e = .returned (encStr (snN n)) ∧ Hid (Below w.heap.size w w') := by
  have h0 := Int.emod_nonneg n (b := 4) (by decide)
  have h1 := Int.emod_lt_of_pos n (b := 4) (by decide)
  have hk : n % 4 = 0 ∨ n % 4 = 1 ∨ n % 4 = 2 ∨ n % 4 = 3 := by omega
  rcases hk with hk | hk | hk | hk
  all_goals
    have HK := Lib.hid hk
    clear hk h0 h1
    go_enter Tryd.func27, Tryd.ntmps27
    go_wp2_with (go_at_call 6; refine (picked n 4 _ (by omega) (by omega)).mono ?_; rintro e w' ⟨r, hr, hr0, hr1, rfl, rfl⟩; have hr' := hr.out; rw [HK.out] at hr'; subst hr'; clear hr)
    go_ret
    exact ⟨by unfold snN; rw [HK.out]; rfl, Below_alloc1 _⟩
theorem snN_ok (n : Int) : nameOk (snN n) = true := by
  have h0 := Int.emod_nonneg n (b := 4) (by decide)
  have h1 := Int.emod_lt_of_pos n (b := 4) (by decide)
  have hk : n % 4 = 0 ∨ n % 4 = 1 ∨ n % 4 = 2 ∨ n % 4 = 3 := by omega
  unfold snN
  rcases hk with hk | hk | hk | hk <;> rw [hk] <;> decide
theorem objN_name (n : Int) : nameOk (objN n) = true := by
  have h0 := Int.emod_nonneg n (b := 5) (by decide)
  have h1 := Int.emod_lt_of_pos n (b := 5) (by decide)
  have hk : n % 5 = 0 ∨ n % 5 = 1 ∨ n % 5 = 2 ∨ n % 5 = 3 ∨ n % 5 = 4 := by omega
  unfold objN
  rcases hk with hk | hk | hk | hk | hk <;> rw [hk] <;> decide
/-- The command that LineCommand makes, of the kind k + 1. -/
def lineCmd (k : Nat) (N1 N2 : Nm) (off cnt keep drive : Int) (xs : List Int) : Cmd :=
  ⟨(k : Int) + 1, if k + 1 ∈ [1, 5, 2, 3, 4, 8] then N1 else [], if k + 1 ∈ [7, 8, 9, 10] then N2 else [], if k + 1 ∈ [2, 3, 8, 15] then off else 0, if k + 1 ∈ [3, 8, 4, 14, 19] then cnt else 0, if k + 1 ∈ [15, 16, 17] then drive else 0, if k + 1 ∈ [13, 14, 19] then keep else 0, if k + 1 = 2 then xs else []⟩
theorem line_shows (k : Fin 19) (N1 N2 : Nm) (off cnt keep drive : Int) (xs : List Int) (h1 : nameOk N1 = true) (h2 : nameOk N2 = true) :
    showL (lettersOf k.val) (lineCmd k.val N1 N2 off cnt keep drive xs) = some ((lettersOf k.val).map (fun x => getL x (lineCmd k.val N1 N2 off cnt keep drive xs)), .mt ((k.val : Int) + 1)) := by
  obtain ⟨k, hk⟩ := k
  repeat (first | (exfalso; omega) | (cases k with | zero => simp [lettersOf, wordsT, lineCmd, showL, okL, getL, clrL, Cmd.mt, h1, h2]; done | succ k => ?_))
theorem lineCmd_shows (k : Nat) (hk : k < 19) (N1 N2 : Nm) (off cnt keep drive : Int) (xs : List Int) (h1 : nameOk N1 = true) (h2 : nameOk N2 = true) : ∃ s, Shows (lineCmd k N1 N2 off cnt keep drive xs) s := by
  refine ⟨_, (lettersOf k).map (fun x => getL x (lineCmd k N1 N2 off cnt keep drive xs)), ?_, ?_, ?_, rfl⟩
  · show (1 : Int) ≤ (k : Int) + 1; omega
  · show (k : Int) + 1 ≤ 19; omega
  · have e : ((lineCmd k N1 N2 off cnt keep drive xs).kind - 1).toNat = k := by show ((k : Int) + 1 - 1).toNat = k; omega
    rw [e]
    exact line_shows ⟨k, hk⟩ N1 N2 off cnt keep drive xs h1 h2
theorem results_boxL {P : Program} {fn : Func} {p : Tmp} {ty : TypeId} (h : fn.results = #[.cell p ty]) (tmps : Array Value) (w : World) (g : Nat) (t : TypeId) (cs : Array Value) (hg : Box w g cs t) (d : TypeDesc)
    (hp : tmps.getD p undef = .pointer (some ⟨g, 0, none⟩))
    (hu : P.underlying ty = some d) (hd : (match d with | .struct _ | .array _ _ => true | _ => false) = true) (hi : (P.info? ty).map (·.size) = some cs.size) :
    (results fn tmps).run P w = .ok (.agg cs) w := by
  have hp' : tmps[p]?.getD undef = .pointer (some ⟨g, 0, none⟩) := by simpa using hp
  simp [results, h, hp', asAddr, run_loadVar_row w g t ty cs (0, 0) d hg hu hd hi]
theorem row_nilL (w : World) : Row .u8 w none 0 0 [] := ⟨rfl, Nat.le_refl _, Nat.zero_le _, fun _ => rfl, fun x hx => (List.not_mem_nil hx).elim, .inl rfl⟩
def cmdZ : Array Value := #[.int .i64 0, .string ⟨#[]⟩, .string ⟨#[]⟩, .int .i64 0, .int .i64 0, .int .i64 0, .int .i64 0, .slice none 0 0]
/-- What LineCommand knows of the world: the order, the command, the result's cells. -/
structure LcK (w : World) (G : Nat) (cs : Array Value) (P : Nat) (oc : Array Value) (wr : World) : Prop where
  below : Below w.heap.size w wr
  gw : w.heap.size + 1 < G
  pw : P = w.heap.size
  g : Box wr G cs 39
  p : Box wr P oc 37
  r : Box wr (w.heap.size + 1) cmdZ 39
theorem LcK.lt {w wr : World} {G P : Nat} {cs oc : Array Value} (h : LcK w G cs P oc wr) : w.heap.size < wr.heap.size := by have := h.p.lt; have := h.pw; omega
theorem LcK.under {w wr w2 : World} {G P : Nat} {cs oc : Array Value} (h : LcK w G cs P oc wr) (hb : Below wr.heap.size wr w2) : LcK w G cs P oc w2 :=
  ⟨h.1.trans (hb.mono h.1.size), h.2, h.3, h.g.below hb h.g.lt, h.p.below hb h.p.lt, h.r.below hb h.r.lt⟩
theorem LcK.set {w wr : World} {G P : Nat} {cs oc : Array Value} (h : LcK w G cs P oc wr) (j : Nat) (v : Value) : LcK w G (cs.setIfInBounds j v) P oc (wr.setCell ⟨G, j, none⟩ v) :=
  ⟨below_setG h.1 G (by have := h.2; omega) j v, h.2, h.3, h.g.set j v, Box.other h.p _ (by show G ≠ P; have := h.2; have := h.3; omega) v, Box.other h.r _ (by show G ≠ w.heap.size + 1; have := h.2; omega) v⟩
theorem LcK.grown {w wr w2 : World} {G P : Nat} {cs oc : Array Value} (h : LcK w G cs P oc wr) (hg : wr.grownBy w2 (Value.slice none 0 0).ownBlock) : LcK w G cs P oc w2 :=
  ⟨(SOwn.nil (Lay.int .u8) wr w.heap.size 5 (fun _ => True)).grown h.1 (Nat.le_refl _) h.1.size hg, h.2, h.3, (hg.block G h.g.lt (by simp [Value.ownBlock])).trans h.g, (hg.block P h.p.lt (by simp [Value.ownBlock])).trans h.p, (hg.block _ h.r.lt (by simp [Value.ownBlock])).trans h.r⟩
theorem LcK.finish {w wr w2 : World} {G P : Nat} {cs oc : Array Value} (h : LcK w G cs P oc wr) (hg : wr.grownBy w2 (some (w.heap.size + 1))) : Hid (Below w.heap.size w w2) :=
  h.1.grown hg h.1.size (fun k hk => by injection hk with hk; omega)
theorem SOwn.typed {α : Type} {L : Lay α} {w : World} {base : Nat} {e : TypeId} {F : Nat → Prop} {a : Option Addr} {l c : Nat} {xs : List α} (h : SOwn L w base e F a l c xs) {b : Nat} (hb : (Value.slice a l c).ownBlock = some b) : base ≤ b ∧ ∃ cur, w.heap[b]? = some (.cells cur e) := by
  obtain ⟨hl, vss, F, ho, hp, hF⟩ := h
  rcases ho.2 with h0 | ⟨g, c2, cur, hv, hbg, hg, r⟩
  · rw [show Value.slice a l c = .slice none 0 0 from h0.1] at hb; simp [Value.ownBlock] at hb
  · rw [hv] at hb
    obtain rfl : g = b := by simpa [Value.ownBlock] using hb
    exact ⟨hbg, cur, hg⟩
theorem LcK.apart {w wr : World} {G P : Nat} {cs oc : Array Value} (h : LcK w G cs P oc wr) {a : Option Addr} {l c : Nat} {xs : List Int} {B : Nat} (ho : SOwn (Lay.int .u8) wr B 5 (fun _ => True) a l c xs) : Hid (∀ b, (Value.slice a l c).ownBlock = some b → b ≠ G ∧ b ≠ P ∧ b ≠ w.heap.size + 1) := by
  intro b hb
  obtain ⟨_, cur, hc⟩ := SOwn.typed ho hb
  refine ⟨fun e => ?_, fun e => ?_, fun e => ?_⟩
  · subst e; have := h.g; unfold Box at this; rw [hc] at this; injection this with this; injection this with _ this _; revert this; decide
  · subst e; have := h.p; unfold Box at this; rw [hc] at this; injection this with this; injection this with _ this _; revert this; decide
  · subst e; have := h.r; unfold Box at this; rw [hc] at this; injection this with this; injection this with _ this _; revert this; decide
theorem LcK.rowEnd {w w4 w8 : World} {G P j : Nat} {v : Value} {cs oc : Array Value} (h : LcK w G cs P oc (w4.setCell ⟨G, j, none⟩ v)) {a : Option Addr} {l c : Nat} {xs : List Int} (hA : ∀ b, (Value.slice a l c).ownBlock = some b → b ≠ G ∧ b ≠ P ∧ b ≠ w.heap.size + 1) (hR : Row .u8 w4 a l c xs) (hg : (w4.setCell ⟨G, j, none⟩ v).grownBy w8 (some (w.heap.size + 1))) : Row .u8 w8 a l c xs := by
  refine VRow.toRow (hR.toV.keep (fun b o e _ hlt => ?_)) hR.hwf
  obtain ⟨h1, _, h3⟩ := hA b (by rw [e]; rfl)
  exact (hg.block b (by simp [World.setCell]; exact hlt) (fun e' => h3 (by injection e'))).trans (Below.heap_setCell _ _ _ _ h1)
theorem kindCells (k : Fin 19) : (#[.int .i64 1, .int .i64 2, .int .i64 3, .int .i64 4, .int .i64 5, .int .i64 6, .int .i64 7, .int .i64 8, .int .i64 9, .int .i64 10, .int .i64 11, .int .i64 12, .int .i64 13, .int .i64 14, .int .i64 15, .int .i64 16, .int .i64 17, .int .i64 18, .int .i64 19] : Array Value)[k.val]? = some (.int .i64 ((k.val : Int) + 1)) := by
  obtain ⟨k, hk⟩ := k
  repeat (first | (exfalso; omega) | (cases k with | zero => rfl | succ k => ?_))
def LcPost (w : World) (k : Nat) (N1 N2 : Nm) (off cnt keep drive : Int) (xs : List Int) (e : Ending) (w' : World) : Prop :=
  ∃ a l c, e = .returned (.agg ((lineCmd k N1 N2 off cnt keep drive xs).cells a l c)) ∧ Row .u8 w' a l c (lineCmd k N1 N2 off cnt keep drive xs).data ∧ Hid (Below w.heap.size w w')
set_option maxHeartbeats 16000000 in
theorem lineCommandW (kd na oa off cnt keep drive : Int) (ad : Option Addr) (len cd : Nat) (xs : List Int) (w : World) (hd : Row .u8 w ad len cd xs) (hl : len ≤ 2000000) :
    Calls Tryd.prog 11 #[.agg #[.int .i64 kd, .int .i64 na, .int .i64 oa, .int .i64 off, .int .i64 cnt, .slice ad len cd], .int .i64 keep, .int .i64 drive] w (LcPost w (kd % 19).toNat (objN na) (snN oa) off cnt keep drive xs) := by
  obtain ⟨N1, hN1⟩ : ∃ N1, Hid (objN na = N1) := ⟨_, rfl⟩
  obtain ⟨N2, hN2⟩ : ∃ N2, Hid (snN oa = N2) := ⟨_, rfl⟩
  have HN : Hid (∀ W, Calls Tryd.prog 7 #[.int .i64 na] W fun e w' => e = .returned (encStr N1) ∧ Hid (Below W.heap.size W w')) := fun W => by rw [← hN1.out]; exact objectNameW _ W
  have HO : Hid (∀ W, Calls Tryd.prog 27 #[.int .i64 oa] W fun e w' => e = .returned (encStr N2) ∧ Hid (Below W.heap.size W w')) := fun W => by rw [← hN2.out]; exact snapNameL _ W
  rw [hN1.out, hN2.out]
  have HD := Lib.hid hd
  have HLD : Hid (xs.length = len) := hd.hlen
  obtain ⟨k, hk⟩ : ∃ k, Hid ((kd % 19).toNat = k) := ⟨_, rfl⟩
  have hk19 : k < 19 := by have := Int.emod_lt_of_pos kd (b := 19) (by decide); have := Int.emod_nonneg kd (b := 19) (by decide); have := hk.out; omega
  have hkk : Hid (kd % 19 = (k : Int)) := by show _ = _; have := Int.emod_nonneg kd (b := 19) (by decide); have := hk.out; omega
  rw [hk.out]
  obtain ⟨oc, hoc⟩ : ∃ oc : Array Value, Hid (#[.int .i64 kd, .int .i64 na, .int .i64 oa, .int .i64 off, .int .i64 cnt, .slice ad len cd] = oc) := ⟨_, rfl⟩
  obtain ⟨W0, hW0⟩ : ∃ W0, W0 = ((w.alloc (.cells #[.int .i64 kd, .int .i64 na, .int .i64 oa, .int .i64 off, .int .i64 cnt, .slice ad len cd] 37)).alloc (.cells cmdZ 39)).alloc (.cells #[.int .i64 1, .int .i64 2, .int .i64 3, .int .i64 4, .int .i64 5, .int .i64 6, .int .i64 7, .int .i64 8, .int .i64 9, .int .i64 10, .int .i64 11, .int .i64 12, .int .i64 13, .int .i64 14, .int .i64 15, .int .i64 16, .int .i64 17, .int .i64 18, .int .i64 19] 3) := ⟨_, rfl⟩
  have hP0 : Hid (Box W0 w.heap.size #[.int .i64 kd, .int .i64 na, .int .i64 oa, .int .i64 off, .int .i64 cnt, .slice ad len cd] 37) := by rw [hW0]; exact Box.alloc (Box.alloc (Box.new rfl) _) _
  have hR0 : Hid (Box W0 (w.heap.size + 1) cmdZ 39) := by rw [hW0]; exact Box.alloc (Box.new (by simp)) _
  have hL0 : Hid (Box W0 (w.heap.size + 2) #[.int .i64 1, .int .i64 2, .int .i64 3, .int .i64 4, .int .i64 5, .int .i64 6, .int .i64 7, .int .i64 8, .int .i64 9, .int .i64 10, .int .i64 11, .int .i64 12, .int .i64 13, .int .i64 14, .int .i64 15, .int .i64 16, .int .i64 17, .int .i64 18, .int .i64 19] 3) := by rw [hW0]; exact Box.new (by simp)
  have hB0 : Hid (Below w.heap.size w W0) := by rw [hW0]; exact ((Below_alloc1 _).alloc (by simp) _).alloc (by simp; omega) _
  have hS0 : Hid (W0.heap.size = w.heap.size + 3) := by show _ = _; rw [hW0]; simp
  have c0 : W0.cell? ⟨w.heap.size, 0, none⟩ = some (.int .i64 kd) := hP0.out.cell 0
  have cK : W0.cell? ⟨w.heap.size + 2, k, none⟩ = some (.int .i64 ((k : Int) + 1)) := (hL0.out.cell k).trans (kindCells ⟨k, hk19⟩)
  have hk0 : (0 : Int) ≤ (k : Int) := by omega
  have hk1 : (k : Int) < 19 := by omega
  unfold cmdZ at hW0
  clear hd
  go_enter Tryd.func11, Tryd.ntmps11
  go_upto_region 2 with fail
  rw [← hW0]
  clear hW0 hL0
  go_upto_region 3 with (go_at_call 6; refine (picked kd 19 _ (by omega) (by omega)).mono ?_; rintro e w' ⟨r, hr, hr0, hr1, rfl, rfl⟩; have hr' := hr.out; rw [hkk.out] at hr'; subst hr'; clear hr)
  rw [hS0.out]
  obtain ⟨V, hV0⟩ : ∃ V, V = W0.alloc (.cells #[.int .i64 ((k : Int) + 1), .string ⟨#[]⟩, .string ⟨#[]⟩, .int .i64 0, .int .i64 0, .int .i64 0, .int .i64 0, .slice none 0 0] 39) := ⟨_, rfl⟩
  obtain ⟨G, hG⟩ : ∃ G, Hid (w.heap.size + 3 = G) := ⟨_, rfl⟩
  have HV : Hid (LcK w G #[.int .i64 ((k : Int) + 1), .string ⟨#[]⟩, .string ⟨#[]⟩, .int .i64 0, .int .i64 0, .int .i64 0, .int .i64 0, .slice none 0 0] w.heap.size #[.int .i64 kd, .int .i64 na, .int .i64 oa, .int .i64 off, .int .i64 cnt, .slice ad len cd] V) := by
    rw [hV0]
    refine ⟨hB0.out.alloc hB0.out.size _, by have := hG.out; omega, rfl, ?_, ?_, Box.alloc hR0.out _⟩
    · rw [← hG.out]; exact Box.new hS0.out.symm
    · exact Box.alloc hP0.out _
  rw [← hV0, hG.out]
  clear hV0 hB0 hS0 hP0 hR0 c0 cK
  have hcase : k = 0 ∨ k = 1 ∨ k = 2 ∨ k = 3 ∨ k = 4 ∨ k = 5 ∨ k = 6 ∨ k = 7 ∨ k = 8 ∨ k = 9 ∨ k = 10 ∨ k = 11 ∨ k = 12 ∨ k = 13 ∨ k = 14 ∨ k = 15 ∨ k = 16 ∨ k = 17 ∨ k = 18 := by omega
  rcases hcase with rfl | rfl | rfl | rfl | rfl | rfl | rfl | rfl | rfl | rfl | rfl | rfl | rfl | rfl | rfl | rfl | rfl | rfl | rfl
  · have hkI : ((0 : Nat) : Int) + 1 = 1 := rfl
    rw [hkI] at HV ⊢
    have hV : Hid (LcK w G #[.int .i64 1, .string ⟨#[]⟩, .string ⟨#[]⟩, .int .i64 0, .int .i64 0, .int .i64 0, .int .i64 0, .slice none 0 0] w.heap.size #[.int .i64 kd, .int .i64 na, .int .i64 oa, .int .i64 off, .int .i64 cnt, .slice ad len cd] V) := HV.out
    have vz0 : V.cell? ⟨G, 0, none⟩ = some (.int .i64 1) := hV.out.g.cell 0
    have vy0 : V.frozen? ⟨G, 0, none⟩ = false := hV.out.g.free 0
    have vz1 : V.cell? ⟨G, 1, none⟩ = some (.string ⟨#[]⟩) := hV.out.g.cell 1
    have vy1 : V.frozen? ⟨G, 1, none⟩ = false := hV.out.g.free 1
    have vz2 : V.cell? ⟨G, 2, none⟩ = some (.string ⟨#[]⟩) := hV.out.g.cell 2
    have vy2 : V.frozen? ⟨G, 2, none⟩ = false := hV.out.g.free 2
    have vz3 : V.cell? ⟨G, 3, none⟩ = some (.int .i64 0) := hV.out.g.cell 3
    have vy3 : V.frozen? ⟨G, 3, none⟩ = false := hV.out.g.free 3
    have vz4 : V.cell? ⟨G, 4, none⟩ = some (.int .i64 0) := hV.out.g.cell 4
    have vy4 : V.frozen? ⟨G, 4, none⟩ = false := hV.out.g.free 4
    have vz5 : V.cell? ⟨G, 5, none⟩ = some (.int .i64 0) := hV.out.g.cell 5
    have vy5 : V.frozen? ⟨G, 5, none⟩ = false := hV.out.g.free 5
    have vz6 : V.cell? ⟨G, 6, none⟩ = some (.int .i64 0) := hV.out.g.cell 6
    have vy6 : V.frozen? ⟨G, 6, none⟩ = false := hV.out.g.free 6
    have vz7 : V.cell? ⟨G, 7, none⟩ = some (.slice none 0 0) := hV.out.g.cell 7
    have vy7 : V.frozen? ⟨G, 7, none⟩ = false := hV.out.g.free 7
    have vp1 : V.cell? ⟨w.heap.size, 1, none⟩ = some (.int .i64 na) := hV.out.p.cell 1
    have vp2 : V.cell? ⟨w.heap.size, 2, none⟩ = some (.int .i64 oa) := hV.out.p.cell 2
    have vp3 : V.cell? ⟨w.heap.size, 3, none⟩ = some (.int .i64 off) := hV.out.p.cell 3
    have vp4 : V.cell? ⟨w.heap.size, 4, none⟩ = some (.int .i64 cnt) := hV.out.p.cell 4
    have vp5 : V.cell? ⟨w.heap.size, 5, none⟩ = some (.slice ad len cd) := hV.out.p.cell 5
    go_wp2_with (first
      | (go_at_call 7; refine (HN.out (V)).mono ?_; rintro e w2 ⟨rfl, hb⟩; have hw2 : Hid (LcK w G #[.int .i64 1, .string ⟨#[]⟩, .string ⟨#[]⟩, .int .i64 0, .int .i64 0, .int .i64 0, .int .i64 0, .slice none 0 0] w.heap.size #[.int .i64 kd, .int .i64 na, .int .i64 oa, .int .i64 off, .int .i64 cnt, .slice ad len cd] w2) := LcK.under hV.out hb.out; clear hb; have n1z0 : w2.cell? ⟨G, 0, none⟩ = some (.int .i64 1) := hw2.out.g.cell 0; have n1y0 : w2.frozen? ⟨G, 0, none⟩ = false := hw2.out.g.free 0; have n1z1 : w2.cell? ⟨G, 1, none⟩ = some (.string ⟨#[]⟩) := hw2.out.g.cell 1; have n1y1 : w2.frozen? ⟨G, 1, none⟩ = false := hw2.out.g.free 1; have n1z2 : w2.cell? ⟨G, 2, none⟩ = some (.string ⟨#[]⟩) := hw2.out.g.cell 2; have n1y2 : w2.frozen? ⟨G, 2, none⟩ = false := hw2.out.g.free 2; have n1z3 : w2.cell? ⟨G, 3, none⟩ = some (.int .i64 0) := hw2.out.g.cell 3; have n1y3 : w2.frozen? ⟨G, 3, none⟩ = false := hw2.out.g.free 3; have n1z4 : w2.cell? ⟨G, 4, none⟩ = some (.int .i64 0) := hw2.out.g.cell 4; have n1y4 : w2.frozen? ⟨G, 4, none⟩ = false := hw2.out.g.free 4; have n1z5 : w2.cell? ⟨G, 5, none⟩ = some (.int .i64 0) := hw2.out.g.cell 5; have n1y5 : w2.frozen? ⟨G, 5, none⟩ = false := hw2.out.g.free 5; have n1z6 : w2.cell? ⟨G, 6, none⟩ = some (.int .i64 0) := hw2.out.g.cell 6; have n1y6 : w2.frozen? ⟨G, 6, none⟩ = false := hw2.out.g.free 6; have n1z7 : w2.cell? ⟨G, 7, none⟩ = some (.slice none 0 0) := hw2.out.g.cell 7; have n1y7 : w2.frozen? ⟨G, 7, none⟩ = false := hw2.out.g.free 7; have n1p1 : w2.cell? ⟨w.heap.size, 1, none⟩ = some (.int .i64 na) := hw2.out.p.cell 1; have n1p2 : w2.cell? ⟨w.heap.size, 2, none⟩ = some (.int .i64 oa) := hw2.out.p.cell 2; have n1p3 : w2.cell? ⟨w.heap.size, 3, none⟩ = some (.int .i64 off) := hw2.out.p.cell 3; have n1p4 : w2.cell? ⟨w.heap.size, 4, none⟩ = some (.int .i64 cnt) := hw2.out.p.cell 4; have n1p5 : w2.cell? ⟨w.heap.size, 5, none⟩ = some (.slice ad len cd) := hw2.out.p.cell 5)
      | (refine wpList_load_box rfl 39 (.tmp 8) rfl G rfl 39 #[.int .i64 1, encStr N1, .string ⟨#[]⟩, .int .i64 0, .int .i64 0, .int .i64 0, .int .i64 0, .slice none 0 0] (LcK.g (LcK.set hw2.out 1 (encStr N1))) _ Tryd.underlying39 rfl (by kernel_rfl) ?_)
      | (refine wpList_store_box rfl 39 (.tmp 6) (.tmp 82) rfl (w.heap.size + 1) #[.int .i64 1, encStr N1, .string ⟨#[]⟩, .int .i64 0, .int .i64 0, .int .i64 0, .int .i64 0, .slice none 0 0] rfl rfl 39 _ (LcK.r (LcK.set hw2.out 1 (encStr N1))) (by kernel_rfl) rfl (by rfl) ?_; intro w8 hb8 hg8; have HB8 := Lib.hid hb8; have HG8 := Lib.hid hg8; clear hb8 hg8)
      | fail)
    refine bodyPost_ret (results_boxL Tryd.results11 _ _ (w.heap.size + 1) _ _ HB8.out _ rfl Tryd.underlying39 rfl (by kernel_rfl)) rfl ?_
    exact ⟨none, 0, 0, rfl, row_nilL _, LcK.finish (LcK.set hw2.out 1 (encStr N1)) HG8.out⟩
  · have hkI : ((1 : Nat) : Int) + 1 = 2 := rfl
    rw [hkI] at HV ⊢
    have hV : Hid (LcK w G #[.int .i64 2, .string ⟨#[]⟩, .string ⟨#[]⟩, .int .i64 0, .int .i64 0, .int .i64 0, .int .i64 0, .slice none 0 0] w.heap.size #[.int .i64 kd, .int .i64 na, .int .i64 oa, .int .i64 off, .int .i64 cnt, .slice ad len cd] V) := HV.out
    have vz0 : V.cell? ⟨G, 0, none⟩ = some (.int .i64 2) := hV.out.g.cell 0
    have vy0 : V.frozen? ⟨G, 0, none⟩ = false := hV.out.g.free 0
    have vz1 : V.cell? ⟨G, 1, none⟩ = some (.string ⟨#[]⟩) := hV.out.g.cell 1
    have vy1 : V.frozen? ⟨G, 1, none⟩ = false := hV.out.g.free 1
    have vz2 : V.cell? ⟨G, 2, none⟩ = some (.string ⟨#[]⟩) := hV.out.g.cell 2
    have vy2 : V.frozen? ⟨G, 2, none⟩ = false := hV.out.g.free 2
    have vz3 : V.cell? ⟨G, 3, none⟩ = some (.int .i64 0) := hV.out.g.cell 3
    have vy3 : V.frozen? ⟨G, 3, none⟩ = false := hV.out.g.free 3
    have vz4 : V.cell? ⟨G, 4, none⟩ = some (.int .i64 0) := hV.out.g.cell 4
    have vy4 : V.frozen? ⟨G, 4, none⟩ = false := hV.out.g.free 4
    have vz5 : V.cell? ⟨G, 5, none⟩ = some (.int .i64 0) := hV.out.g.cell 5
    have vy5 : V.frozen? ⟨G, 5, none⟩ = false := hV.out.g.free 5
    have vz6 : V.cell? ⟨G, 6, none⟩ = some (.int .i64 0) := hV.out.g.cell 6
    have vy6 : V.frozen? ⟨G, 6, none⟩ = false := hV.out.g.free 6
    have vz7 : V.cell? ⟨G, 7, none⟩ = some (.slice none 0 0) := hV.out.g.cell 7
    have vy7 : V.frozen? ⟨G, 7, none⟩ = false := hV.out.g.free 7
    have vp1 : V.cell? ⟨w.heap.size, 1, none⟩ = some (.int .i64 na) := hV.out.p.cell 1
    have vp2 : V.cell? ⟨w.heap.size, 2, none⟩ = some (.int .i64 oa) := hV.out.p.cell 2
    have vp3 : V.cell? ⟨w.heap.size, 3, none⟩ = some (.int .i64 off) := hV.out.p.cell 3
    have vp4 : V.cell? ⟨w.heap.size, 4, none⟩ = some (.int .i64 cnt) := hV.out.p.cell 4
    have vp5 : V.cell? ⟨w.heap.size, 5, none⟩ = some (.slice ad len cd) := hV.out.p.cell 5
    go_wp2_with (first
      | (go_at_call 7; refine (HN.out (V)).mono ?_; rintro e w2 ⟨rfl, hb⟩; have hw2 : Hid (LcK w G #[.int .i64 2, .string ⟨#[]⟩, .string ⟨#[]⟩, .int .i64 0, .int .i64 0, .int .i64 0, .int .i64 0, .slice none 0 0] w.heap.size #[.int .i64 kd, .int .i64 na, .int .i64 oa, .int .i64 off, .int .i64 cnt, .slice ad len cd] w2) := LcK.under hV.out hb.out; clear hb; have n1z0 : w2.cell? ⟨G, 0, none⟩ = some (.int .i64 2) := hw2.out.g.cell 0; have n1y0 : w2.frozen? ⟨G, 0, none⟩ = false := hw2.out.g.free 0; have n1z1 : w2.cell? ⟨G, 1, none⟩ = some (.string ⟨#[]⟩) := hw2.out.g.cell 1; have n1y1 : w2.frozen? ⟨G, 1, none⟩ = false := hw2.out.g.free 1; have n1z2 : w2.cell? ⟨G, 2, none⟩ = some (.string ⟨#[]⟩) := hw2.out.g.cell 2; have n1y2 : w2.frozen? ⟨G, 2, none⟩ = false := hw2.out.g.free 2; have n1z3 : w2.cell? ⟨G, 3, none⟩ = some (.int .i64 0) := hw2.out.g.cell 3; have n1y3 : w2.frozen? ⟨G, 3, none⟩ = false := hw2.out.g.free 3; have n1z4 : w2.cell? ⟨G, 4, none⟩ = some (.int .i64 0) := hw2.out.g.cell 4; have n1y4 : w2.frozen? ⟨G, 4, none⟩ = false := hw2.out.g.free 4; have n1z5 : w2.cell? ⟨G, 5, none⟩ = some (.int .i64 0) := hw2.out.g.cell 5; have n1y5 : w2.frozen? ⟨G, 5, none⟩ = false := hw2.out.g.free 5; have n1z6 : w2.cell? ⟨G, 6, none⟩ = some (.int .i64 0) := hw2.out.g.cell 6; have n1y6 : w2.frozen? ⟨G, 6, none⟩ = false := hw2.out.g.free 6; have n1z7 : w2.cell? ⟨G, 7, none⟩ = some (.slice none 0 0) := hw2.out.g.cell 7; have n1y7 : w2.frozen? ⟨G, 7, none⟩ = false := hw2.out.g.free 7; have n1p1 : w2.cell? ⟨w.heap.size, 1, none⟩ = some (.int .i64 na) := hw2.out.p.cell 1; have n1p2 : w2.cell? ⟨w.heap.size, 2, none⟩ = some (.int .i64 oa) := hw2.out.p.cell 2; have n1p3 : w2.cell? ⟨w.heap.size, 3, none⟩ = some (.int .i64 off) := hw2.out.p.cell 3; have n1p4 : w2.cell? ⟨w.heap.size, 4, none⟩ = some (.int .i64 cnt) := hw2.out.p.cell 4; have n1p5 : w2.cell? ⟨w.heap.size, 5, none⟩ = some (.slice ad len cd) := hw2.out.p.cell 5)
      | (at_builtin; refine wpList_append_data (L := Lay.int .u8) rfl (.const (.slice none 0 0)) (.tmp 79) 22 rfl w.heap.size 5 (.int .u8 0) 1 Tryd.underlying22 info_byteC rfl (fun _ => True) none 0 0 [] rfl (SOwn.nil ..) ad len cd xs (xs.map fun x => [Value.int .u8 x]) rfl (by rw [flatten_ints]; exact (HD.out.below (LcK.set (LcK.set hw2.out 1 (encStr N1)) 3 (.int .i64 off)).below).toV) (fun _ => False) (Pt.ints HD.out.hwf) HLD.out (fun b h => h.elim) (by unfold maxLen; omega) (by omega) (Nat.le_of_lt (LcK.lt (LcK.set (LcK.set hw2.out 1 (encStr N1)) 3 (.int .i64 off)))) ?_; intro a7 c7 w3 hown hg; rw [Nat.zero_add] at hown ⊢; have hw3 : Hid (LcK w G #[.int .i64 2, encStr N1, .string ⟨#[]⟩, .int .i64 off, .int .i64 0, .int .i64 0, .int .i64 0, .slice none 0 0] w.heap.size #[.int .i64 kd, .int .i64 na, .int .i64 oa, .int .i64 off, .int .i64 cnt, .slice ad len cd] w3) := LcK.grown (LcK.set (LcK.set hw2.out 1 (encStr N1)) 3 (.int .i64 off)) hg; have hR7 : Hid (Row .u8 w3 a7 len c7 xs) := by { have := hown.ints; simpa [Hid] using this }; have hA7 : Hid (∀ b, (Value.slice a7 len c7).ownBlock = some b → b ≠ G ∧ b ≠ w.heap.size ∧ b ≠ w.heap.size + 1) := LcK.apart hw3.out hown; clear hown hg; have n2z0 : w3.cell? ⟨G, 0, none⟩ = some (.int .i64 2) := hw3.out.g.cell 0; have n2y0 : w3.frozen? ⟨G, 0, none⟩ = false := hw3.out.g.free 0; have n2z1 : w3.cell? ⟨G, 1, none⟩ = some (encStr N1) := hw3.out.g.cell 1; have n2y1 : w3.frozen? ⟨G, 1, none⟩ = false := hw3.out.g.free 1; have n2z2 : w3.cell? ⟨G, 2, none⟩ = some (.string ⟨#[]⟩) := hw3.out.g.cell 2; have n2y2 : w3.frozen? ⟨G, 2, none⟩ = false := hw3.out.g.free 2; have n2z3 : w3.cell? ⟨G, 3, none⟩ = some (.int .i64 off) := hw3.out.g.cell 3; have n2y3 : w3.frozen? ⟨G, 3, none⟩ = false := hw3.out.g.free 3; have n2z4 : w3.cell? ⟨G, 4, none⟩ = some (.int .i64 0) := hw3.out.g.cell 4; have n2y4 : w3.frozen? ⟨G, 4, none⟩ = false := hw3.out.g.free 4; have n2z5 : w3.cell? ⟨G, 5, none⟩ = some (.int .i64 0) := hw3.out.g.cell 5; have n2y5 : w3.frozen? ⟨G, 5, none⟩ = false := hw3.out.g.free 5; have n2z6 : w3.cell? ⟨G, 6, none⟩ = some (.int .i64 0) := hw3.out.g.cell 6; have n2y6 : w3.frozen? ⟨G, 6, none⟩ = false := hw3.out.g.free 6; have n2z7 : w3.cell? ⟨G, 7, none⟩ = some (.slice none 0 0) := hw3.out.g.cell 7; have n2y7 : w3.frozen? ⟨G, 7, none⟩ = false := hw3.out.g.free 7; have n2p1 : w3.cell? ⟨w.heap.size, 1, none⟩ = some (.int .i64 na) := hw3.out.p.cell 1; have n2p2 : w3.cell? ⟨w.heap.size, 2, none⟩ = some (.int .i64 oa) := hw3.out.p.cell 2; have n2p3 : w3.cell? ⟨w.heap.size, 3, none⟩ = some (.int .i64 off) := hw3.out.p.cell 3; have n2p4 : w3.cell? ⟨w.heap.size, 4, none⟩ = some (.int .i64 cnt) := hw3.out.p.cell 4; have n2p5 : w3.cell? ⟨w.heap.size, 5, none⟩ = some (.slice ad len cd) := hw3.out.p.cell 5)
      | (refine wpList_load_box rfl 39 (.tmp 8) rfl G rfl 39 #[.int .i64 2, encStr N1, .string ⟨#[]⟩, .int .i64 off, .int .i64 0, .int .i64 0, .int .i64 0, .slice a7 len c7] (LcK.g (LcK.set hw3.out 7 (.slice a7 len c7))) _ Tryd.underlying39 rfl (by kernel_rfl) ?_)
      | (refine wpList_store_box rfl 39 (.tmp 6) (.tmp 82) rfl (w.heap.size + 1) #[.int .i64 2, encStr N1, .string ⟨#[]⟩, .int .i64 off, .int .i64 0, .int .i64 0, .int .i64 0, .slice a7 len c7] rfl rfl 39 _ (LcK.r (LcK.set hw3.out 7 (.slice a7 len c7))) (by kernel_rfl) rfl (by rfl) ?_; intro w8 hb8 hg8; have HB8 := Lib.hid hb8; have HG8 := Lib.hid hg8; clear hb8 hg8)
      | fail)
    refine bodyPost_ret (results_boxL Tryd.results11 _ _ (w.heap.size + 1) _ _ HB8.out _ rfl Tryd.underlying39 rfl (by kernel_rfl)) rfl ?_
    exact ⟨a7, len, c7, rfl, LcK.rowEnd (LcK.set hw3.out 7 (.slice a7 len c7)) hA7.out hR7.out HG8.out, LcK.finish (LcK.set hw3.out 7 (.slice a7 len c7)) HG8.out⟩
  · have hkI : ((2 : Nat) : Int) + 1 = 3 := rfl
    rw [hkI] at HV ⊢
    have hV : Hid (LcK w G #[.int .i64 3, .string ⟨#[]⟩, .string ⟨#[]⟩, .int .i64 0, .int .i64 0, .int .i64 0, .int .i64 0, .slice none 0 0] w.heap.size #[.int .i64 kd, .int .i64 na, .int .i64 oa, .int .i64 off, .int .i64 cnt, .slice ad len cd] V) := HV.out
    have vz0 : V.cell? ⟨G, 0, none⟩ = some (.int .i64 3) := hV.out.g.cell 0
    have vy0 : V.frozen? ⟨G, 0, none⟩ = false := hV.out.g.free 0
    have vz1 : V.cell? ⟨G, 1, none⟩ = some (.string ⟨#[]⟩) := hV.out.g.cell 1
    have vy1 : V.frozen? ⟨G, 1, none⟩ = false := hV.out.g.free 1
    have vz2 : V.cell? ⟨G, 2, none⟩ = some (.string ⟨#[]⟩) := hV.out.g.cell 2
    have vy2 : V.frozen? ⟨G, 2, none⟩ = false := hV.out.g.free 2
    have vz3 : V.cell? ⟨G, 3, none⟩ = some (.int .i64 0) := hV.out.g.cell 3
    have vy3 : V.frozen? ⟨G, 3, none⟩ = false := hV.out.g.free 3
    have vz4 : V.cell? ⟨G, 4, none⟩ = some (.int .i64 0) := hV.out.g.cell 4
    have vy4 : V.frozen? ⟨G, 4, none⟩ = false := hV.out.g.free 4
    have vz5 : V.cell? ⟨G, 5, none⟩ = some (.int .i64 0) := hV.out.g.cell 5
    have vy5 : V.frozen? ⟨G, 5, none⟩ = false := hV.out.g.free 5
    have vz6 : V.cell? ⟨G, 6, none⟩ = some (.int .i64 0) := hV.out.g.cell 6
    have vy6 : V.frozen? ⟨G, 6, none⟩ = false := hV.out.g.free 6
    have vz7 : V.cell? ⟨G, 7, none⟩ = some (.slice none 0 0) := hV.out.g.cell 7
    have vy7 : V.frozen? ⟨G, 7, none⟩ = false := hV.out.g.free 7
    have vp1 : V.cell? ⟨w.heap.size, 1, none⟩ = some (.int .i64 na) := hV.out.p.cell 1
    have vp2 : V.cell? ⟨w.heap.size, 2, none⟩ = some (.int .i64 oa) := hV.out.p.cell 2
    have vp3 : V.cell? ⟨w.heap.size, 3, none⟩ = some (.int .i64 off) := hV.out.p.cell 3
    have vp4 : V.cell? ⟨w.heap.size, 4, none⟩ = some (.int .i64 cnt) := hV.out.p.cell 4
    have vp5 : V.cell? ⟨w.heap.size, 5, none⟩ = some (.slice ad len cd) := hV.out.p.cell 5
    go_wp2_with (first
      | (go_at_call 7; refine (HN.out (V)).mono ?_; rintro e w2 ⟨rfl, hb⟩; have hw2 : Hid (LcK w G #[.int .i64 3, .string ⟨#[]⟩, .string ⟨#[]⟩, .int .i64 0, .int .i64 0, .int .i64 0, .int .i64 0, .slice none 0 0] w.heap.size #[.int .i64 kd, .int .i64 na, .int .i64 oa, .int .i64 off, .int .i64 cnt, .slice ad len cd] w2) := LcK.under hV.out hb.out; clear hb; have n1z0 : w2.cell? ⟨G, 0, none⟩ = some (.int .i64 3) := hw2.out.g.cell 0; have n1y0 : w2.frozen? ⟨G, 0, none⟩ = false := hw2.out.g.free 0; have n1z1 : w2.cell? ⟨G, 1, none⟩ = some (.string ⟨#[]⟩) := hw2.out.g.cell 1; have n1y1 : w2.frozen? ⟨G, 1, none⟩ = false := hw2.out.g.free 1; have n1z2 : w2.cell? ⟨G, 2, none⟩ = some (.string ⟨#[]⟩) := hw2.out.g.cell 2; have n1y2 : w2.frozen? ⟨G, 2, none⟩ = false := hw2.out.g.free 2; have n1z3 : w2.cell? ⟨G, 3, none⟩ = some (.int .i64 0) := hw2.out.g.cell 3; have n1y3 : w2.frozen? ⟨G, 3, none⟩ = false := hw2.out.g.free 3; have n1z4 : w2.cell? ⟨G, 4, none⟩ = some (.int .i64 0) := hw2.out.g.cell 4; have n1y4 : w2.frozen? ⟨G, 4, none⟩ = false := hw2.out.g.free 4; have n1z5 : w2.cell? ⟨G, 5, none⟩ = some (.int .i64 0) := hw2.out.g.cell 5; have n1y5 : w2.frozen? ⟨G, 5, none⟩ = false := hw2.out.g.free 5; have n1z6 : w2.cell? ⟨G, 6, none⟩ = some (.int .i64 0) := hw2.out.g.cell 6; have n1y6 : w2.frozen? ⟨G, 6, none⟩ = false := hw2.out.g.free 6; have n1z7 : w2.cell? ⟨G, 7, none⟩ = some (.slice none 0 0) := hw2.out.g.cell 7; have n1y7 : w2.frozen? ⟨G, 7, none⟩ = false := hw2.out.g.free 7; have n1p1 : w2.cell? ⟨w.heap.size, 1, none⟩ = some (.int .i64 na) := hw2.out.p.cell 1; have n1p2 : w2.cell? ⟨w.heap.size, 2, none⟩ = some (.int .i64 oa) := hw2.out.p.cell 2; have n1p3 : w2.cell? ⟨w.heap.size, 3, none⟩ = some (.int .i64 off) := hw2.out.p.cell 3; have n1p4 : w2.cell? ⟨w.heap.size, 4, none⟩ = some (.int .i64 cnt) := hw2.out.p.cell 4; have n1p5 : w2.cell? ⟨w.heap.size, 5, none⟩ = some (.slice ad len cd) := hw2.out.p.cell 5)
      | (refine wpList_load_box rfl 39 (.tmp 8) rfl G rfl 39 #[.int .i64 3, encStr N1, .string ⟨#[]⟩, .int .i64 off, .int .i64 cnt, .int .i64 0, .int .i64 0, .slice none 0 0] (LcK.g (LcK.set (LcK.set (LcK.set hw2.out 1 (encStr N1)) 3 (.int .i64 off)) 4 (.int .i64 cnt))) _ Tryd.underlying39 rfl (by kernel_rfl) ?_)
      | (refine wpList_store_box rfl 39 (.tmp 6) (.tmp 82) rfl (w.heap.size + 1) #[.int .i64 3, encStr N1, .string ⟨#[]⟩, .int .i64 off, .int .i64 cnt, .int .i64 0, .int .i64 0, .slice none 0 0] rfl rfl 39 _ (LcK.r (LcK.set (LcK.set (LcK.set hw2.out 1 (encStr N1)) 3 (.int .i64 off)) 4 (.int .i64 cnt))) (by kernel_rfl) rfl (by rfl) ?_; intro w8 hb8 hg8; have HB8 := Lib.hid hb8; have HG8 := Lib.hid hg8; clear hb8 hg8)
      | fail)
    refine bodyPost_ret (results_boxL Tryd.results11 _ _ (w.heap.size + 1) _ _ HB8.out _ rfl Tryd.underlying39 rfl (by kernel_rfl)) rfl ?_
    exact ⟨none, 0, 0, rfl, row_nilL _, LcK.finish (LcK.set (LcK.set (LcK.set hw2.out 1 (encStr N1)) 3 (.int .i64 off)) 4 (.int .i64 cnt)) HG8.out⟩
  · have hkI : ((3 : Nat) : Int) + 1 = 4 := rfl
    rw [hkI] at HV ⊢
    have hV : Hid (LcK w G #[.int .i64 4, .string ⟨#[]⟩, .string ⟨#[]⟩, .int .i64 0, .int .i64 0, .int .i64 0, .int .i64 0, .slice none 0 0] w.heap.size #[.int .i64 kd, .int .i64 na, .int .i64 oa, .int .i64 off, .int .i64 cnt, .slice ad len cd] V) := HV.out
    have vz0 : V.cell? ⟨G, 0, none⟩ = some (.int .i64 4) := hV.out.g.cell 0
    have vy0 : V.frozen? ⟨G, 0, none⟩ = false := hV.out.g.free 0
    have vz1 : V.cell? ⟨G, 1, none⟩ = some (.string ⟨#[]⟩) := hV.out.g.cell 1
    have vy1 : V.frozen? ⟨G, 1, none⟩ = false := hV.out.g.free 1
    have vz2 : V.cell? ⟨G, 2, none⟩ = some (.string ⟨#[]⟩) := hV.out.g.cell 2
    have vy2 : V.frozen? ⟨G, 2, none⟩ = false := hV.out.g.free 2
    have vz3 : V.cell? ⟨G, 3, none⟩ = some (.int .i64 0) := hV.out.g.cell 3
    have vy3 : V.frozen? ⟨G, 3, none⟩ = false := hV.out.g.free 3
    have vz4 : V.cell? ⟨G, 4, none⟩ = some (.int .i64 0) := hV.out.g.cell 4
    have vy4 : V.frozen? ⟨G, 4, none⟩ = false := hV.out.g.free 4
    have vz5 : V.cell? ⟨G, 5, none⟩ = some (.int .i64 0) := hV.out.g.cell 5
    have vy5 : V.frozen? ⟨G, 5, none⟩ = false := hV.out.g.free 5
    have vz6 : V.cell? ⟨G, 6, none⟩ = some (.int .i64 0) := hV.out.g.cell 6
    have vy6 : V.frozen? ⟨G, 6, none⟩ = false := hV.out.g.free 6
    have vz7 : V.cell? ⟨G, 7, none⟩ = some (.slice none 0 0) := hV.out.g.cell 7
    have vy7 : V.frozen? ⟨G, 7, none⟩ = false := hV.out.g.free 7
    have vp1 : V.cell? ⟨w.heap.size, 1, none⟩ = some (.int .i64 na) := hV.out.p.cell 1
    have vp2 : V.cell? ⟨w.heap.size, 2, none⟩ = some (.int .i64 oa) := hV.out.p.cell 2
    have vp3 : V.cell? ⟨w.heap.size, 3, none⟩ = some (.int .i64 off) := hV.out.p.cell 3
    have vp4 : V.cell? ⟨w.heap.size, 4, none⟩ = some (.int .i64 cnt) := hV.out.p.cell 4
    have vp5 : V.cell? ⟨w.heap.size, 5, none⟩ = some (.slice ad len cd) := hV.out.p.cell 5
    go_wp2_with (first
      | (go_at_call 7; refine (HN.out (V)).mono ?_; rintro e w2 ⟨rfl, hb⟩; have hw2 : Hid (LcK w G #[.int .i64 4, .string ⟨#[]⟩, .string ⟨#[]⟩, .int .i64 0, .int .i64 0, .int .i64 0, .int .i64 0, .slice none 0 0] w.heap.size #[.int .i64 kd, .int .i64 na, .int .i64 oa, .int .i64 off, .int .i64 cnt, .slice ad len cd] w2) := LcK.under hV.out hb.out; clear hb; have n1z0 : w2.cell? ⟨G, 0, none⟩ = some (.int .i64 4) := hw2.out.g.cell 0; have n1y0 : w2.frozen? ⟨G, 0, none⟩ = false := hw2.out.g.free 0; have n1z1 : w2.cell? ⟨G, 1, none⟩ = some (.string ⟨#[]⟩) := hw2.out.g.cell 1; have n1y1 : w2.frozen? ⟨G, 1, none⟩ = false := hw2.out.g.free 1; have n1z2 : w2.cell? ⟨G, 2, none⟩ = some (.string ⟨#[]⟩) := hw2.out.g.cell 2; have n1y2 : w2.frozen? ⟨G, 2, none⟩ = false := hw2.out.g.free 2; have n1z3 : w2.cell? ⟨G, 3, none⟩ = some (.int .i64 0) := hw2.out.g.cell 3; have n1y3 : w2.frozen? ⟨G, 3, none⟩ = false := hw2.out.g.free 3; have n1z4 : w2.cell? ⟨G, 4, none⟩ = some (.int .i64 0) := hw2.out.g.cell 4; have n1y4 : w2.frozen? ⟨G, 4, none⟩ = false := hw2.out.g.free 4; have n1z5 : w2.cell? ⟨G, 5, none⟩ = some (.int .i64 0) := hw2.out.g.cell 5; have n1y5 : w2.frozen? ⟨G, 5, none⟩ = false := hw2.out.g.free 5; have n1z6 : w2.cell? ⟨G, 6, none⟩ = some (.int .i64 0) := hw2.out.g.cell 6; have n1y6 : w2.frozen? ⟨G, 6, none⟩ = false := hw2.out.g.free 6; have n1z7 : w2.cell? ⟨G, 7, none⟩ = some (.slice none 0 0) := hw2.out.g.cell 7; have n1y7 : w2.frozen? ⟨G, 7, none⟩ = false := hw2.out.g.free 7; have n1p1 : w2.cell? ⟨w.heap.size, 1, none⟩ = some (.int .i64 na) := hw2.out.p.cell 1; have n1p2 : w2.cell? ⟨w.heap.size, 2, none⟩ = some (.int .i64 oa) := hw2.out.p.cell 2; have n1p3 : w2.cell? ⟨w.heap.size, 3, none⟩ = some (.int .i64 off) := hw2.out.p.cell 3; have n1p4 : w2.cell? ⟨w.heap.size, 4, none⟩ = some (.int .i64 cnt) := hw2.out.p.cell 4; have n1p5 : w2.cell? ⟨w.heap.size, 5, none⟩ = some (.slice ad len cd) := hw2.out.p.cell 5)
      | (refine wpList_load_box rfl 39 (.tmp 8) rfl G rfl 39 #[.int .i64 4, encStr N1, .string ⟨#[]⟩, .int .i64 0, .int .i64 cnt, .int .i64 0, .int .i64 0, .slice none 0 0] (LcK.g (LcK.set (LcK.set hw2.out 1 (encStr N1)) 4 (.int .i64 cnt))) _ Tryd.underlying39 rfl (by kernel_rfl) ?_)
      | (refine wpList_store_box rfl 39 (.tmp 6) (.tmp 82) rfl (w.heap.size + 1) #[.int .i64 4, encStr N1, .string ⟨#[]⟩, .int .i64 0, .int .i64 cnt, .int .i64 0, .int .i64 0, .slice none 0 0] rfl rfl 39 _ (LcK.r (LcK.set (LcK.set hw2.out 1 (encStr N1)) 4 (.int .i64 cnt))) (by kernel_rfl) rfl (by rfl) ?_; intro w8 hb8 hg8; have HB8 := Lib.hid hb8; have HG8 := Lib.hid hg8; clear hb8 hg8)
      | fail)
    refine bodyPost_ret (results_boxL Tryd.results11 _ _ (w.heap.size + 1) _ _ HB8.out _ rfl Tryd.underlying39 rfl (by kernel_rfl)) rfl ?_
    exact ⟨none, 0, 0, rfl, row_nilL _, LcK.finish (LcK.set (LcK.set hw2.out 1 (encStr N1)) 4 (.int .i64 cnt)) HG8.out⟩
  · have hkI : ((4 : Nat) : Int) + 1 = 5 := rfl
    rw [hkI] at HV ⊢
    have hV : Hid (LcK w G #[.int .i64 5, .string ⟨#[]⟩, .string ⟨#[]⟩, .int .i64 0, .int .i64 0, .int .i64 0, .int .i64 0, .slice none 0 0] w.heap.size #[.int .i64 kd, .int .i64 na, .int .i64 oa, .int .i64 off, .int .i64 cnt, .slice ad len cd] V) := HV.out
    have vz0 : V.cell? ⟨G, 0, none⟩ = some (.int .i64 5) := hV.out.g.cell 0
    have vy0 : V.frozen? ⟨G, 0, none⟩ = false := hV.out.g.free 0
    have vz1 : V.cell? ⟨G, 1, none⟩ = some (.string ⟨#[]⟩) := hV.out.g.cell 1
    have vy1 : V.frozen? ⟨G, 1, none⟩ = false := hV.out.g.free 1
    have vz2 : V.cell? ⟨G, 2, none⟩ = some (.string ⟨#[]⟩) := hV.out.g.cell 2
    have vy2 : V.frozen? ⟨G, 2, none⟩ = false := hV.out.g.free 2
    have vz3 : V.cell? ⟨G, 3, none⟩ = some (.int .i64 0) := hV.out.g.cell 3
    have vy3 : V.frozen? ⟨G, 3, none⟩ = false := hV.out.g.free 3
    have vz4 : V.cell? ⟨G, 4, none⟩ = some (.int .i64 0) := hV.out.g.cell 4
    have vy4 : V.frozen? ⟨G, 4, none⟩ = false := hV.out.g.free 4
    have vz5 : V.cell? ⟨G, 5, none⟩ = some (.int .i64 0) := hV.out.g.cell 5
    have vy5 : V.frozen? ⟨G, 5, none⟩ = false := hV.out.g.free 5
    have vz6 : V.cell? ⟨G, 6, none⟩ = some (.int .i64 0) := hV.out.g.cell 6
    have vy6 : V.frozen? ⟨G, 6, none⟩ = false := hV.out.g.free 6
    have vz7 : V.cell? ⟨G, 7, none⟩ = some (.slice none 0 0) := hV.out.g.cell 7
    have vy7 : V.frozen? ⟨G, 7, none⟩ = false := hV.out.g.free 7
    have vp1 : V.cell? ⟨w.heap.size, 1, none⟩ = some (.int .i64 na) := hV.out.p.cell 1
    have vp2 : V.cell? ⟨w.heap.size, 2, none⟩ = some (.int .i64 oa) := hV.out.p.cell 2
    have vp3 : V.cell? ⟨w.heap.size, 3, none⟩ = some (.int .i64 off) := hV.out.p.cell 3
    have vp4 : V.cell? ⟨w.heap.size, 4, none⟩ = some (.int .i64 cnt) := hV.out.p.cell 4
    have vp5 : V.cell? ⟨w.heap.size, 5, none⟩ = some (.slice ad len cd) := hV.out.p.cell 5
    go_wp2_with (first
      | (go_at_call 7; refine (HN.out (V)).mono ?_; rintro e w2 ⟨rfl, hb⟩; have hw2 : Hid (LcK w G #[.int .i64 5, .string ⟨#[]⟩, .string ⟨#[]⟩, .int .i64 0, .int .i64 0, .int .i64 0, .int .i64 0, .slice none 0 0] w.heap.size #[.int .i64 kd, .int .i64 na, .int .i64 oa, .int .i64 off, .int .i64 cnt, .slice ad len cd] w2) := LcK.under hV.out hb.out; clear hb; have n1z0 : w2.cell? ⟨G, 0, none⟩ = some (.int .i64 5) := hw2.out.g.cell 0; have n1y0 : w2.frozen? ⟨G, 0, none⟩ = false := hw2.out.g.free 0; have n1z1 : w2.cell? ⟨G, 1, none⟩ = some (.string ⟨#[]⟩) := hw2.out.g.cell 1; have n1y1 : w2.frozen? ⟨G, 1, none⟩ = false := hw2.out.g.free 1; have n1z2 : w2.cell? ⟨G, 2, none⟩ = some (.string ⟨#[]⟩) := hw2.out.g.cell 2; have n1y2 : w2.frozen? ⟨G, 2, none⟩ = false := hw2.out.g.free 2; have n1z3 : w2.cell? ⟨G, 3, none⟩ = some (.int .i64 0) := hw2.out.g.cell 3; have n1y3 : w2.frozen? ⟨G, 3, none⟩ = false := hw2.out.g.free 3; have n1z4 : w2.cell? ⟨G, 4, none⟩ = some (.int .i64 0) := hw2.out.g.cell 4; have n1y4 : w2.frozen? ⟨G, 4, none⟩ = false := hw2.out.g.free 4; have n1z5 : w2.cell? ⟨G, 5, none⟩ = some (.int .i64 0) := hw2.out.g.cell 5; have n1y5 : w2.frozen? ⟨G, 5, none⟩ = false := hw2.out.g.free 5; have n1z6 : w2.cell? ⟨G, 6, none⟩ = some (.int .i64 0) := hw2.out.g.cell 6; have n1y6 : w2.frozen? ⟨G, 6, none⟩ = false := hw2.out.g.free 6; have n1z7 : w2.cell? ⟨G, 7, none⟩ = some (.slice none 0 0) := hw2.out.g.cell 7; have n1y7 : w2.frozen? ⟨G, 7, none⟩ = false := hw2.out.g.free 7; have n1p1 : w2.cell? ⟨w.heap.size, 1, none⟩ = some (.int .i64 na) := hw2.out.p.cell 1; have n1p2 : w2.cell? ⟨w.heap.size, 2, none⟩ = some (.int .i64 oa) := hw2.out.p.cell 2; have n1p3 : w2.cell? ⟨w.heap.size, 3, none⟩ = some (.int .i64 off) := hw2.out.p.cell 3; have n1p4 : w2.cell? ⟨w.heap.size, 4, none⟩ = some (.int .i64 cnt) := hw2.out.p.cell 4; have n1p5 : w2.cell? ⟨w.heap.size, 5, none⟩ = some (.slice ad len cd) := hw2.out.p.cell 5)
      | (refine wpList_load_box rfl 39 (.tmp 8) rfl G rfl 39 #[.int .i64 5, encStr N1, .string ⟨#[]⟩, .int .i64 0, .int .i64 0, .int .i64 0, .int .i64 0, .slice none 0 0] (LcK.g (LcK.set hw2.out 1 (encStr N1))) _ Tryd.underlying39 rfl (by kernel_rfl) ?_)
      | (refine wpList_store_box rfl 39 (.tmp 6) (.tmp 82) rfl (w.heap.size + 1) #[.int .i64 5, encStr N1, .string ⟨#[]⟩, .int .i64 0, .int .i64 0, .int .i64 0, .int .i64 0, .slice none 0 0] rfl rfl 39 _ (LcK.r (LcK.set hw2.out 1 (encStr N1))) (by kernel_rfl) rfl (by rfl) ?_; intro w8 hb8 hg8; have HB8 := Lib.hid hb8; have HG8 := Lib.hid hg8; clear hb8 hg8)
      | fail)
    refine bodyPost_ret (results_boxL Tryd.results11 _ _ (w.heap.size + 1) _ _ HB8.out _ rfl Tryd.underlying39 rfl (by kernel_rfl)) rfl ?_
    exact ⟨none, 0, 0, rfl, row_nilL _, LcK.finish (LcK.set hw2.out 1 (encStr N1)) HG8.out⟩
  · have hkI : ((5 : Nat) : Int) + 1 = 6 := rfl
    rw [hkI] at HV ⊢
    have hV : Hid (LcK w G #[.int .i64 6, .string ⟨#[]⟩, .string ⟨#[]⟩, .int .i64 0, .int .i64 0, .int .i64 0, .int .i64 0, .slice none 0 0] w.heap.size #[.int .i64 kd, .int .i64 na, .int .i64 oa, .int .i64 off, .int .i64 cnt, .slice ad len cd] V) := HV.out
    have vz0 : V.cell? ⟨G, 0, none⟩ = some (.int .i64 6) := hV.out.g.cell 0
    have vy0 : V.frozen? ⟨G, 0, none⟩ = false := hV.out.g.free 0
    have vz1 : V.cell? ⟨G, 1, none⟩ = some (.string ⟨#[]⟩) := hV.out.g.cell 1
    have vy1 : V.frozen? ⟨G, 1, none⟩ = false := hV.out.g.free 1
    have vz2 : V.cell? ⟨G, 2, none⟩ = some (.string ⟨#[]⟩) := hV.out.g.cell 2
    have vy2 : V.frozen? ⟨G, 2, none⟩ = false := hV.out.g.free 2
    have vz3 : V.cell? ⟨G, 3, none⟩ = some (.int .i64 0) := hV.out.g.cell 3
    have vy3 : V.frozen? ⟨G, 3, none⟩ = false := hV.out.g.free 3
    have vz4 : V.cell? ⟨G, 4, none⟩ = some (.int .i64 0) := hV.out.g.cell 4
    have vy4 : V.frozen? ⟨G, 4, none⟩ = false := hV.out.g.free 4
    have vz5 : V.cell? ⟨G, 5, none⟩ = some (.int .i64 0) := hV.out.g.cell 5
    have vy5 : V.frozen? ⟨G, 5, none⟩ = false := hV.out.g.free 5
    have vz6 : V.cell? ⟨G, 6, none⟩ = some (.int .i64 0) := hV.out.g.cell 6
    have vy6 : V.frozen? ⟨G, 6, none⟩ = false := hV.out.g.free 6
    have vz7 : V.cell? ⟨G, 7, none⟩ = some (.slice none 0 0) := hV.out.g.cell 7
    have vy7 : V.frozen? ⟨G, 7, none⟩ = false := hV.out.g.free 7
    have vp1 : V.cell? ⟨w.heap.size, 1, none⟩ = some (.int .i64 na) := hV.out.p.cell 1
    have vp2 : V.cell? ⟨w.heap.size, 2, none⟩ = some (.int .i64 oa) := hV.out.p.cell 2
    have vp3 : V.cell? ⟨w.heap.size, 3, none⟩ = some (.int .i64 off) := hV.out.p.cell 3
    have vp4 : V.cell? ⟨w.heap.size, 4, none⟩ = some (.int .i64 cnt) := hV.out.p.cell 4
    have vp5 : V.cell? ⟨w.heap.size, 5, none⟩ = some (.slice ad len cd) := hV.out.p.cell 5
    go_wp2_with (first
      | (refine wpList_load_box rfl 39 (.tmp 8) rfl G rfl 39 #[.int .i64 6, .string ⟨#[]⟩, .string ⟨#[]⟩, .int .i64 0, .int .i64 0, .int .i64 0, .int .i64 0, .slice none 0 0] (LcK.g hV.out) _ Tryd.underlying39 rfl (by kernel_rfl) ?_)
      | (refine wpList_store_box rfl 39 (.tmp 6) (.tmp 82) rfl (w.heap.size + 1) #[.int .i64 6, .string ⟨#[]⟩, .string ⟨#[]⟩, .int .i64 0, .int .i64 0, .int .i64 0, .int .i64 0, .slice none 0 0] rfl rfl 39 _ (LcK.r hV.out) (by kernel_rfl) rfl (by rfl) ?_; intro w8 hb8 hg8; have HB8 := Lib.hid hb8; have HG8 := Lib.hid hg8; clear hb8 hg8)
      | fail)
    refine bodyPost_ret (results_boxL Tryd.results11 _ _ (w.heap.size + 1) _ _ HB8.out _ rfl Tryd.underlying39 rfl (by kernel_rfl)) rfl ?_
    exact ⟨none, 0, 0, rfl, row_nilL _, LcK.finish hV.out HG8.out⟩
  · have hkI : ((6 : Nat) : Int) + 1 = 7 := rfl
    rw [hkI] at HV ⊢
    have hV : Hid (LcK w G #[.int .i64 7, .string ⟨#[]⟩, .string ⟨#[]⟩, .int .i64 0, .int .i64 0, .int .i64 0, .int .i64 0, .slice none 0 0] w.heap.size #[.int .i64 kd, .int .i64 na, .int .i64 oa, .int .i64 off, .int .i64 cnt, .slice ad len cd] V) := HV.out
    have vz0 : V.cell? ⟨G, 0, none⟩ = some (.int .i64 7) := hV.out.g.cell 0
    have vy0 : V.frozen? ⟨G, 0, none⟩ = false := hV.out.g.free 0
    have vz1 : V.cell? ⟨G, 1, none⟩ = some (.string ⟨#[]⟩) := hV.out.g.cell 1
    have vy1 : V.frozen? ⟨G, 1, none⟩ = false := hV.out.g.free 1
    have vz2 : V.cell? ⟨G, 2, none⟩ = some (.string ⟨#[]⟩) := hV.out.g.cell 2
    have vy2 : V.frozen? ⟨G, 2, none⟩ = false := hV.out.g.free 2
    have vz3 : V.cell? ⟨G, 3, none⟩ = some (.int .i64 0) := hV.out.g.cell 3
    have vy3 : V.frozen? ⟨G, 3, none⟩ = false := hV.out.g.free 3
    have vz4 : V.cell? ⟨G, 4, none⟩ = some (.int .i64 0) := hV.out.g.cell 4
    have vy4 : V.frozen? ⟨G, 4, none⟩ = false := hV.out.g.free 4
    have vz5 : V.cell? ⟨G, 5, none⟩ = some (.int .i64 0) := hV.out.g.cell 5
    have vy5 : V.frozen? ⟨G, 5, none⟩ = false := hV.out.g.free 5
    have vz6 : V.cell? ⟨G, 6, none⟩ = some (.int .i64 0) := hV.out.g.cell 6
    have vy6 : V.frozen? ⟨G, 6, none⟩ = false := hV.out.g.free 6
    have vz7 : V.cell? ⟨G, 7, none⟩ = some (.slice none 0 0) := hV.out.g.cell 7
    have vy7 : V.frozen? ⟨G, 7, none⟩ = false := hV.out.g.free 7
    have vp1 : V.cell? ⟨w.heap.size, 1, none⟩ = some (.int .i64 na) := hV.out.p.cell 1
    have vp2 : V.cell? ⟨w.heap.size, 2, none⟩ = some (.int .i64 oa) := hV.out.p.cell 2
    have vp3 : V.cell? ⟨w.heap.size, 3, none⟩ = some (.int .i64 off) := hV.out.p.cell 3
    have vp4 : V.cell? ⟨w.heap.size, 4, none⟩ = some (.int .i64 cnt) := hV.out.p.cell 4
    have vp5 : V.cell? ⟨w.heap.size, 5, none⟩ = some (.slice ad len cd) := hV.out.p.cell 5
    go_wp2_with (first
      | (go_at_call 27; refine (HO.out (V)).mono ?_; rintro e w2 ⟨rfl, hb⟩; have hw2 : Hid (LcK w G #[.int .i64 7, .string ⟨#[]⟩, .string ⟨#[]⟩, .int .i64 0, .int .i64 0, .int .i64 0, .int .i64 0, .slice none 0 0] w.heap.size #[.int .i64 kd, .int .i64 na, .int .i64 oa, .int .i64 off, .int .i64 cnt, .slice ad len cd] w2) := LcK.under hV.out hb.out; clear hb; have n1z0 : w2.cell? ⟨G, 0, none⟩ = some (.int .i64 7) := hw2.out.g.cell 0; have n1y0 : w2.frozen? ⟨G, 0, none⟩ = false := hw2.out.g.free 0; have n1z1 : w2.cell? ⟨G, 1, none⟩ = some (.string ⟨#[]⟩) := hw2.out.g.cell 1; have n1y1 : w2.frozen? ⟨G, 1, none⟩ = false := hw2.out.g.free 1; have n1z2 : w2.cell? ⟨G, 2, none⟩ = some (.string ⟨#[]⟩) := hw2.out.g.cell 2; have n1y2 : w2.frozen? ⟨G, 2, none⟩ = false := hw2.out.g.free 2; have n1z3 : w2.cell? ⟨G, 3, none⟩ = some (.int .i64 0) := hw2.out.g.cell 3; have n1y3 : w2.frozen? ⟨G, 3, none⟩ = false := hw2.out.g.free 3; have n1z4 : w2.cell? ⟨G, 4, none⟩ = some (.int .i64 0) := hw2.out.g.cell 4; have n1y4 : w2.frozen? ⟨G, 4, none⟩ = false := hw2.out.g.free 4; have n1z5 : w2.cell? ⟨G, 5, none⟩ = some (.int .i64 0) := hw2.out.g.cell 5; have n1y5 : w2.frozen? ⟨G, 5, none⟩ = false := hw2.out.g.free 5; have n1z6 : w2.cell? ⟨G, 6, none⟩ = some (.int .i64 0) := hw2.out.g.cell 6; have n1y6 : w2.frozen? ⟨G, 6, none⟩ = false := hw2.out.g.free 6; have n1z7 : w2.cell? ⟨G, 7, none⟩ = some (.slice none 0 0) := hw2.out.g.cell 7; have n1y7 : w2.frozen? ⟨G, 7, none⟩ = false := hw2.out.g.free 7; have n1p1 : w2.cell? ⟨w.heap.size, 1, none⟩ = some (.int .i64 na) := hw2.out.p.cell 1; have n1p2 : w2.cell? ⟨w.heap.size, 2, none⟩ = some (.int .i64 oa) := hw2.out.p.cell 2; have n1p3 : w2.cell? ⟨w.heap.size, 3, none⟩ = some (.int .i64 off) := hw2.out.p.cell 3; have n1p4 : w2.cell? ⟨w.heap.size, 4, none⟩ = some (.int .i64 cnt) := hw2.out.p.cell 4; have n1p5 : w2.cell? ⟨w.heap.size, 5, none⟩ = some (.slice ad len cd) := hw2.out.p.cell 5)
      | (refine wpList_load_box rfl 39 (.tmp 8) rfl G rfl 39 #[.int .i64 7, .string ⟨#[]⟩, encStr N2, .int .i64 0, .int .i64 0, .int .i64 0, .int .i64 0, .slice none 0 0] (LcK.g (LcK.set hw2.out 2 (encStr N2))) _ Tryd.underlying39 rfl (by kernel_rfl) ?_)
      | (refine wpList_store_box rfl 39 (.tmp 6) (.tmp 82) rfl (w.heap.size + 1) #[.int .i64 7, .string ⟨#[]⟩, encStr N2, .int .i64 0, .int .i64 0, .int .i64 0, .int .i64 0, .slice none 0 0] rfl rfl 39 _ (LcK.r (LcK.set hw2.out 2 (encStr N2))) (by kernel_rfl) rfl (by rfl) ?_; intro w8 hb8 hg8; have HB8 := Lib.hid hb8; have HG8 := Lib.hid hg8; clear hb8 hg8)
      | fail)
    refine bodyPost_ret (results_boxL Tryd.results11 _ _ (w.heap.size + 1) _ _ HB8.out _ rfl Tryd.underlying39 rfl (by kernel_rfl)) rfl ?_
    exact ⟨none, 0, 0, rfl, row_nilL _, LcK.finish (LcK.set hw2.out 2 (encStr N2)) HG8.out⟩
  · have hkI : ((7 : Nat) : Int) + 1 = 8 := rfl
    rw [hkI] at HV ⊢
    have hV : Hid (LcK w G #[.int .i64 8, .string ⟨#[]⟩, .string ⟨#[]⟩, .int .i64 0, .int .i64 0, .int .i64 0, .int .i64 0, .slice none 0 0] w.heap.size #[.int .i64 kd, .int .i64 na, .int .i64 oa, .int .i64 off, .int .i64 cnt, .slice ad len cd] V) := HV.out
    have vz0 : V.cell? ⟨G, 0, none⟩ = some (.int .i64 8) := hV.out.g.cell 0
    have vy0 : V.frozen? ⟨G, 0, none⟩ = false := hV.out.g.free 0
    have vz1 : V.cell? ⟨G, 1, none⟩ = some (.string ⟨#[]⟩) := hV.out.g.cell 1
    have vy1 : V.frozen? ⟨G, 1, none⟩ = false := hV.out.g.free 1
    have vz2 : V.cell? ⟨G, 2, none⟩ = some (.string ⟨#[]⟩) := hV.out.g.cell 2
    have vy2 : V.frozen? ⟨G, 2, none⟩ = false := hV.out.g.free 2
    have vz3 : V.cell? ⟨G, 3, none⟩ = some (.int .i64 0) := hV.out.g.cell 3
    have vy3 : V.frozen? ⟨G, 3, none⟩ = false := hV.out.g.free 3
    have vz4 : V.cell? ⟨G, 4, none⟩ = some (.int .i64 0) := hV.out.g.cell 4
    have vy4 : V.frozen? ⟨G, 4, none⟩ = false := hV.out.g.free 4
    have vz5 : V.cell? ⟨G, 5, none⟩ = some (.int .i64 0) := hV.out.g.cell 5
    have vy5 : V.frozen? ⟨G, 5, none⟩ = false := hV.out.g.free 5
    have vz6 : V.cell? ⟨G, 6, none⟩ = some (.int .i64 0) := hV.out.g.cell 6
    have vy6 : V.frozen? ⟨G, 6, none⟩ = false := hV.out.g.free 6
    have vz7 : V.cell? ⟨G, 7, none⟩ = some (.slice none 0 0) := hV.out.g.cell 7
    have vy7 : V.frozen? ⟨G, 7, none⟩ = false := hV.out.g.free 7
    have vp1 : V.cell? ⟨w.heap.size, 1, none⟩ = some (.int .i64 na) := hV.out.p.cell 1
    have vp2 : V.cell? ⟨w.heap.size, 2, none⟩ = some (.int .i64 oa) := hV.out.p.cell 2
    have vp3 : V.cell? ⟨w.heap.size, 3, none⟩ = some (.int .i64 off) := hV.out.p.cell 3
    have vp4 : V.cell? ⟨w.heap.size, 4, none⟩ = some (.int .i64 cnt) := hV.out.p.cell 4
    have vp5 : V.cell? ⟨w.heap.size, 5, none⟩ = some (.slice ad len cd) := hV.out.p.cell 5
    go_wp2_with (first
      | (go_at_call 7; refine (HN.out (V)).mono ?_; rintro e w2 ⟨rfl, hb⟩; have hw2 : Hid (LcK w G #[.int .i64 8, .string ⟨#[]⟩, .string ⟨#[]⟩, .int .i64 0, .int .i64 0, .int .i64 0, .int .i64 0, .slice none 0 0] w.heap.size #[.int .i64 kd, .int .i64 na, .int .i64 oa, .int .i64 off, .int .i64 cnt, .slice ad len cd] w2) := LcK.under hV.out hb.out; clear hb; have n1z0 : w2.cell? ⟨G, 0, none⟩ = some (.int .i64 8) := hw2.out.g.cell 0; have n1y0 : w2.frozen? ⟨G, 0, none⟩ = false := hw2.out.g.free 0; have n1z1 : w2.cell? ⟨G, 1, none⟩ = some (.string ⟨#[]⟩) := hw2.out.g.cell 1; have n1y1 : w2.frozen? ⟨G, 1, none⟩ = false := hw2.out.g.free 1; have n1z2 : w2.cell? ⟨G, 2, none⟩ = some (.string ⟨#[]⟩) := hw2.out.g.cell 2; have n1y2 : w2.frozen? ⟨G, 2, none⟩ = false := hw2.out.g.free 2; have n1z3 : w2.cell? ⟨G, 3, none⟩ = some (.int .i64 0) := hw2.out.g.cell 3; have n1y3 : w2.frozen? ⟨G, 3, none⟩ = false := hw2.out.g.free 3; have n1z4 : w2.cell? ⟨G, 4, none⟩ = some (.int .i64 0) := hw2.out.g.cell 4; have n1y4 : w2.frozen? ⟨G, 4, none⟩ = false := hw2.out.g.free 4; have n1z5 : w2.cell? ⟨G, 5, none⟩ = some (.int .i64 0) := hw2.out.g.cell 5; have n1y5 : w2.frozen? ⟨G, 5, none⟩ = false := hw2.out.g.free 5; have n1z6 : w2.cell? ⟨G, 6, none⟩ = some (.int .i64 0) := hw2.out.g.cell 6; have n1y6 : w2.frozen? ⟨G, 6, none⟩ = false := hw2.out.g.free 6; have n1z7 : w2.cell? ⟨G, 7, none⟩ = some (.slice none 0 0) := hw2.out.g.cell 7; have n1y7 : w2.frozen? ⟨G, 7, none⟩ = false := hw2.out.g.free 7; have n1p1 : w2.cell? ⟨w.heap.size, 1, none⟩ = some (.int .i64 na) := hw2.out.p.cell 1; have n1p2 : w2.cell? ⟨w.heap.size, 2, none⟩ = some (.int .i64 oa) := hw2.out.p.cell 2; have n1p3 : w2.cell? ⟨w.heap.size, 3, none⟩ = some (.int .i64 off) := hw2.out.p.cell 3; have n1p4 : w2.cell? ⟨w.heap.size, 4, none⟩ = some (.int .i64 cnt) := hw2.out.p.cell 4; have n1p5 : w2.cell? ⟨w.heap.size, 5, none⟩ = some (.slice ad len cd) := hw2.out.p.cell 5)
      | (go_at_call 27; refine (HO.out (w2.setCell ⟨G, 1, none⟩ (encStr N1))).mono ?_; rintro e w3 ⟨rfl, hb⟩; have hw3 : Hid (LcK w G #[.int .i64 8, encStr N1, .string ⟨#[]⟩, .int .i64 0, .int .i64 0, .int .i64 0, .int .i64 0, .slice none 0 0] w.heap.size #[.int .i64 kd, .int .i64 na, .int .i64 oa, .int .i64 off, .int .i64 cnt, .slice ad len cd] w3) := LcK.under (LcK.set hw2.out 1 (encStr N1)) hb.out; clear hb; have n2z0 : w3.cell? ⟨G, 0, none⟩ = some (.int .i64 8) := hw3.out.g.cell 0; have n2y0 : w3.frozen? ⟨G, 0, none⟩ = false := hw3.out.g.free 0; have n2z1 : w3.cell? ⟨G, 1, none⟩ = some (encStr N1) := hw3.out.g.cell 1; have n2y1 : w3.frozen? ⟨G, 1, none⟩ = false := hw3.out.g.free 1; have n2z2 : w3.cell? ⟨G, 2, none⟩ = some (.string ⟨#[]⟩) := hw3.out.g.cell 2; have n2y2 : w3.frozen? ⟨G, 2, none⟩ = false := hw3.out.g.free 2; have n2z3 : w3.cell? ⟨G, 3, none⟩ = some (.int .i64 0) := hw3.out.g.cell 3; have n2y3 : w3.frozen? ⟨G, 3, none⟩ = false := hw3.out.g.free 3; have n2z4 : w3.cell? ⟨G, 4, none⟩ = some (.int .i64 0) := hw3.out.g.cell 4; have n2y4 : w3.frozen? ⟨G, 4, none⟩ = false := hw3.out.g.free 4; have n2z5 : w3.cell? ⟨G, 5, none⟩ = some (.int .i64 0) := hw3.out.g.cell 5; have n2y5 : w3.frozen? ⟨G, 5, none⟩ = false := hw3.out.g.free 5; have n2z6 : w3.cell? ⟨G, 6, none⟩ = some (.int .i64 0) := hw3.out.g.cell 6; have n2y6 : w3.frozen? ⟨G, 6, none⟩ = false := hw3.out.g.free 6; have n2z7 : w3.cell? ⟨G, 7, none⟩ = some (.slice none 0 0) := hw3.out.g.cell 7; have n2y7 : w3.frozen? ⟨G, 7, none⟩ = false := hw3.out.g.free 7; have n2p1 : w3.cell? ⟨w.heap.size, 1, none⟩ = some (.int .i64 na) := hw3.out.p.cell 1; have n2p2 : w3.cell? ⟨w.heap.size, 2, none⟩ = some (.int .i64 oa) := hw3.out.p.cell 2; have n2p3 : w3.cell? ⟨w.heap.size, 3, none⟩ = some (.int .i64 off) := hw3.out.p.cell 3; have n2p4 : w3.cell? ⟨w.heap.size, 4, none⟩ = some (.int .i64 cnt) := hw3.out.p.cell 4; have n2p5 : w3.cell? ⟨w.heap.size, 5, none⟩ = some (.slice ad len cd) := hw3.out.p.cell 5)
      | (refine wpList_load_box rfl 39 (.tmp 8) rfl G rfl 39 #[.int .i64 8, encStr N1, encStr N2, .int .i64 off, .int .i64 cnt, .int .i64 0, .int .i64 0, .slice none 0 0] (LcK.g (LcK.set (LcK.set (LcK.set hw3.out 2 (encStr N2)) 3 (.int .i64 off)) 4 (.int .i64 cnt))) _ Tryd.underlying39 rfl (by kernel_rfl) ?_)
      | (refine wpList_store_box rfl 39 (.tmp 6) (.tmp 82) rfl (w.heap.size + 1) #[.int .i64 8, encStr N1, encStr N2, .int .i64 off, .int .i64 cnt, .int .i64 0, .int .i64 0, .slice none 0 0] rfl rfl 39 _ (LcK.r (LcK.set (LcK.set (LcK.set hw3.out 2 (encStr N2)) 3 (.int .i64 off)) 4 (.int .i64 cnt))) (by kernel_rfl) rfl (by rfl) ?_; intro w8 hb8 hg8; have HB8 := Lib.hid hb8; have HG8 := Lib.hid hg8; clear hb8 hg8)
      | fail)
    refine bodyPost_ret (results_boxL Tryd.results11 _ _ (w.heap.size + 1) _ _ HB8.out _ rfl Tryd.underlying39 rfl (by kernel_rfl)) rfl ?_
    exact ⟨none, 0, 0, rfl, row_nilL _, LcK.finish (LcK.set (LcK.set (LcK.set hw3.out 2 (encStr N2)) 3 (.int .i64 off)) 4 (.int .i64 cnt)) HG8.out⟩
  · have hkI : ((8 : Nat) : Int) + 1 = 9 := rfl
    rw [hkI] at HV ⊢
    have hV : Hid (LcK w G #[.int .i64 9, .string ⟨#[]⟩, .string ⟨#[]⟩, .int .i64 0, .int .i64 0, .int .i64 0, .int .i64 0, .slice none 0 0] w.heap.size #[.int .i64 kd, .int .i64 na, .int .i64 oa, .int .i64 off, .int .i64 cnt, .slice ad len cd] V) := HV.out
    have vz0 : V.cell? ⟨G, 0, none⟩ = some (.int .i64 9) := hV.out.g.cell 0
    have vy0 : V.frozen? ⟨G, 0, none⟩ = false := hV.out.g.free 0
    have vz1 : V.cell? ⟨G, 1, none⟩ = some (.string ⟨#[]⟩) := hV.out.g.cell 1
    have vy1 : V.frozen? ⟨G, 1, none⟩ = false := hV.out.g.free 1
    have vz2 : V.cell? ⟨G, 2, none⟩ = some (.string ⟨#[]⟩) := hV.out.g.cell 2
    have vy2 : V.frozen? ⟨G, 2, none⟩ = false := hV.out.g.free 2
    have vz3 : V.cell? ⟨G, 3, none⟩ = some (.int .i64 0) := hV.out.g.cell 3
    have vy3 : V.frozen? ⟨G, 3, none⟩ = false := hV.out.g.free 3
    have vz4 : V.cell? ⟨G, 4, none⟩ = some (.int .i64 0) := hV.out.g.cell 4
    have vy4 : V.frozen? ⟨G, 4, none⟩ = false := hV.out.g.free 4
    have vz5 : V.cell? ⟨G, 5, none⟩ = some (.int .i64 0) := hV.out.g.cell 5
    have vy5 : V.frozen? ⟨G, 5, none⟩ = false := hV.out.g.free 5
    have vz6 : V.cell? ⟨G, 6, none⟩ = some (.int .i64 0) := hV.out.g.cell 6
    have vy6 : V.frozen? ⟨G, 6, none⟩ = false := hV.out.g.free 6
    have vz7 : V.cell? ⟨G, 7, none⟩ = some (.slice none 0 0) := hV.out.g.cell 7
    have vy7 : V.frozen? ⟨G, 7, none⟩ = false := hV.out.g.free 7
    have vp1 : V.cell? ⟨w.heap.size, 1, none⟩ = some (.int .i64 na) := hV.out.p.cell 1
    have vp2 : V.cell? ⟨w.heap.size, 2, none⟩ = some (.int .i64 oa) := hV.out.p.cell 2
    have vp3 : V.cell? ⟨w.heap.size, 3, none⟩ = some (.int .i64 off) := hV.out.p.cell 3
    have vp4 : V.cell? ⟨w.heap.size, 4, none⟩ = some (.int .i64 cnt) := hV.out.p.cell 4
    have vp5 : V.cell? ⟨w.heap.size, 5, none⟩ = some (.slice ad len cd) := hV.out.p.cell 5
    go_wp2_with (first
      | (go_at_call 27; refine (HO.out (V)).mono ?_; rintro e w2 ⟨rfl, hb⟩; have hw2 : Hid (LcK w G #[.int .i64 9, .string ⟨#[]⟩, .string ⟨#[]⟩, .int .i64 0, .int .i64 0, .int .i64 0, .int .i64 0, .slice none 0 0] w.heap.size #[.int .i64 kd, .int .i64 na, .int .i64 oa, .int .i64 off, .int .i64 cnt, .slice ad len cd] w2) := LcK.under hV.out hb.out; clear hb; have n1z0 : w2.cell? ⟨G, 0, none⟩ = some (.int .i64 9) := hw2.out.g.cell 0; have n1y0 : w2.frozen? ⟨G, 0, none⟩ = false := hw2.out.g.free 0; have n1z1 : w2.cell? ⟨G, 1, none⟩ = some (.string ⟨#[]⟩) := hw2.out.g.cell 1; have n1y1 : w2.frozen? ⟨G, 1, none⟩ = false := hw2.out.g.free 1; have n1z2 : w2.cell? ⟨G, 2, none⟩ = some (.string ⟨#[]⟩) := hw2.out.g.cell 2; have n1y2 : w2.frozen? ⟨G, 2, none⟩ = false := hw2.out.g.free 2; have n1z3 : w2.cell? ⟨G, 3, none⟩ = some (.int .i64 0) := hw2.out.g.cell 3; have n1y3 : w2.frozen? ⟨G, 3, none⟩ = false := hw2.out.g.free 3; have n1z4 : w2.cell? ⟨G, 4, none⟩ = some (.int .i64 0) := hw2.out.g.cell 4; have n1y4 : w2.frozen? ⟨G, 4, none⟩ = false := hw2.out.g.free 4; have n1z5 : w2.cell? ⟨G, 5, none⟩ = some (.int .i64 0) := hw2.out.g.cell 5; have n1y5 : w2.frozen? ⟨G, 5, none⟩ = false := hw2.out.g.free 5; have n1z6 : w2.cell? ⟨G, 6, none⟩ = some (.int .i64 0) := hw2.out.g.cell 6; have n1y6 : w2.frozen? ⟨G, 6, none⟩ = false := hw2.out.g.free 6; have n1z7 : w2.cell? ⟨G, 7, none⟩ = some (.slice none 0 0) := hw2.out.g.cell 7; have n1y7 : w2.frozen? ⟨G, 7, none⟩ = false := hw2.out.g.free 7; have n1p1 : w2.cell? ⟨w.heap.size, 1, none⟩ = some (.int .i64 na) := hw2.out.p.cell 1; have n1p2 : w2.cell? ⟨w.heap.size, 2, none⟩ = some (.int .i64 oa) := hw2.out.p.cell 2; have n1p3 : w2.cell? ⟨w.heap.size, 3, none⟩ = some (.int .i64 off) := hw2.out.p.cell 3; have n1p4 : w2.cell? ⟨w.heap.size, 4, none⟩ = some (.int .i64 cnt) := hw2.out.p.cell 4; have n1p5 : w2.cell? ⟨w.heap.size, 5, none⟩ = some (.slice ad len cd) := hw2.out.p.cell 5)
      | (refine wpList_load_box rfl 39 (.tmp 8) rfl G rfl 39 #[.int .i64 9, .string ⟨#[]⟩, encStr N2, .int .i64 0, .int .i64 0, .int .i64 0, .int .i64 0, .slice none 0 0] (LcK.g (LcK.set hw2.out 2 (encStr N2))) _ Tryd.underlying39 rfl (by kernel_rfl) ?_)
      | (refine wpList_store_box rfl 39 (.tmp 6) (.tmp 82) rfl (w.heap.size + 1) #[.int .i64 9, .string ⟨#[]⟩, encStr N2, .int .i64 0, .int .i64 0, .int .i64 0, .int .i64 0, .slice none 0 0] rfl rfl 39 _ (LcK.r (LcK.set hw2.out 2 (encStr N2))) (by kernel_rfl) rfl (by rfl) ?_; intro w8 hb8 hg8; have HB8 := Lib.hid hb8; have HG8 := Lib.hid hg8; clear hb8 hg8)
      | fail)
    refine bodyPost_ret (results_boxL Tryd.results11 _ _ (w.heap.size + 1) _ _ HB8.out _ rfl Tryd.underlying39 rfl (by kernel_rfl)) rfl ?_
    exact ⟨none, 0, 0, rfl, row_nilL _, LcK.finish (LcK.set hw2.out 2 (encStr N2)) HG8.out⟩
  · have hkI : ((9 : Nat) : Int) + 1 = 10 := rfl
    rw [hkI] at HV ⊢
    have hV : Hid (LcK w G #[.int .i64 10, .string ⟨#[]⟩, .string ⟨#[]⟩, .int .i64 0, .int .i64 0, .int .i64 0, .int .i64 0, .slice none 0 0] w.heap.size #[.int .i64 kd, .int .i64 na, .int .i64 oa, .int .i64 off, .int .i64 cnt, .slice ad len cd] V) := HV.out
    have vz0 : V.cell? ⟨G, 0, none⟩ = some (.int .i64 10) := hV.out.g.cell 0
    have vy0 : V.frozen? ⟨G, 0, none⟩ = false := hV.out.g.free 0
    have vz1 : V.cell? ⟨G, 1, none⟩ = some (.string ⟨#[]⟩) := hV.out.g.cell 1
    have vy1 : V.frozen? ⟨G, 1, none⟩ = false := hV.out.g.free 1
    have vz2 : V.cell? ⟨G, 2, none⟩ = some (.string ⟨#[]⟩) := hV.out.g.cell 2
    have vy2 : V.frozen? ⟨G, 2, none⟩ = false := hV.out.g.free 2
    have vz3 : V.cell? ⟨G, 3, none⟩ = some (.int .i64 0) := hV.out.g.cell 3
    have vy3 : V.frozen? ⟨G, 3, none⟩ = false := hV.out.g.free 3
    have vz4 : V.cell? ⟨G, 4, none⟩ = some (.int .i64 0) := hV.out.g.cell 4
    have vy4 : V.frozen? ⟨G, 4, none⟩ = false := hV.out.g.free 4
    have vz5 : V.cell? ⟨G, 5, none⟩ = some (.int .i64 0) := hV.out.g.cell 5
    have vy5 : V.frozen? ⟨G, 5, none⟩ = false := hV.out.g.free 5
    have vz6 : V.cell? ⟨G, 6, none⟩ = some (.int .i64 0) := hV.out.g.cell 6
    have vy6 : V.frozen? ⟨G, 6, none⟩ = false := hV.out.g.free 6
    have vz7 : V.cell? ⟨G, 7, none⟩ = some (.slice none 0 0) := hV.out.g.cell 7
    have vy7 : V.frozen? ⟨G, 7, none⟩ = false := hV.out.g.free 7
    have vp1 : V.cell? ⟨w.heap.size, 1, none⟩ = some (.int .i64 na) := hV.out.p.cell 1
    have vp2 : V.cell? ⟨w.heap.size, 2, none⟩ = some (.int .i64 oa) := hV.out.p.cell 2
    have vp3 : V.cell? ⟨w.heap.size, 3, none⟩ = some (.int .i64 off) := hV.out.p.cell 3
    have vp4 : V.cell? ⟨w.heap.size, 4, none⟩ = some (.int .i64 cnt) := hV.out.p.cell 4
    have vp5 : V.cell? ⟨w.heap.size, 5, none⟩ = some (.slice ad len cd) := hV.out.p.cell 5
    go_wp2_with (first
      | (go_at_call 27; refine (HO.out (V)).mono ?_; rintro e w2 ⟨rfl, hb⟩; have hw2 : Hid (LcK w G #[.int .i64 10, .string ⟨#[]⟩, .string ⟨#[]⟩, .int .i64 0, .int .i64 0, .int .i64 0, .int .i64 0, .slice none 0 0] w.heap.size #[.int .i64 kd, .int .i64 na, .int .i64 oa, .int .i64 off, .int .i64 cnt, .slice ad len cd] w2) := LcK.under hV.out hb.out; clear hb; have n1z0 : w2.cell? ⟨G, 0, none⟩ = some (.int .i64 10) := hw2.out.g.cell 0; have n1y0 : w2.frozen? ⟨G, 0, none⟩ = false := hw2.out.g.free 0; have n1z1 : w2.cell? ⟨G, 1, none⟩ = some (.string ⟨#[]⟩) := hw2.out.g.cell 1; have n1y1 : w2.frozen? ⟨G, 1, none⟩ = false := hw2.out.g.free 1; have n1z2 : w2.cell? ⟨G, 2, none⟩ = some (.string ⟨#[]⟩) := hw2.out.g.cell 2; have n1y2 : w2.frozen? ⟨G, 2, none⟩ = false := hw2.out.g.free 2; have n1z3 : w2.cell? ⟨G, 3, none⟩ = some (.int .i64 0) := hw2.out.g.cell 3; have n1y3 : w2.frozen? ⟨G, 3, none⟩ = false := hw2.out.g.free 3; have n1z4 : w2.cell? ⟨G, 4, none⟩ = some (.int .i64 0) := hw2.out.g.cell 4; have n1y4 : w2.frozen? ⟨G, 4, none⟩ = false := hw2.out.g.free 4; have n1z5 : w2.cell? ⟨G, 5, none⟩ = some (.int .i64 0) := hw2.out.g.cell 5; have n1y5 : w2.frozen? ⟨G, 5, none⟩ = false := hw2.out.g.free 5; have n1z6 : w2.cell? ⟨G, 6, none⟩ = some (.int .i64 0) := hw2.out.g.cell 6; have n1y6 : w2.frozen? ⟨G, 6, none⟩ = false := hw2.out.g.free 6; have n1z7 : w2.cell? ⟨G, 7, none⟩ = some (.slice none 0 0) := hw2.out.g.cell 7; have n1y7 : w2.frozen? ⟨G, 7, none⟩ = false := hw2.out.g.free 7; have n1p1 : w2.cell? ⟨w.heap.size, 1, none⟩ = some (.int .i64 na) := hw2.out.p.cell 1; have n1p2 : w2.cell? ⟨w.heap.size, 2, none⟩ = some (.int .i64 oa) := hw2.out.p.cell 2; have n1p3 : w2.cell? ⟨w.heap.size, 3, none⟩ = some (.int .i64 off) := hw2.out.p.cell 3; have n1p4 : w2.cell? ⟨w.heap.size, 4, none⟩ = some (.int .i64 cnt) := hw2.out.p.cell 4; have n1p5 : w2.cell? ⟨w.heap.size, 5, none⟩ = some (.slice ad len cd) := hw2.out.p.cell 5)
      | (refine wpList_load_box rfl 39 (.tmp 8) rfl G rfl 39 #[.int .i64 10, .string ⟨#[]⟩, encStr N2, .int .i64 0, .int .i64 0, .int .i64 0, .int .i64 0, .slice none 0 0] (LcK.g (LcK.set hw2.out 2 (encStr N2))) _ Tryd.underlying39 rfl (by kernel_rfl) ?_)
      | (refine wpList_store_box rfl 39 (.tmp 6) (.tmp 82) rfl (w.heap.size + 1) #[.int .i64 10, .string ⟨#[]⟩, encStr N2, .int .i64 0, .int .i64 0, .int .i64 0, .int .i64 0, .slice none 0 0] rfl rfl 39 _ (LcK.r (LcK.set hw2.out 2 (encStr N2))) (by kernel_rfl) rfl (by rfl) ?_; intro w8 hb8 hg8; have HB8 := Lib.hid hb8; have HG8 := Lib.hid hg8; clear hb8 hg8)
      | fail)
    refine bodyPost_ret (results_boxL Tryd.results11 _ _ (w.heap.size + 1) _ _ HB8.out _ rfl Tryd.underlying39 rfl (by kernel_rfl)) rfl ?_
    exact ⟨none, 0, 0, rfl, row_nilL _, LcK.finish (LcK.set hw2.out 2 (encStr N2)) HG8.out⟩
  · have hkI : ((10 : Nat) : Int) + 1 = 11 := rfl
    rw [hkI] at HV ⊢
    have hV : Hid (LcK w G #[.int .i64 11, .string ⟨#[]⟩, .string ⟨#[]⟩, .int .i64 0, .int .i64 0, .int .i64 0, .int .i64 0, .slice none 0 0] w.heap.size #[.int .i64 kd, .int .i64 na, .int .i64 oa, .int .i64 off, .int .i64 cnt, .slice ad len cd] V) := HV.out
    have vz0 : V.cell? ⟨G, 0, none⟩ = some (.int .i64 11) := hV.out.g.cell 0
    have vy0 : V.frozen? ⟨G, 0, none⟩ = false := hV.out.g.free 0
    have vz1 : V.cell? ⟨G, 1, none⟩ = some (.string ⟨#[]⟩) := hV.out.g.cell 1
    have vy1 : V.frozen? ⟨G, 1, none⟩ = false := hV.out.g.free 1
    have vz2 : V.cell? ⟨G, 2, none⟩ = some (.string ⟨#[]⟩) := hV.out.g.cell 2
    have vy2 : V.frozen? ⟨G, 2, none⟩ = false := hV.out.g.free 2
    have vz3 : V.cell? ⟨G, 3, none⟩ = some (.int .i64 0) := hV.out.g.cell 3
    have vy3 : V.frozen? ⟨G, 3, none⟩ = false := hV.out.g.free 3
    have vz4 : V.cell? ⟨G, 4, none⟩ = some (.int .i64 0) := hV.out.g.cell 4
    have vy4 : V.frozen? ⟨G, 4, none⟩ = false := hV.out.g.free 4
    have vz5 : V.cell? ⟨G, 5, none⟩ = some (.int .i64 0) := hV.out.g.cell 5
    have vy5 : V.frozen? ⟨G, 5, none⟩ = false := hV.out.g.free 5
    have vz6 : V.cell? ⟨G, 6, none⟩ = some (.int .i64 0) := hV.out.g.cell 6
    have vy6 : V.frozen? ⟨G, 6, none⟩ = false := hV.out.g.free 6
    have vz7 : V.cell? ⟨G, 7, none⟩ = some (.slice none 0 0) := hV.out.g.cell 7
    have vy7 : V.frozen? ⟨G, 7, none⟩ = false := hV.out.g.free 7
    have vp1 : V.cell? ⟨w.heap.size, 1, none⟩ = some (.int .i64 na) := hV.out.p.cell 1
    have vp2 : V.cell? ⟨w.heap.size, 2, none⟩ = some (.int .i64 oa) := hV.out.p.cell 2
    have vp3 : V.cell? ⟨w.heap.size, 3, none⟩ = some (.int .i64 off) := hV.out.p.cell 3
    have vp4 : V.cell? ⟨w.heap.size, 4, none⟩ = some (.int .i64 cnt) := hV.out.p.cell 4
    have vp5 : V.cell? ⟨w.heap.size, 5, none⟩ = some (.slice ad len cd) := hV.out.p.cell 5
    go_wp2_with (first
      | (refine wpList_load_box rfl 39 (.tmp 8) rfl G rfl 39 #[.int .i64 11, .string ⟨#[]⟩, .string ⟨#[]⟩, .int .i64 0, .int .i64 0, .int .i64 0, .int .i64 0, .slice none 0 0] (LcK.g hV.out) _ Tryd.underlying39 rfl (by kernel_rfl) ?_)
      | (refine wpList_store_box rfl 39 (.tmp 6) (.tmp 82) rfl (w.heap.size + 1) #[.int .i64 11, .string ⟨#[]⟩, .string ⟨#[]⟩, .int .i64 0, .int .i64 0, .int .i64 0, .int .i64 0, .slice none 0 0] rfl rfl 39 _ (LcK.r hV.out) (by kernel_rfl) rfl (by rfl) ?_; intro w8 hb8 hg8; have HB8 := Lib.hid hb8; have HG8 := Lib.hid hg8; clear hb8 hg8)
      | fail)
    refine bodyPost_ret (results_boxL Tryd.results11 _ _ (w.heap.size + 1) _ _ HB8.out _ rfl Tryd.underlying39 rfl (by kernel_rfl)) rfl ?_
    exact ⟨none, 0, 0, rfl, row_nilL _, LcK.finish hV.out HG8.out⟩
  · have hkI : ((11 : Nat) : Int) + 1 = 12 := rfl
    rw [hkI] at HV ⊢
    have hV : Hid (LcK w G #[.int .i64 12, .string ⟨#[]⟩, .string ⟨#[]⟩, .int .i64 0, .int .i64 0, .int .i64 0, .int .i64 0, .slice none 0 0] w.heap.size #[.int .i64 kd, .int .i64 na, .int .i64 oa, .int .i64 off, .int .i64 cnt, .slice ad len cd] V) := HV.out
    have vz0 : V.cell? ⟨G, 0, none⟩ = some (.int .i64 12) := hV.out.g.cell 0
    have vy0 : V.frozen? ⟨G, 0, none⟩ = false := hV.out.g.free 0
    have vz1 : V.cell? ⟨G, 1, none⟩ = some (.string ⟨#[]⟩) := hV.out.g.cell 1
    have vy1 : V.frozen? ⟨G, 1, none⟩ = false := hV.out.g.free 1
    have vz2 : V.cell? ⟨G, 2, none⟩ = some (.string ⟨#[]⟩) := hV.out.g.cell 2
    have vy2 : V.frozen? ⟨G, 2, none⟩ = false := hV.out.g.free 2
    have vz3 : V.cell? ⟨G, 3, none⟩ = some (.int .i64 0) := hV.out.g.cell 3
    have vy3 : V.frozen? ⟨G, 3, none⟩ = false := hV.out.g.free 3
    have vz4 : V.cell? ⟨G, 4, none⟩ = some (.int .i64 0) := hV.out.g.cell 4
    have vy4 : V.frozen? ⟨G, 4, none⟩ = false := hV.out.g.free 4
    have vz5 : V.cell? ⟨G, 5, none⟩ = some (.int .i64 0) := hV.out.g.cell 5
    have vy5 : V.frozen? ⟨G, 5, none⟩ = false := hV.out.g.free 5
    have vz6 : V.cell? ⟨G, 6, none⟩ = some (.int .i64 0) := hV.out.g.cell 6
    have vy6 : V.frozen? ⟨G, 6, none⟩ = false := hV.out.g.free 6
    have vz7 : V.cell? ⟨G, 7, none⟩ = some (.slice none 0 0) := hV.out.g.cell 7
    have vy7 : V.frozen? ⟨G, 7, none⟩ = false := hV.out.g.free 7
    have vp1 : V.cell? ⟨w.heap.size, 1, none⟩ = some (.int .i64 na) := hV.out.p.cell 1
    have vp2 : V.cell? ⟨w.heap.size, 2, none⟩ = some (.int .i64 oa) := hV.out.p.cell 2
    have vp3 : V.cell? ⟨w.heap.size, 3, none⟩ = some (.int .i64 off) := hV.out.p.cell 3
    have vp4 : V.cell? ⟨w.heap.size, 4, none⟩ = some (.int .i64 cnt) := hV.out.p.cell 4
    have vp5 : V.cell? ⟨w.heap.size, 5, none⟩ = some (.slice ad len cd) := hV.out.p.cell 5
    go_wp2_with (first
      | (refine wpList_load_box rfl 39 (.tmp 8) rfl G rfl 39 #[.int .i64 12, .string ⟨#[]⟩, .string ⟨#[]⟩, .int .i64 0, .int .i64 0, .int .i64 0, .int .i64 0, .slice none 0 0] (LcK.g hV.out) _ Tryd.underlying39 rfl (by kernel_rfl) ?_)
      | (refine wpList_store_box rfl 39 (.tmp 6) (.tmp 82) rfl (w.heap.size + 1) #[.int .i64 12, .string ⟨#[]⟩, .string ⟨#[]⟩, .int .i64 0, .int .i64 0, .int .i64 0, .int .i64 0, .slice none 0 0] rfl rfl 39 _ (LcK.r hV.out) (by kernel_rfl) rfl (by rfl) ?_; intro w8 hb8 hg8; have HB8 := Lib.hid hb8; have HG8 := Lib.hid hg8; clear hb8 hg8)
      | fail)
    refine bodyPost_ret (results_boxL Tryd.results11 _ _ (w.heap.size + 1) _ _ HB8.out _ rfl Tryd.underlying39 rfl (by kernel_rfl)) rfl ?_
    exact ⟨none, 0, 0, rfl, row_nilL _, LcK.finish hV.out HG8.out⟩
  · have hkI : ((12 : Nat) : Int) + 1 = 13 := rfl
    rw [hkI] at HV ⊢
    have hV : Hid (LcK w G #[.int .i64 13, .string ⟨#[]⟩, .string ⟨#[]⟩, .int .i64 0, .int .i64 0, .int .i64 0, .int .i64 0, .slice none 0 0] w.heap.size #[.int .i64 kd, .int .i64 na, .int .i64 oa, .int .i64 off, .int .i64 cnt, .slice ad len cd] V) := HV.out
    have vz0 : V.cell? ⟨G, 0, none⟩ = some (.int .i64 13) := hV.out.g.cell 0
    have vy0 : V.frozen? ⟨G, 0, none⟩ = false := hV.out.g.free 0
    have vz1 : V.cell? ⟨G, 1, none⟩ = some (.string ⟨#[]⟩) := hV.out.g.cell 1
    have vy1 : V.frozen? ⟨G, 1, none⟩ = false := hV.out.g.free 1
    have vz2 : V.cell? ⟨G, 2, none⟩ = some (.string ⟨#[]⟩) := hV.out.g.cell 2
    have vy2 : V.frozen? ⟨G, 2, none⟩ = false := hV.out.g.free 2
    have vz3 : V.cell? ⟨G, 3, none⟩ = some (.int .i64 0) := hV.out.g.cell 3
    have vy3 : V.frozen? ⟨G, 3, none⟩ = false := hV.out.g.free 3
    have vz4 : V.cell? ⟨G, 4, none⟩ = some (.int .i64 0) := hV.out.g.cell 4
    have vy4 : V.frozen? ⟨G, 4, none⟩ = false := hV.out.g.free 4
    have vz5 : V.cell? ⟨G, 5, none⟩ = some (.int .i64 0) := hV.out.g.cell 5
    have vy5 : V.frozen? ⟨G, 5, none⟩ = false := hV.out.g.free 5
    have vz6 : V.cell? ⟨G, 6, none⟩ = some (.int .i64 0) := hV.out.g.cell 6
    have vy6 : V.frozen? ⟨G, 6, none⟩ = false := hV.out.g.free 6
    have vz7 : V.cell? ⟨G, 7, none⟩ = some (.slice none 0 0) := hV.out.g.cell 7
    have vy7 : V.frozen? ⟨G, 7, none⟩ = false := hV.out.g.free 7
    have vp1 : V.cell? ⟨w.heap.size, 1, none⟩ = some (.int .i64 na) := hV.out.p.cell 1
    have vp2 : V.cell? ⟨w.heap.size, 2, none⟩ = some (.int .i64 oa) := hV.out.p.cell 2
    have vp3 : V.cell? ⟨w.heap.size, 3, none⟩ = some (.int .i64 off) := hV.out.p.cell 3
    have vp4 : V.cell? ⟨w.heap.size, 4, none⟩ = some (.int .i64 cnt) := hV.out.p.cell 4
    have vp5 : V.cell? ⟨w.heap.size, 5, none⟩ = some (.slice ad len cd) := hV.out.p.cell 5
    go_wp2_with (first
      | (refine wpList_load_box rfl 39 (.tmp 8) rfl G rfl 39 #[.int .i64 13, .string ⟨#[]⟩, .string ⟨#[]⟩, .int .i64 0, .int .i64 0, .int .i64 0, .int .i64 keep, .slice none 0 0] (LcK.g (LcK.set hV.out 6 (.int .i64 keep))) _ Tryd.underlying39 rfl (by kernel_rfl) ?_)
      | (refine wpList_store_box rfl 39 (.tmp 6) (.tmp 82) rfl (w.heap.size + 1) #[.int .i64 13, .string ⟨#[]⟩, .string ⟨#[]⟩, .int .i64 0, .int .i64 0, .int .i64 0, .int .i64 keep, .slice none 0 0] rfl rfl 39 _ (LcK.r (LcK.set hV.out 6 (.int .i64 keep))) (by kernel_rfl) rfl (by rfl) ?_; intro w8 hb8 hg8; have HB8 := Lib.hid hb8; have HG8 := Lib.hid hg8; clear hb8 hg8)
      | fail)
    refine bodyPost_ret (results_boxL Tryd.results11 _ _ (w.heap.size + 1) _ _ HB8.out _ rfl Tryd.underlying39 rfl (by kernel_rfl)) rfl ?_
    exact ⟨none, 0, 0, rfl, row_nilL _, LcK.finish (LcK.set hV.out 6 (.int .i64 keep)) HG8.out⟩
  · have hkI : ((13 : Nat) : Int) + 1 = 14 := rfl
    rw [hkI] at HV ⊢
    have hV : Hid (LcK w G #[.int .i64 14, .string ⟨#[]⟩, .string ⟨#[]⟩, .int .i64 0, .int .i64 0, .int .i64 0, .int .i64 0, .slice none 0 0] w.heap.size #[.int .i64 kd, .int .i64 na, .int .i64 oa, .int .i64 off, .int .i64 cnt, .slice ad len cd] V) := HV.out
    have vz0 : V.cell? ⟨G, 0, none⟩ = some (.int .i64 14) := hV.out.g.cell 0
    have vy0 : V.frozen? ⟨G, 0, none⟩ = false := hV.out.g.free 0
    have vz1 : V.cell? ⟨G, 1, none⟩ = some (.string ⟨#[]⟩) := hV.out.g.cell 1
    have vy1 : V.frozen? ⟨G, 1, none⟩ = false := hV.out.g.free 1
    have vz2 : V.cell? ⟨G, 2, none⟩ = some (.string ⟨#[]⟩) := hV.out.g.cell 2
    have vy2 : V.frozen? ⟨G, 2, none⟩ = false := hV.out.g.free 2
    have vz3 : V.cell? ⟨G, 3, none⟩ = some (.int .i64 0) := hV.out.g.cell 3
    have vy3 : V.frozen? ⟨G, 3, none⟩ = false := hV.out.g.free 3
    have vz4 : V.cell? ⟨G, 4, none⟩ = some (.int .i64 0) := hV.out.g.cell 4
    have vy4 : V.frozen? ⟨G, 4, none⟩ = false := hV.out.g.free 4
    have vz5 : V.cell? ⟨G, 5, none⟩ = some (.int .i64 0) := hV.out.g.cell 5
    have vy5 : V.frozen? ⟨G, 5, none⟩ = false := hV.out.g.free 5
    have vz6 : V.cell? ⟨G, 6, none⟩ = some (.int .i64 0) := hV.out.g.cell 6
    have vy6 : V.frozen? ⟨G, 6, none⟩ = false := hV.out.g.free 6
    have vz7 : V.cell? ⟨G, 7, none⟩ = some (.slice none 0 0) := hV.out.g.cell 7
    have vy7 : V.frozen? ⟨G, 7, none⟩ = false := hV.out.g.free 7
    have vp1 : V.cell? ⟨w.heap.size, 1, none⟩ = some (.int .i64 na) := hV.out.p.cell 1
    have vp2 : V.cell? ⟨w.heap.size, 2, none⟩ = some (.int .i64 oa) := hV.out.p.cell 2
    have vp3 : V.cell? ⟨w.heap.size, 3, none⟩ = some (.int .i64 off) := hV.out.p.cell 3
    have vp4 : V.cell? ⟨w.heap.size, 4, none⟩ = some (.int .i64 cnt) := hV.out.p.cell 4
    have vp5 : V.cell? ⟨w.heap.size, 5, none⟩ = some (.slice ad len cd) := hV.out.p.cell 5
    go_wp2_with (first
      | (refine wpList_load_box rfl 39 (.tmp 8) rfl G rfl 39 #[.int .i64 14, .string ⟨#[]⟩, .string ⟨#[]⟩, .int .i64 0, .int .i64 cnt, .int .i64 0, .int .i64 keep, .slice none 0 0] (LcK.g (LcK.set (LcK.set hV.out 6 (.int .i64 keep)) 4 (.int .i64 cnt))) _ Tryd.underlying39 rfl (by kernel_rfl) ?_)
      | (refine wpList_store_box rfl 39 (.tmp 6) (.tmp 82) rfl (w.heap.size + 1) #[.int .i64 14, .string ⟨#[]⟩, .string ⟨#[]⟩, .int .i64 0, .int .i64 cnt, .int .i64 0, .int .i64 keep, .slice none 0 0] rfl rfl 39 _ (LcK.r (LcK.set (LcK.set hV.out 6 (.int .i64 keep)) 4 (.int .i64 cnt))) (by kernel_rfl) rfl (by rfl) ?_; intro w8 hb8 hg8; have HB8 := Lib.hid hb8; have HG8 := Lib.hid hg8; clear hb8 hg8)
      | fail)
    refine bodyPost_ret (results_boxL Tryd.results11 _ _ (w.heap.size + 1) _ _ HB8.out _ rfl Tryd.underlying39 rfl (by kernel_rfl)) rfl ?_
    exact ⟨none, 0, 0, rfl, row_nilL _, LcK.finish (LcK.set (LcK.set hV.out 6 (.int .i64 keep)) 4 (.int .i64 cnt)) HG8.out⟩
  · have hkI : ((14 : Nat) : Int) + 1 = 15 := rfl
    rw [hkI] at HV ⊢
    have hV : Hid (LcK w G #[.int .i64 15, .string ⟨#[]⟩, .string ⟨#[]⟩, .int .i64 0, .int .i64 0, .int .i64 0, .int .i64 0, .slice none 0 0] w.heap.size #[.int .i64 kd, .int .i64 na, .int .i64 oa, .int .i64 off, .int .i64 cnt, .slice ad len cd] V) := HV.out
    have vz0 : V.cell? ⟨G, 0, none⟩ = some (.int .i64 15) := hV.out.g.cell 0
    have vy0 : V.frozen? ⟨G, 0, none⟩ = false := hV.out.g.free 0
    have vz1 : V.cell? ⟨G, 1, none⟩ = some (.string ⟨#[]⟩) := hV.out.g.cell 1
    have vy1 : V.frozen? ⟨G, 1, none⟩ = false := hV.out.g.free 1
    have vz2 : V.cell? ⟨G, 2, none⟩ = some (.string ⟨#[]⟩) := hV.out.g.cell 2
    have vy2 : V.frozen? ⟨G, 2, none⟩ = false := hV.out.g.free 2
    have vz3 : V.cell? ⟨G, 3, none⟩ = some (.int .i64 0) := hV.out.g.cell 3
    have vy3 : V.frozen? ⟨G, 3, none⟩ = false := hV.out.g.free 3
    have vz4 : V.cell? ⟨G, 4, none⟩ = some (.int .i64 0) := hV.out.g.cell 4
    have vy4 : V.frozen? ⟨G, 4, none⟩ = false := hV.out.g.free 4
    have vz5 : V.cell? ⟨G, 5, none⟩ = some (.int .i64 0) := hV.out.g.cell 5
    have vy5 : V.frozen? ⟨G, 5, none⟩ = false := hV.out.g.free 5
    have vz6 : V.cell? ⟨G, 6, none⟩ = some (.int .i64 0) := hV.out.g.cell 6
    have vy6 : V.frozen? ⟨G, 6, none⟩ = false := hV.out.g.free 6
    have vz7 : V.cell? ⟨G, 7, none⟩ = some (.slice none 0 0) := hV.out.g.cell 7
    have vy7 : V.frozen? ⟨G, 7, none⟩ = false := hV.out.g.free 7
    have vp1 : V.cell? ⟨w.heap.size, 1, none⟩ = some (.int .i64 na) := hV.out.p.cell 1
    have vp2 : V.cell? ⟨w.heap.size, 2, none⟩ = some (.int .i64 oa) := hV.out.p.cell 2
    have vp3 : V.cell? ⟨w.heap.size, 3, none⟩ = some (.int .i64 off) := hV.out.p.cell 3
    have vp4 : V.cell? ⟨w.heap.size, 4, none⟩ = some (.int .i64 cnt) := hV.out.p.cell 4
    have vp5 : V.cell? ⟨w.heap.size, 5, none⟩ = some (.slice ad len cd) := hV.out.p.cell 5
    go_wp2_with (first
      | (refine wpList_load_box rfl 39 (.tmp 8) rfl G rfl 39 #[.int .i64 15, .string ⟨#[]⟩, .string ⟨#[]⟩, .int .i64 off, .int .i64 0, .int .i64 drive, .int .i64 0, .slice none 0 0] (LcK.g (LcK.set (LcK.set hV.out 5 (.int .i64 drive)) 3 (.int .i64 off))) _ Tryd.underlying39 rfl (by kernel_rfl) ?_)
      | (refine wpList_store_box rfl 39 (.tmp 6) (.tmp 82) rfl (w.heap.size + 1) #[.int .i64 15, .string ⟨#[]⟩, .string ⟨#[]⟩, .int .i64 off, .int .i64 0, .int .i64 drive, .int .i64 0, .slice none 0 0] rfl rfl 39 _ (LcK.r (LcK.set (LcK.set hV.out 5 (.int .i64 drive)) 3 (.int .i64 off))) (by kernel_rfl) rfl (by rfl) ?_; intro w8 hb8 hg8; have HB8 := Lib.hid hb8; have HG8 := Lib.hid hg8; clear hb8 hg8)
      | fail)
    refine bodyPost_ret (results_boxL Tryd.results11 _ _ (w.heap.size + 1) _ _ HB8.out _ rfl Tryd.underlying39 rfl (by kernel_rfl)) rfl ?_
    exact ⟨none, 0, 0, rfl, row_nilL _, LcK.finish (LcK.set (LcK.set hV.out 5 (.int .i64 drive)) 3 (.int .i64 off)) HG8.out⟩
  · have hkI : ((15 : Nat) : Int) + 1 = 16 := rfl
    rw [hkI] at HV ⊢
    have hV : Hid (LcK w G #[.int .i64 16, .string ⟨#[]⟩, .string ⟨#[]⟩, .int .i64 0, .int .i64 0, .int .i64 0, .int .i64 0, .slice none 0 0] w.heap.size #[.int .i64 kd, .int .i64 na, .int .i64 oa, .int .i64 off, .int .i64 cnt, .slice ad len cd] V) := HV.out
    have vz0 : V.cell? ⟨G, 0, none⟩ = some (.int .i64 16) := hV.out.g.cell 0
    have vy0 : V.frozen? ⟨G, 0, none⟩ = false := hV.out.g.free 0
    have vz1 : V.cell? ⟨G, 1, none⟩ = some (.string ⟨#[]⟩) := hV.out.g.cell 1
    have vy1 : V.frozen? ⟨G, 1, none⟩ = false := hV.out.g.free 1
    have vz2 : V.cell? ⟨G, 2, none⟩ = some (.string ⟨#[]⟩) := hV.out.g.cell 2
    have vy2 : V.frozen? ⟨G, 2, none⟩ = false := hV.out.g.free 2
    have vz3 : V.cell? ⟨G, 3, none⟩ = some (.int .i64 0) := hV.out.g.cell 3
    have vy3 : V.frozen? ⟨G, 3, none⟩ = false := hV.out.g.free 3
    have vz4 : V.cell? ⟨G, 4, none⟩ = some (.int .i64 0) := hV.out.g.cell 4
    have vy4 : V.frozen? ⟨G, 4, none⟩ = false := hV.out.g.free 4
    have vz5 : V.cell? ⟨G, 5, none⟩ = some (.int .i64 0) := hV.out.g.cell 5
    have vy5 : V.frozen? ⟨G, 5, none⟩ = false := hV.out.g.free 5
    have vz6 : V.cell? ⟨G, 6, none⟩ = some (.int .i64 0) := hV.out.g.cell 6
    have vy6 : V.frozen? ⟨G, 6, none⟩ = false := hV.out.g.free 6
    have vz7 : V.cell? ⟨G, 7, none⟩ = some (.slice none 0 0) := hV.out.g.cell 7
    have vy7 : V.frozen? ⟨G, 7, none⟩ = false := hV.out.g.free 7
    have vp1 : V.cell? ⟨w.heap.size, 1, none⟩ = some (.int .i64 na) := hV.out.p.cell 1
    have vp2 : V.cell? ⟨w.heap.size, 2, none⟩ = some (.int .i64 oa) := hV.out.p.cell 2
    have vp3 : V.cell? ⟨w.heap.size, 3, none⟩ = some (.int .i64 off) := hV.out.p.cell 3
    have vp4 : V.cell? ⟨w.heap.size, 4, none⟩ = some (.int .i64 cnt) := hV.out.p.cell 4
    have vp5 : V.cell? ⟨w.heap.size, 5, none⟩ = some (.slice ad len cd) := hV.out.p.cell 5
    go_wp2_with (first
      | (refine wpList_load_box rfl 39 (.tmp 8) rfl G rfl 39 #[.int .i64 16, .string ⟨#[]⟩, .string ⟨#[]⟩, .int .i64 0, .int .i64 0, .int .i64 drive, .int .i64 0, .slice none 0 0] (LcK.g (LcK.set hV.out 5 (.int .i64 drive))) _ Tryd.underlying39 rfl (by kernel_rfl) ?_)
      | (refine wpList_store_box rfl 39 (.tmp 6) (.tmp 82) rfl (w.heap.size + 1) #[.int .i64 16, .string ⟨#[]⟩, .string ⟨#[]⟩, .int .i64 0, .int .i64 0, .int .i64 drive, .int .i64 0, .slice none 0 0] rfl rfl 39 _ (LcK.r (LcK.set hV.out 5 (.int .i64 drive))) (by kernel_rfl) rfl (by rfl) ?_; intro w8 hb8 hg8; have HB8 := Lib.hid hb8; have HG8 := Lib.hid hg8; clear hb8 hg8)
      | fail)
    refine bodyPost_ret (results_boxL Tryd.results11 _ _ (w.heap.size + 1) _ _ HB8.out _ rfl Tryd.underlying39 rfl (by kernel_rfl)) rfl ?_
    exact ⟨none, 0, 0, rfl, row_nilL _, LcK.finish (LcK.set hV.out 5 (.int .i64 drive)) HG8.out⟩
  · have hkI : ((16 : Nat) : Int) + 1 = 17 := rfl
    rw [hkI] at HV ⊢
    have hV : Hid (LcK w G #[.int .i64 17, .string ⟨#[]⟩, .string ⟨#[]⟩, .int .i64 0, .int .i64 0, .int .i64 0, .int .i64 0, .slice none 0 0] w.heap.size #[.int .i64 kd, .int .i64 na, .int .i64 oa, .int .i64 off, .int .i64 cnt, .slice ad len cd] V) := HV.out
    have vz0 : V.cell? ⟨G, 0, none⟩ = some (.int .i64 17) := hV.out.g.cell 0
    have vy0 : V.frozen? ⟨G, 0, none⟩ = false := hV.out.g.free 0
    have vz1 : V.cell? ⟨G, 1, none⟩ = some (.string ⟨#[]⟩) := hV.out.g.cell 1
    have vy1 : V.frozen? ⟨G, 1, none⟩ = false := hV.out.g.free 1
    have vz2 : V.cell? ⟨G, 2, none⟩ = some (.string ⟨#[]⟩) := hV.out.g.cell 2
    have vy2 : V.frozen? ⟨G, 2, none⟩ = false := hV.out.g.free 2
    have vz3 : V.cell? ⟨G, 3, none⟩ = some (.int .i64 0) := hV.out.g.cell 3
    have vy3 : V.frozen? ⟨G, 3, none⟩ = false := hV.out.g.free 3
    have vz4 : V.cell? ⟨G, 4, none⟩ = some (.int .i64 0) := hV.out.g.cell 4
    have vy4 : V.frozen? ⟨G, 4, none⟩ = false := hV.out.g.free 4
    have vz5 : V.cell? ⟨G, 5, none⟩ = some (.int .i64 0) := hV.out.g.cell 5
    have vy5 : V.frozen? ⟨G, 5, none⟩ = false := hV.out.g.free 5
    have vz6 : V.cell? ⟨G, 6, none⟩ = some (.int .i64 0) := hV.out.g.cell 6
    have vy6 : V.frozen? ⟨G, 6, none⟩ = false := hV.out.g.free 6
    have vz7 : V.cell? ⟨G, 7, none⟩ = some (.slice none 0 0) := hV.out.g.cell 7
    have vy7 : V.frozen? ⟨G, 7, none⟩ = false := hV.out.g.free 7
    have vp1 : V.cell? ⟨w.heap.size, 1, none⟩ = some (.int .i64 na) := hV.out.p.cell 1
    have vp2 : V.cell? ⟨w.heap.size, 2, none⟩ = some (.int .i64 oa) := hV.out.p.cell 2
    have vp3 : V.cell? ⟨w.heap.size, 3, none⟩ = some (.int .i64 off) := hV.out.p.cell 3
    have vp4 : V.cell? ⟨w.heap.size, 4, none⟩ = some (.int .i64 cnt) := hV.out.p.cell 4
    have vp5 : V.cell? ⟨w.heap.size, 5, none⟩ = some (.slice ad len cd) := hV.out.p.cell 5
    go_wp2_with (first
      | (refine wpList_load_box rfl 39 (.tmp 8) rfl G rfl 39 #[.int .i64 17, .string ⟨#[]⟩, .string ⟨#[]⟩, .int .i64 0, .int .i64 0, .int .i64 drive, .int .i64 0, .slice none 0 0] (LcK.g (LcK.set hV.out 5 (.int .i64 drive))) _ Tryd.underlying39 rfl (by kernel_rfl) ?_)
      | (refine wpList_store_box rfl 39 (.tmp 6) (.tmp 82) rfl (w.heap.size + 1) #[.int .i64 17, .string ⟨#[]⟩, .string ⟨#[]⟩, .int .i64 0, .int .i64 0, .int .i64 drive, .int .i64 0, .slice none 0 0] rfl rfl 39 _ (LcK.r (LcK.set hV.out 5 (.int .i64 drive))) (by kernel_rfl) rfl (by rfl) ?_; intro w8 hb8 hg8; have HB8 := Lib.hid hb8; have HG8 := Lib.hid hg8; clear hb8 hg8)
      | fail)
    refine bodyPost_ret (results_boxL Tryd.results11 _ _ (w.heap.size + 1) _ _ HB8.out _ rfl Tryd.underlying39 rfl (by kernel_rfl)) rfl ?_
    exact ⟨none, 0, 0, rfl, row_nilL _, LcK.finish (LcK.set hV.out 5 (.int .i64 drive)) HG8.out⟩
  · have hkI : ((17 : Nat) : Int) + 1 = 18 := rfl
    rw [hkI] at HV ⊢
    have hV : Hid (LcK w G #[.int .i64 18, .string ⟨#[]⟩, .string ⟨#[]⟩, .int .i64 0, .int .i64 0, .int .i64 0, .int .i64 0, .slice none 0 0] w.heap.size #[.int .i64 kd, .int .i64 na, .int .i64 oa, .int .i64 off, .int .i64 cnt, .slice ad len cd] V) := HV.out
    have vz0 : V.cell? ⟨G, 0, none⟩ = some (.int .i64 18) := hV.out.g.cell 0
    have vy0 : V.frozen? ⟨G, 0, none⟩ = false := hV.out.g.free 0
    have vz1 : V.cell? ⟨G, 1, none⟩ = some (.string ⟨#[]⟩) := hV.out.g.cell 1
    have vy1 : V.frozen? ⟨G, 1, none⟩ = false := hV.out.g.free 1
    have vz2 : V.cell? ⟨G, 2, none⟩ = some (.string ⟨#[]⟩) := hV.out.g.cell 2
    have vy2 : V.frozen? ⟨G, 2, none⟩ = false := hV.out.g.free 2
    have vz3 : V.cell? ⟨G, 3, none⟩ = some (.int .i64 0) := hV.out.g.cell 3
    have vy3 : V.frozen? ⟨G, 3, none⟩ = false := hV.out.g.free 3
    have vz4 : V.cell? ⟨G, 4, none⟩ = some (.int .i64 0) := hV.out.g.cell 4
    have vy4 : V.frozen? ⟨G, 4, none⟩ = false := hV.out.g.free 4
    have vz5 : V.cell? ⟨G, 5, none⟩ = some (.int .i64 0) := hV.out.g.cell 5
    have vy5 : V.frozen? ⟨G, 5, none⟩ = false := hV.out.g.free 5
    have vz6 : V.cell? ⟨G, 6, none⟩ = some (.int .i64 0) := hV.out.g.cell 6
    have vy6 : V.frozen? ⟨G, 6, none⟩ = false := hV.out.g.free 6
    have vz7 : V.cell? ⟨G, 7, none⟩ = some (.slice none 0 0) := hV.out.g.cell 7
    have vy7 : V.frozen? ⟨G, 7, none⟩ = false := hV.out.g.free 7
    have vp1 : V.cell? ⟨w.heap.size, 1, none⟩ = some (.int .i64 na) := hV.out.p.cell 1
    have vp2 : V.cell? ⟨w.heap.size, 2, none⟩ = some (.int .i64 oa) := hV.out.p.cell 2
    have vp3 : V.cell? ⟨w.heap.size, 3, none⟩ = some (.int .i64 off) := hV.out.p.cell 3
    have vp4 : V.cell? ⟨w.heap.size, 4, none⟩ = some (.int .i64 cnt) := hV.out.p.cell 4
    have vp5 : V.cell? ⟨w.heap.size, 5, none⟩ = some (.slice ad len cd) := hV.out.p.cell 5
    go_wp2_with (first
      | (refine wpList_load_box rfl 39 (.tmp 8) rfl G rfl 39 #[.int .i64 18, .string ⟨#[]⟩, .string ⟨#[]⟩, .int .i64 0, .int .i64 0, .int .i64 0, .int .i64 0, .slice none 0 0] (LcK.g hV.out) _ Tryd.underlying39 rfl (by kernel_rfl) ?_)
      | (refine wpList_store_box rfl 39 (.tmp 6) (.tmp 82) rfl (w.heap.size + 1) #[.int .i64 18, .string ⟨#[]⟩, .string ⟨#[]⟩, .int .i64 0, .int .i64 0, .int .i64 0, .int .i64 0, .slice none 0 0] rfl rfl 39 _ (LcK.r hV.out) (by kernel_rfl) rfl (by rfl) ?_; intro w8 hb8 hg8; have HB8 := Lib.hid hb8; have HG8 := Lib.hid hg8; clear hb8 hg8)
      | fail)
    refine bodyPost_ret (results_boxL Tryd.results11 _ _ (w.heap.size + 1) _ _ HB8.out _ rfl Tryd.underlying39 rfl (by kernel_rfl)) rfl ?_
    exact ⟨none, 0, 0, rfl, row_nilL _, LcK.finish hV.out HG8.out⟩
  · have hkI : ((18 : Nat) : Int) + 1 = 19 := rfl
    rw [hkI] at HV ⊢
    have hV : Hid (LcK w G #[.int .i64 19, .string ⟨#[]⟩, .string ⟨#[]⟩, .int .i64 0, .int .i64 0, .int .i64 0, .int .i64 0, .slice none 0 0] w.heap.size #[.int .i64 kd, .int .i64 na, .int .i64 oa, .int .i64 off, .int .i64 cnt, .slice ad len cd] V) := HV.out
    have vz0 : V.cell? ⟨G, 0, none⟩ = some (.int .i64 19) := hV.out.g.cell 0
    have vy0 : V.frozen? ⟨G, 0, none⟩ = false := hV.out.g.free 0
    have vz1 : V.cell? ⟨G, 1, none⟩ = some (.string ⟨#[]⟩) := hV.out.g.cell 1
    have vy1 : V.frozen? ⟨G, 1, none⟩ = false := hV.out.g.free 1
    have vz2 : V.cell? ⟨G, 2, none⟩ = some (.string ⟨#[]⟩) := hV.out.g.cell 2
    have vy2 : V.frozen? ⟨G, 2, none⟩ = false := hV.out.g.free 2
    have vz3 : V.cell? ⟨G, 3, none⟩ = some (.int .i64 0) := hV.out.g.cell 3
    have vy3 : V.frozen? ⟨G, 3, none⟩ = false := hV.out.g.free 3
    have vz4 : V.cell? ⟨G, 4, none⟩ = some (.int .i64 0) := hV.out.g.cell 4
    have vy4 : V.frozen? ⟨G, 4, none⟩ = false := hV.out.g.free 4
    have vz5 : V.cell? ⟨G, 5, none⟩ = some (.int .i64 0) := hV.out.g.cell 5
    have vy5 : V.frozen? ⟨G, 5, none⟩ = false := hV.out.g.free 5
    have vz6 : V.cell? ⟨G, 6, none⟩ = some (.int .i64 0) := hV.out.g.cell 6
    have vy6 : V.frozen? ⟨G, 6, none⟩ = false := hV.out.g.free 6
    have vz7 : V.cell? ⟨G, 7, none⟩ = some (.slice none 0 0) := hV.out.g.cell 7
    have vy7 : V.frozen? ⟨G, 7, none⟩ = false := hV.out.g.free 7
    have vp1 : V.cell? ⟨w.heap.size, 1, none⟩ = some (.int .i64 na) := hV.out.p.cell 1
    have vp2 : V.cell? ⟨w.heap.size, 2, none⟩ = some (.int .i64 oa) := hV.out.p.cell 2
    have vp3 : V.cell? ⟨w.heap.size, 3, none⟩ = some (.int .i64 off) := hV.out.p.cell 3
    have vp4 : V.cell? ⟨w.heap.size, 4, none⟩ = some (.int .i64 cnt) := hV.out.p.cell 4
    have vp5 : V.cell? ⟨w.heap.size, 5, none⟩ = some (.slice ad len cd) := hV.out.p.cell 5
    go_wp2_with (first
      | (refine wpList_load_box rfl 39 (.tmp 8) rfl G rfl 39 #[.int .i64 19, .string ⟨#[]⟩, .string ⟨#[]⟩, .int .i64 0, .int .i64 cnt, .int .i64 0, .int .i64 keep, .slice none 0 0] (LcK.g (LcK.set (LcK.set hV.out 6 (.int .i64 keep)) 4 (.int .i64 cnt))) _ Tryd.underlying39 rfl (by kernel_rfl) ?_)
      | (refine wpList_store_box rfl 39 (.tmp 6) (.tmp 82) rfl (w.heap.size + 1) #[.int .i64 19, .string ⟨#[]⟩, .string ⟨#[]⟩, .int .i64 0, .int .i64 cnt, .int .i64 0, .int .i64 keep, .slice none 0 0] rfl rfl 39 _ (LcK.r (LcK.set (LcK.set hV.out 6 (.int .i64 keep)) 4 (.int .i64 cnt))) (by kernel_rfl) rfl (by rfl) ?_; intro w8 hb8 hg8; have HB8 := Lib.hid hb8; have HG8 := Lib.hid hg8; clear hb8 hg8)
      | fail)
    refine bodyPost_ret (results_boxL Tryd.results11 _ _ (w.heap.size + 1) _ _ HB8.out _ rfl Tryd.underlying39 rfl (by kernel_rfl)) rfl ?_
    exact ⟨none, 0, 0, rfl, row_nilL _, LcK.finish (LcK.set (LcK.set hV.out 6 (.int .i64 keep)) 4 (.int .i64 cnt)) HG8.out⟩
end Go.Proofs.YtdonmdiebibabaaDoor
