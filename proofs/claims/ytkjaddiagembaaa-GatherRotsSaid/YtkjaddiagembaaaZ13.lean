/- Texts that belong together: RbH. -/
import Derived.Deep.RegionLaw
import Derived.Deep.DeepCutAuto
import Derived.Test.YtkjaddiagembaaaZ12
/- Package par: rebuilt walked. -/
namespace Go.Proofs.Ytkjaddiagembaaa
open Go.RowKit
set_option linter.unusedVariables false
set_option maxRecDepth 100000

def holesN (gone : List Bool) (n : Nat) : Nat → List Nat
  | 0 => []
  | k + 1 => if gone.getD k false = true ∧ k < n then holesN gone n k ++ [k] else holesN gone n k
def usedN (gone : List Bool) (n K : Nat) : Nat → List Nat
  | 0 => []
  | t + 1 => if (usedN gone n K t).length < K ∧ gone.getD (n + t) false = false then usedN gone n K t ++ [t] else usedN gone n K t
def l0 (T : List (List Int)) (gone : List Bool) (n size k : Nat) : List Int := if gone.getD k false = true then (if k < n then List.replicate size 0 else []) else T.getD k []
def startL (T : List (List Int)) (gone : List Bool) (n size N m : Nat) : List (List Int) := (List.range N).map fun i => if i < m then l0 T gone n size i else []
def endN (gone : List Bool) (n size : Nat) (L : List (List Int)) : Nat → List (List Int)
  | 0 => L
  | t + 1 => if gone.getD (n + t) false = true then (endN gone n size L t).set (n + t) (encN ((endN gone n size L t).take n) size t n) else endN gone n size L t
theorem holesN_len (gone : List Bool) (n : Nat) : ∀ k, (holesN gone n k).length ≤ k
  | 0 => Nat.le_refl _
  | k + 1 => by
    have := holesN_len gone n k
    unfold holesN
    split
    · rw [List.length_append]; simp; omega
    · omega
theorem holesN_mem (gone : List Bool) (n : Nat) : ∀ k x, x ∈ holesN gone n k → x < k ∧ x < n ∧ gone.getD x false = true
  | 0, x, h => by cases h
  | k + 1, x, h => by
    unfold holesN at h
    split at h
    · rename_i hc
      rcases List.mem_append.1 h with h | h
      · have := holesN_mem gone n k x h; exact ⟨by omega, this.2⟩
      · rw [List.mem_singleton.1 h]; exact ⟨by omega, hc.2, hc.1⟩
    · have := holesN_mem gone n k x h; exact ⟨by omega, this.2⟩
theorem usedN_len (gone : List Bool) (n K : Nat) : ∀ t, (usedN gone n K t).length ≤ t
  | 0 => Nat.le_refl _
  | t + 1 => by
    have := usedN_len gone n K t
    unfold usedN
    split
    · rw [List.length_append]; simp; omega
    · omega
theorem usedN_le (gone : List Bool) (n K : Nat) : ∀ t, (usedN gone n K t).length ≤ K
  | 0 => Nat.zero_le _
  | t + 1 => by
    have := usedN_le gone n K t
    unfold usedN
    split
    · rename_i h; rw [List.length_append]; simp; omega
    · exact this
theorem usedN_done (gone : List Bool) (n K t : Nat) (h : ¬ (usedN gone n K t).length < K) : ∀ m, usedN gone n K (t + m) = usedN gone n K t
  | 0 => rfl
  | m + 1 => by
    show usedN gone n K (t + m + 1) = _
    conv => lhs; unfold usedN
    rw [usedN_done gone n K t h m, if_neg (fun hc => h hc.1)]
theorem usedN_mem (gone : List Bool) (n K : Nat) : ∀ t x, x ∈ usedN gone n K t → x < t ∧ gone.getD (n + x) false = false
  | 0, x, h => by cases h
  | t + 1, x, h => by
    unfold usedN at h
    split at h
    · rename_i hc
      rcases List.mem_append.1 h with h | h
      · have := usedN_mem gone n K t x h; exact ⟨by omega, this.2⟩
      · rw [List.mem_singleton.1 h]; exact ⟨by omega, hc.2⟩
    · have := usedN_mem gone n K t x h; exact ⟨by omega, this.2⟩
theorem startL_get (T : List (List Int)) (gone : List Bool) (n size N m i : Nat) (hi : i < N) : (startL T gone n size N m).getD i [] = if i < m then l0 T gone n size i else [] := by
  simp [startL, List.getD, hi]
theorem startL_zero (T : List (List Int)) (gone : List Bool) (n size N : Nat) : startL T gone n size N 0 = List.replicate N [] := by
  simp [startL, List.map_const']
theorem startL_succ (T : List (List Int)) (gone : List Bool) (n size N m : Nat) (hm : m < N) : startL T gone n size N (m + 1) = (startL T gone n size N m).set m (l0 T gone n size m) := by
  apply List.ext_getElem (by simp [startL])
  intro i h1 h2
  rw [List.getElem_set]
  simp only [startL, List.getElem_map, List.getElem_range]
  by_cases e : m = i
  · subst e; rw [if_pos rfl, if_pos (by omega)]
  · rw [if_neg e]
    by_cases h : i < m
    · rw [if_pos h, if_pos (by omega)]
    · rw [if_neg h, if_neg (by omega)]
theorem startL_skip (T : List (List Int)) (gone : List Bool) (n size N m : Nat) (hm : m < N) (h : l0 T gone n size m = []) : startL T gone n size N (m + 1) = startL T gone n size N m := by
  rw [startL_succ _ _ _ _ _ _ hm, h]
  have := set_self (startL T gone n size N m) m
  rw [startL_get _ _ _ _ _ _ _ hm, if_neg (by omega)] at this
  exact this
theorem Outs.keeps {w w' : World} {B g n : Nat} {vs : List Value} {L : List (List Int)} (h : Outs w B g n vs L) {ts : List TypeId} (hk : Keeps ts w w') (h1 : 22 ∈ ts) (h2 : 5 ∈ ts) : Outs w' B g n vs L :=
  ⟨h.out.keeps hk h1, h.len, fun i hi => by obtain ⟨a, c, e1, e2, e3⟩ := h.row i hi; exact ⟨a, c, e1, e2.keeps hk h2, e3⟩, h.ne⟩
theorem Outs.old {w : World} {B g n : Nat} {vs : List Value} {L : List (List Int)} (h : Outs w B g n vs L) : ∀ (j : Nat) (v : Value) (k : Nat), vs[j]? = some v → v.ownBlock = some k → k < w.heap.size := fun j v k hv hk => (h.rows k ⟨j, v, hv, hk⟩).2
theorem endN_take (gone : List Bool) (n size : Nat) (L : List (List Int)) : ∀ t, (endN gone n size L t).take n = L.take n
  | 0 => rfl
  | t + 1 => by
    unfold endN
    split
    · rw [← endN_take gone n size L t]
      apply List.ext_getElem?
      intro i
      rw [List.getElem?_take, List.getElem?_take]
      split
      · rw [List.getElem?_set_ne (by omega)]
      · rfl
    · exact endN_take gone n size L t
/-- A hole's row. -/
def HoleRows (gone : List Bool) (n size k : Nat) (vs : List Value) : Prop := ∀ i, i < k → i < n → gone.getD i false = true → ∃ b c, vs[i]? = some (.slice (some ⟨b, 0, none⟩) size c)
theorem own_made {w : World} {MC : Array Value} {size : Nat} (h : MC.toList = (List.replicate size (0 : Int)).map (.int .u8)) (hs : size ≤ 4096) : Own (w.alloc (.cells MC 5)) w.heap.size 5 1 (some ⟨w.heap.size, 0, none⟩) size size ((List.replicate size (0 : Int)).map (.int .u8)) := by
  have hl : MC.size = size := by have := congrArg List.length h; simpa using this
  refine ⟨by simp, .inr ⟨w.heap.size, size, MC, rfl, Nat.le_refl _, heap_alloc_new w _, Nat.le_refl _, by unfold maxLen; omega, by omega, ?_⟩⟩
  rw [h, List.take_of_length_le (by simp)]
theorem leftN_not (D : List (List Int)) (hs : List Bool) : ∀ n, ∀ x ∈ leftN D hs n, ∃ i, i < n ∧ hs.getD i false = false ∧ x = D.getD i []
  | 0, x, h => by cases h
  | n + 1, x, h => by
    unfold leftN at h
    split at h
    · obtain ⟨i, h1, h2⟩ := leftN_not D hs n x h; exact ⟨i, by omega, h2⟩
    · rename_i hc
      rcases List.mem_append.1 h with h | h
      · obtain ⟨i, h1, h2⟩ := leftN_not D hs n x h; exact ⟨i, by omega, h2⟩
      · exact ⟨n, by omega, by simpa using hc, List.mem_singleton.1 h⟩
theorem SOwn.intKeeps {w w' : World} {base : Nat} {a : Option Addr} {len cap : Nat} {xs : List Int} (h : SOwn (Lay.int .i64) w base 3 (fun _ => False) a len cap xs) {ts : List TypeId} (hk : Keeps ts w w') (h1 : 3 ∈ ts) : SOwn (Lay.int .i64) w' base 3 (fun _ => False) a len cap xs := by
  obtain ⟨hl, vss, F, ho, hp, hF⟩ := h
  exact ⟨hl, vss, F, ho.keeps hk h1, hp.keep (fun _ hb => hb) (fun b hb _ => (hF b hb).1.elim), fun b hb => (hF b hb).1.elim⟩
theorem hold_row {w : World} {R : Nat → Prop} {B : Nat} {a : Option Addr} {len cap : Nat} {xs : List Int} (h : SOwn (Lay.int .i64) w B 3 (fun _ => False) a len cap xs) (hR : ∀ q, (Value.slice a len cap).ownBlock = some q → ¬ R q) : ∀ w', Fr R w w' → Row .i64 w' a len cap xs := by
  intro w' hf
  have hr := h.ints
  refine (hr.toV.keep (w' := w') fun b o e _ hlt => hf.block b hlt (hR b (by rw [e]; rfl))).toRow hr.hwf
theorem byt_of2 {w : World} {a : Option Addr} {len cap : Nat} {xs : List Int} (h : Row .u8 w a len cap xs) : Byt xs := fun x hx => byte_range (h.hwf x hx)
theorem int_keeps {X w5 : World} {B : Nat} {a : Option Addr} {len cap : Nat} {xs : List Int} (h : SOwn (Lay.int .i64) X B 3 (fun _ => False) a len cap xs) (hg : X.grownBy w5 (Value.slice a len cap).ownBlock) : Keeps [22, 5] X w5 :=
  Keeps.grown hg (fun q hq t ht hk => by
    have := (h.kind q hq).ne hk
    rw [← this] at ht; exact absurd ht (by decide))
theorem g_kept {X w5 : World} {B g N k : Nat} {vs : List Value} {L : List (List Int)} {u : Value} (O : Outs X B g N vs L) (hk : Keeps [22, 5] X w5) (e : X.cell? ⟨g, k, none⟩ = some u) : w5.cell? ⟨g, k, none⟩ = some u ∧ w5.frozen? ⟨g, k, none⟩ = false ∧ g < w5.heap.size := by
  have hb := hk.2 _ (by decide) g (Own.kind O.out g rfl)
  have hl := (World.ownsRow.lt O.out g rfl).2
  exact ⟨(World.cell?_of_block (a := ⟨g, k, none⟩) hb).trans e, (World.frozen?_of_block (a := ⟨g, k, none⟩) hb).trans (World.ownsRow.frozenAt O.out _), by have := hk.1; omega⟩
def HoleCut (T : List (List Int)) (gone : List Bool) (w : World) (B g N n size k lh : Nat) (vs : List Value) (v : Value) (wx : World) : Prop :=
  ∃ a5 c5 gz, v = .slice a5 (lh + 1) c5 ∧ Hid (SOwn (Lay.int .i64) wx B 3 (fun _ => False) a5 (lh + 1) c5 (nats (holesN gone n (k + 1)))) ∧ Hid (Outs wx B g N (vs.set k (.slice (some ⟨gz, 0, none⟩) size size)) (startL T gone n size N (k + 1))) ∧ Hid (Below B w wx)
theorem hole_fin {T : List (List Int)} {gone : List Bool} {X w : World} {B g N n k size lh c5 gz : Nat} {a5 : Option Addr} {vs : List Value} (OX : Outs X B g N vs (startL T gone n size N k)) (ZX : Own X B 5 1 (some ⟨gz, 0, none⟩) size size ((List.replicate size (0 : Int)).map (.int .u8)))
    (hz : ∀ (j : Nat) (v : Value) (q : Nat), vs[j]? = some v → v.ownBlock = some q → q ≠ gz) (HX : SOwn (Lay.int .i64) X B 3 (fun _ => False) a5 (lh + 1) c5 (nats (holesN gone n (k + 1)))) (LX : Below B w X) (hlt : k < N) (hl0 : l0 T gone n size k = List.replicate size 0) :
    HoleCut T gone w B g N n size k lh vs (.slice a5 (lh + 1) c5) (X.setCell ⟨g, k, none⟩ (.slice (some ⟨gz, 0, none⟩) size size)) := by
  have hgB := (World.ownsRow.lt OX.out g rfl).1
  refine ⟨a5, c5, gz, rfl, HX.intKeeps (ts := [3]) (Keeps.set _ (fun t ht hk2 => ?_)) (by decide), ?_, LX.setCell (p := ⟨g, k, none⟩) hgB _⟩
  · have := (Own.kind OX.out g rfl).ne hk2
    rw [← this] at ht; exact absurd ht (by decide)
  · show Outs _ B g N _ _
    rw [startL_succ _ _ _ _ _ _ hlt, hl0]
    exact OX.put k hlt (by simp) ZX (fun x hx => by rw [(List.mem_replicate.1 hx).2]; decide) (fun j v q hj hq e => hz j v q hj hq (by injection e with e; exact e.symm))
def Rebuilt (N : Nat) (R : List (List Int)) (w : World) (e : Ending) (w' : World) : Prop := ∃ a c, e = .returned (.slice a N c) ∧ Hid (SRow (Lay.int .u8).slice w' (fun _ => True) a N c R) ∧ Hid (Below w.heap.size w w')
set_option maxHeartbeats 16000000 in
theorem rebuiltW (a : Option Addr) (N cap : Nat) (T : List (List Int)) (n size gg : Nat) (gone : List Bool) (K : Nat) (w : World) {F : Nat → Prop} (hT : SRow (Lay.int .u8).slice w F a N cap T) (hb : Box w gg (gone.map Value.bool).toArray 4) (hgl : gone.length = N)
    (hn : 1 ≤ n ∧ n ≤ 12 ∧ n ≤ N ∧ N ≤ n + 3) (hsz : size ≤ 4096) (hlen : ∀ i, i < N → gone.getD i false = false → (T.getD i []).length = size) (hex : ∃ i, i < N ∧ gone.getD i false = false)
    (hK : (holesN gone n N).length = K) (hU : (usedN gone n K (N - n)).length = K) (hK3 : K ≤ 3) (hfull : 1 ≤ K → (redN (facM (holesN gone n N) (usedN gone n K (N - n))) K).2 = K) :
    Calls Try.prog 44 #[.slice a N cap, .int .i64 n, .slice (some ⟨gg, 0, none⟩) N N] w (Rebuilt N (endN gone n size (filled (startL T gone n size N N) n size K (holesN gone n N) (usedN gone n K (N - n))) (N - n)) w) := by
  obtain ⟨n1, n2, n3, n4⟩ := hn
  have hTl := hT.1
  have t1 := hT.hle
  have t2 := hT.hmax
  unfold maxLen at t2
  have HT := Lib.hid hT
  have HB := Lib.hid hb
  have HG := Lib.hid hgl
  have HLEN : Hid (∀ i, i < N → gone.getD i false = false → (T.getD i []).length = size) := hlen
  have HK := Lib.hid hK
  have HU := Lib.hid hU
  have HFULL : Hid (1 ≤ K → (redN (facM (holesN gone n N) (usedN gone n K (N - n))) K).2 = K) := hfull
  have hlpos : 1 ≤ (leftN T gone N).length := by obtain ⟨i, hi, hg⟩ := hex; exact leftN_pos T gone N i hi hg
  have hl0 : Hid (((leftN T gone N).getD 0 []).length = size) := by
    have hm : (leftN T gone N).getD 0 [] ∈ leftN T gone N := by
      rw [show (leftN T gone N).getD 0 [] = (leftN T gone N)[0]'(by omega) by simp [List.getD, List.getElem?_eq_getElem (show 0 < (leftN T gone N).length by omega)]]
      exact List.getElem_mem _
    obtain ⟨i, hi, hg, e⟩ := leftN_not T gone N _ hm
    show _ = _
    rw [e]; exact hlen i hi hg
  obtain ⟨B, hB⟩ : ∃ B, Hid (w.heap.size = B) := ⟨_, rfl⟩
  clear hT hb hgl hlen hK hU hfull hex
  obtain ⟨MC, hMC, hmk⟩ : ∃ MC : Array Value, MC.toList = (List.replicate size (0 : Int)).map (.int .u8) ∧ ∀ w : World, (Instr.makeSlice 22 (.int .i64 size) (.int .i64 size)).run Try.prog w = .ok (.slice (some ⟨w.heap.size, 0, none⟩) size size) (w.alloc (.cells MC 5)) := by
    obtain ⟨i, hi0, hz, hsize, hby⟩ := info_parts info_byte
    refine ⟨madeCells (Value.int .u8 0).cells (size * 1), by rw [show (Value.int .u8 0).cells = #[Value.int .u8 0] from rfl, Nat.mul_one, toList_madeCells_one]; simp, fun w => ?_⟩
    have := run_make (P := Try.prog) w 22 5 i (.int .u8 0) Try.underlying22 hi0 hz .i64 .i64 size size (by omega) (by omega) (by rw [hby]; omega) (by omega)
    rw [hsize] at this
    simpa using this
  have HMC := Lib.hid hMC
  clear hMC
  go_enter Try.func44, Try.ntmps44
  go_wp2_with fail
  refine (leftW a N cap T gg gone w HT.out HB.out HG.out (by omega)).mono ?_
  rintro e w1 ⟨a1, l1, c1, rfl, hX, hb1⟩
  obtain ⟨bl, ol, aL, lL, cL, rfl, _, e0, r0⟩ := nest_get hX.out 0 (by have := hX.out.1; omega)
  obtain rfl : size = lL := by rw [← r0.hlen]; exact hl0.out.symm
  rw [Nat.add_zero] at e0
  have l1p : (0 : Int) < (l1 : Int) := by have := hX.out.1; omega
  have l1n : 0 < l1 := by omega
  have L1 : Hid (Below B w w1) := by rw [← hB.out]; exact hb1.out
  have hB1 : B ≤ w1.heap.size := by have := L1.out.size; have := hB.out; omega
  clear hb1 r0 hX
  go_wp2_with (refine wpList_make_zeros rfl _ _ 46 rfl 22 _ 24 Try.underlying46 info_bytes rfl _ _ _ _ N rfl rfl rfl rfl (by omega) (by unfold maxLen; omega) ?_)
  intro w2 ho2 hb2
  obtain ⟨g, hg⟩ : ∃ g, w1.heap.size = g := ⟨_, rfl⟩
  have ho2' : Own w2 B 22 1 (some ⟨w1.heap.size, 0, none⟩) N N (List.replicate N (.slice none 0 0)) := ho2.mono hB1
  rw [hg] at ho2' ⊢
  have O2 := Lib.hid (Outs.start ho2')
  rw [← startL_zero T gone n size N] at O2
  have L2 : Hid (Below B w w2) := L1.out.trans (hb2.mono hB1)
  clear ho2 ho2' hb2 L1 hg e0
  go_wp2_with fail
  go_loopw [9, 26] (fun hv iv wr => ∃ (k lh : Nat) (ah : Option Addr) (ch : Nat) (vs : List Value), k ≤ N ∧ lh ≤ k ∧ iv = .int .i64 k ∧ hv = .slice ah lh ch ∧ Hid (SOwn (Lay.int .i64) wr B 3 (fun _ => False) ah lh ch (nats (holesN gone n k))) ∧ Hid (Outs wr B g N vs (startL T gone n size N k)) ∧ Hid (HoleRows gone n size k vs) ∧ Hid (Below B w wr)) (fun _ iv _ => N - (intOf iv).toNat)
  case atStart => exact ⟨0, 0, none, 0, _, by omega, by omega, rfl, rfl, SOwn.nil .., O2, fun i hi => absurd hi (by omega), L2⟩
  case round =>
    obtain ⟨k, lh, ah, ch, vs, hk, hlh, rfl, rfl, hH, hO, hHR, hL⟩ := hrel
    have hBr : B ≤ wr.heap.size := by have := hL.out.size; have := hB.out; omega
    have hLw : Below w.heap.size w wr := by rw [hB.out]; exact hL.out
    by_cases hlt : k < N
    · have i1 : (k : Int) < (N : Int) := by omega
      obtain ⟨bt, ot, at', lt', ct', rfl, _, eT, rT⟩ := nest_get (HT.out.below hLw) k hlt
      have RT := Lib.hid rT
      have BX := HB.out.below hLw HB.out.lt
      have eG : wr.cell? ⟨gg, k, none⟩ = some (.bool (gone.getD k false)) := by
        rw [BX.cell k]
        have := HG.out
        simp [List.getD, this, hlt]
      have hnx := startL_succ T gone n size N k hlt
      clear rT BX hLw
      cases hv : gone.getD k false with
      | false =>
        rw [hv] at eG
        have hl0k : l0 T gone n size k = T.getD k [] := by unfold l0; rw [hv]; rfl
        have hH0 : holesN gone n (k + 1) = holesN gone n k := by conv => { lhs; unfold holesN }; rw [hv]; rfl
        rw [hl0k] at hnx
        have hlt' : lt' = size := by rw [← RT.out.hlen]; exact HLEN.out k hlt hv
        subst hlt'
        have HNX := Lib.hid hnx
        have HH0 := Lib.hid hH0
        have HV := Lib.hid hv
        clear hv hnx hH0 hl0k
        go_wp2_with fail
        refine (cloneB at' lt' ct' _ wr RT.out (by omega)).mono ?_
        rintro e w3 ⟨a3, c3, rfl, ho3, hb3⟩
        have O3 := hO.out.below hb3.out
        obtain ⟨u, e3⟩ : ∃ u, w3.cell? ⟨g, k, none⟩ = some u := by
          obtain ⟨_, _, _, q, _⟩ := O3.get k hlt; exact ⟨_, q⟩
        have f3 : w3.frozen? ⟨g, k, none⟩ = false := World.ownsRow.frozenAt O3.out _
        have hgB := (World.ownsRow.lt O3.out g rfl).1
        have P3 := Lib.hid (O3.put k hlt RT.out.hlen (ho3.out.mono hBr) (byt_of2 RT.out) (fun j v q hj hq e => by
          have h1 := hO.out.old j v q hj hq
          have h2 := (World.ownsRow.lt ho3.out q e).1
          omega))
        rw [← HNX.out] at P3
        have K3' : Keeps [3] w3 (w3.setCell ⟨g, k, none⟩ (.slice a3 lt' c3)) := Keeps.set _ (fun t ht hk2 => by
          have := (Own.kind O3.out g rfl).ne hk2
          rw [← this] at ht; exact absurd ht (by decide))
        have H3 := Lib.hid ((hH.out.below hb3.out).intKeeps K3' (by decide))
        rw [← HH0.out] at H3
        have L3 := Lib.hid ((hL.out.trans (hb3.out.mono hBr)).setCell (p := ⟨g, k, none⟩) hgB (.slice a3 lt' c3))
        have HR3 : Hid (HoleRows gone n lt' (k + 1) (vs.set k (.slice a3 lt' c3))) := fun i hi hin hgi => by
          have hne : k ≠ i := fun e => by subst e; rw [HV.out] at hgi; cases hgi
          rw [List.getElem?_set_ne hne]
          exact hHR.out i (by omega) hin hgi
        clear O3 ho3 hb3 K3' hO hH hHR hL RT
        go_wp2_with fail
        go_roundw
        case rel => exact ⟨k + 1, lh, ah, ch, _, by omega, by omega, by go_num, rfl, H3, P3, HR3, L3⟩
        case measure => simp [intOf]; omega
      | true =>
        rw [hv] at eG
        by_cases hkn : k < n
        · have kn : (k : Int) < (n : Int) := by omega
          have hl0k : Hid (l0 T gone n size k = List.replicate size 0) := by show l0 T gone n size k = _; unfold l0; rw [if_pos hv, if_pos hkn]
          have hH1 : Hid (nats (holesN gone n (k + 1)) = nats (holesN gone n k) ++ [(k : Int)]) := by
            show _ = _
            conv => { lhs; unfold holesN }
            rw [if_pos ⟨hv, hkn⟩]; simp [nats]
          obtain ⟨WD, hWD⟩ : ∃ W, W = wr.drew := ⟨_, rfl⟩
          have bD : Below wr.heap.size wr WD := by rw [hWD]; exact below_drewN (Below.refl _ _) 1
          have OD := Lib.hid (hO.out.below bD)
          have HD := Lib.hid (hH.out.below bD)
          have LD := Lib.hid (hL.out.trans (bD.mono hBr))
          have hBD : B ≤ WD.heap.size := by have := bD.size; omega
          have hold := OD.out.old
          have HOLD := Lib.hid hold
          have hgD := (World.ownsRow.lt OD.out.out g rfl).2
          obtain ⟨u, e3⟩ : ∃ u, WD.cell? ⟨g, k, none⟩ = some u := by
            obtain ⟨_, _, _, q, _⟩ := OD.out.get k hlt; exact ⟨_, q⟩
          have f3 : WD.frozen? ⟨g, k, none⟩ = false := World.ownsRow.frozenAt OD.out.out _
          have HV := Lib.hid hv
          have hwk : Hid ((Lit.int .i64 (k : Int)).wf = true) := nat_wf (by omega)
          clear hv hnx RT hO hH hL bD hold
          go_upto_block 1 with fail
          go_cut [9] (fun v wx => HoleCut T gone w B g N n size k lh vs v wx)
          case first =>
            go_upto_region 10 with fail
            subst hWD
            have hgr : g < wr.heap.size := hgD
            have e3r : wr.cell? ⟨g, k, none⟩ = some u := e3
            have f3r : wr.frozen? ⟨g, k, none⟩ = false := f3
            have hOC := Lib.hid (HD.out.below (Below_alloc1 (.cells MC 5)))
            have hOA := Lib.hid (OD.out.below (Below_alloc1 (.cells MC 5)))
            have e3C : Hid ((wr.drew.alloc (.cells MC 5)).cell? ⟨g, k, none⟩ = some u) := ((Below_alloc1 (wr := wr.drew) (.cells MC 5)).cell (p := ⟨g, k, none⟩) hgD).trans e3
            have hBC : B ≤ (wr.drew.alloc (.cells MC 5)).heap.size := Nat.le_trans hBD (Below_alloc1 (wr := wr.drew) (.cells MC 5)).size
            have b1 : Below wr.drew.heap.size wr.drew (wr.drew.alloc (.cells #[.int .i64 (k : Int)] 3)) := Below_alloc1 _
            have b2 : Below wr.drew.heap.size wr.drew ((wr.drew.alloc (.cells #[.int .i64 (k : Int)] 3)).alloc (.cells MC 5)) := b1.trans ((Below_alloc1 _).mono b1.size)
            have hHB := Lib.hid (HD.out.below b2)
            have hOB := Lib.hid (OD.out.below b2)
            have e3B : Hid (((wr.drew.alloc (.cells #[.int .i64 (k : Int)] 3)).alloc (.cells MC 5)).cell? ⟨g, k, none⟩ = some u) := (b2.cell (p := ⟨g, k, none⟩) hgD).trans e3
            have hBB : B ≤ ((wr.drew.alloc (.cells #[.int .i64 (k : Int)] 3)).alloc (.cells MC 5)).heap.size := Nat.le_trans hBD b2.size
            have hVB : Hid (VRow ((wr.drew.alloc (.cells #[.int .i64 (k : Int)] 3)).alloc (.cells MC 5)) 1 (some ⟨wr.heap.size, 0, none⟩) 1 1 ([[Value.int .i64 (k : Int)]] : List (List Value)).flatten) := (vrow_one (w := wr.drew) (.int .i64 (k : Int)) 3).keep (fun b o _ _ hlt => Below.heap_alloc _ _ _ hlt)
            have hb2 := Lib.hid b2
            clear b1 b2
            go_region_law (first
              | (refine step_append_one (L := Lay.int .i64) (wr := wr.drew) rfl (.tmp 48) (.tmp 50) 23 rfl B 3 _ 8 Try.underlying23 info_int1 rfl (fun _ => False) ah lh ch _ (by simp [Act.eval]) HD.out #[.int .i64 (k : Int)] (k : Int) (by simp [Act.eval]) (fun _ => False) ⟨rfl, hwk.out⟩ (fun b h => h.elim) (by unfold maxLen; omega) (by omega) hBD ?_; intro a5 c5 w5 hown5 hg5; have kA := int_keeps HD.out hg5; obtain ⟨e5, f5, g5⟩ := g_kept OD.out kA e3)
              | (refine step_append_one (L := Lay.int .i64) (wr := wr.drew.alloc (.cells MC 5)) rfl (.tmp 48) (.tmp 50) 23 rfl B 3 _ 8 Try.underlying23 info_int1 rfl (fun _ => False) ah lh ch _ (by simp [Act.eval]) hOC.out #[.int .i64 (k : Int)] (k : Int) (by simp [Act.eval]) (fun _ => False) ⟨rfl, hwk.out⟩ (fun b h => h.elim) (by unfold maxLen; omega) (by omega) hBC ?_; intro a5 c5 w5 hown5 hg5; have kC := int_keeps hOC.out hg5; obtain ⟨e5, f5, g5⟩ := g_kept hOA.out kC e3C.out)
              | (refine step_append_data (L := Lay.int .i64) rfl (.tmp 48) (.tmp 50) 23 rfl B 3 (.int .i64 0) 8 Try.underlying23 info_int1 rfl (fun _ => False) ah lh ch _ (by simp [Act.eval]) hHB.out (some ⟨wr.heap.size, 0, none⟩) 1 1 [(k : Int)] [[Value.int .i64 (k : Int)]] (by simp [Act.eval]) hVB.out (fun _ => False) (Pt.ints (xs := [(k : Int)]) (fun x hx => by rw [List.mem_singleton.1 hx]; exact hwk.out)) rfl (fun b h => h.elim) (by unfold maxLen; omega) (by omega) hBB ?_; intro a5 c5 w5 hown5 hg5; have kB := int_keeps hHB.out hg5; obtain ⟨e5, f5, g5⟩ := g_kept hOB.out kB e3B.out))
            all_goals go_wp2_with fail
            all_goals go_meet
            all_goals rw [← hH1.out] at hown5
            · have OX := OD.out.keeps kA (by decide) (by decide)
              have LX : Below B w w5 := LD.out.grown hg5 hBD (fun q hq => (HD.out.lt q hq).1)
              have h5 : wr.drew.heap.size ≤ w5.heap.size := hg5.size
              have hB5 : B ≤ w5.heap.size := Nat.le_trans hBD h5
              have := hole_fin (gz := w5.heap.size) (OX.below (Below_alloc1 (.cells MC 5))) ((own_made HMC.out hsz).mono hB5) (fun j v q hj hq e => by have := HOLD.out j v q hj hq; omega) (hown5.below (Below_alloc1 (.cells MC 5))) (LX.trans ((Below_alloc1 (wr := w5) (.cells MC 5)).mono hB5)) hlt hl0k.out
              rw [World.setCell_alloc_past _ _ _ _ g5] at this
              exact this
            · have OX := hOB.out.keeps kB (by decide) (by decide)
              have h2 := hb2.out.size
              have LX : Below B w w5 := (LD.out.trans (hb2.out.mono hBD)).grown hg5 hBB (fun q hq => (HD.out.lt q hq).1)
              have hs1 : (wr.drew.alloc (.cells #[.int .i64 (k : Int)] 3)).heap.size = wr.heap.size + 1 := by simp
              have Z := own_made (w := wr.drew.alloc (.cells #[.int .i64 (k : Int)] 3)) HMC.out hsz
              rw [hs1] at Z
              have hBr1 : B ≤ wr.heap.size + 1 := Nat.le_succ_of_le hBr
              exact hole_fin (gz := wr.heap.size + 1) OX ((Z.mono hBr1).keeps kB (by decide)) (fun j v q hj hq e => by have : q < wr.heap.size := HOLD.out j v q hj hq; omega) hown5 LX hlt hl0k.out
            · have OX := hOA.out.keeps kC (by decide) (by decide)
              have LX : Below B w w5 := (LD.out.trans ((Below_alloc1 (wr := wr.drew) (.cells MC 5)).mono hBD)).grown hg5 hBC (fun q hq => (HD.out.lt q hq).1)
              have Z := own_made (w := wr.drew) HMC.out hsz
              exact hole_fin (gz := wr.heap.size) OX ((Z.mono hBr).keeps kC (by decide)) (fun j v q hj hq e => by have : q < wr.heap.size := HOLD.out j v q hj hq; omega) hown5 LX hlt hl0k.out
          obtain ⟨a5, c5, gz, rfl, H5, O5, L5⟩ := hcut
          have HR5 : Hid (HoleRows gone n size (k + 1) (vs.set k (.slice (some ⟨gz, 0, none⟩) size size))) := fun i hi hin hgi => by
            have hvl := OD.out.vl
            by_cases e : k = i
            · subst e; exact ⟨gz, size, by rw [List.getElem?_set_self (by omega)]⟩
            · rw [List.getElem?_set_ne e]
              exact hHR.out i (by omega) hin hgi
          clear OD HD LD HOLD hHR
          go_wp2_with fail
          go_roundw
          case rel => exact ⟨k + 1, lh + 1, a5, c5, _, by omega, by omega, by go_num, rfl, H5, O5, HR5, L5⟩
          case measure => simp [intOf]; omega
        · have kn : decide ((k : Int) < (n : Int)) = false := by simp; omega
          have hl0k : l0 T gone n size k = [] := by unfold l0; rw [if_pos hv, if_neg hkn]
          have hH0 : holesN gone n (k + 1) = holesN gone n k := by conv => { lhs; unfold holesN }; rw [if_neg (fun h => hkn h.2)]
          rw [← startL_skip T gone n size N k hlt hl0k] at hO
          rw [← hH0] at hH
          have HR3 : Hid (HoleRows gone n size (k + 1) vs) := fun i hi hin hgi => hHR.out i (by omega) hin hgi
          clear hv hnx hl0k hH0 RT hHR
          go_wp2_with fail
          go_roundw
          case rel => exact ⟨k + 1, lh, ah, ch, _, by omega, by omega, by go_num, rfl, hH, hO, HR3, hL⟩
          case measure => simp [intOf]; omega
    · obtain rfl : k = N := by omega
      have hlK : lh = K := by have := hH.out.1; rw [← this, ← HK.out]; simp [nats]
      subst hlK
      have h1 := hH.out.hle
      have h2 := hH.out.hmax
      unfold maxLen at h2
      obtain ⟨BA, hBA⟩ : ∃ b, Hid (wr.heap.size = b) := ⟨_, rfl⟩
      clear hLw
      go_wp2_with fail
      go_loopw [10, 13] (fun uv jv wu => ∃ (t lu : Nat) (au : Option Addr) (cu : Nat), n + t ≤ k ∧ lu ≤ lh ∧ jv = .int .i64 ((n : Int) + (t : Int)) ∧ uv = .slice au lu cu ∧ Hid (SOwn (Lay.int .i64) wu BA 3 (fun _ => False) au lu cu (nats (usedN gone n lh t))) ∧ Hid (Below BA wr wu)) (fun _ jv _ => k - (intOf jv).toNat)
      case atStart => exact ⟨0, 0, none, 0, by omega, by omega, by simp, rfl, SOwn.nil .., Below.refl _ _⟩
      case round =>
        obtain ⟨t, lu, au, cu, ht, hlu, rfl, rfl, hU, hLu⟩ := hrel
        obtain ⟨wz, rfl⟩ : ∃ W, W = wr := ⟨wr, rfl⟩
        have hBz : BA ≤ wz.heap.size := by have := hLu.out.size; have := hBA.out; omega
        have hBAr : B ≤ BA := by have := hBA.out; omega
        have hLr : Hid (Below wr.heap.size wr wz) := by rw [hBA.out]; exact hLu.out
        by_cases hboth : n + t < k ∧ lu < lh
        · obtain ⟨c1, c2⟩ := hboth
          have c1i : (n : Int) + (t : Int) < (k : Int) := by omega
          have c2i : (lu : Int) < (lh : Int) := by omega
          have c0 : (0 : Int) ≤ (n : Int) + (t : Int) := by omega
          have BX := HB.out.below (hL.out.trans (hLu.out.mono hBAr) |> fun h => by rw [hB.out]; exact h) HB.out.lt
          have eG : wz.cell? ⟨gg, n + t, none⟩ = some (.bool (gone.getD (n + t) false)) := by
            rw [BX.cell (n + t)]
            have := HG.out
            simp [List.getD, this, c1]
          have hwt : Hid ((Lit.int .i64 (t : Int)).wf = true) := nat_wf (by omega)
          clear BX
          have hlen : (usedN gone n lh t).length = lu := by have := hU.out.1; rw [← this]; simp [nats]
          cases hv : gone.getD (n + t) false with
          | true =>
            rw [hv] at eG
            have hnx : Hid (nats (usedN gone n lh (t + 1)) = nats (usedN gone n lh t)) := by
              show _ = _
              conv => { lhs; unfold usedN }
              rw [if_neg (fun h => by have := h.2; rw [hv] at this; cases this)]
            clear hv hlen
            go_wp2_with fail
            go_roundw
            case rel => exact ⟨t + 1, lu, au, cu, by omega, by omega, by go_num, rfl, by rw [hnx.out]; exact hU, hLu⟩
            case measure => simp [intOf]; omega
          | false =>
            rw [hv] at eG
            have hnx : Hid (nats (usedN gone n lh (t + 1)) = nats (usedN gone n lh t) ++ [(t : Int)]) := by
              show _ = _
              conv => { lhs; unfold usedN }
              rw [if_pos ⟨by rw [hlen]; exact c2, hv⟩]; simp [nats]
            clear hv hlen
            have q1 := hU.out.hle
            have q2 := hU.out.hmax
            unfold maxLen at q2
            have jn : (n : Int) + (t : Int) - (n : Int) = (t : Int) := by omega
            go_wp2_with (at_builtin; refine wpList_append_one (L := Lay.int .i64) (wr := wz) rfl (.tmp 75) (.tmp 79) 23 rfl BA 3 _ 8 Try.underlying23 info_int1 rfl (fun _ => False) au lu cu _ rfl hU.out #[.int .i64 (t : Int)] (t : Int) rfl (fun _ => False) ⟨rfl, hwt.out⟩ (fun b h => h.elim) (by unfold maxLen; omega) (by omega) hBz ?_)
            intro a5 c5 w5 hown5 hg5
            have L5 := Lib.hid (hU.out.grown hLu.out (Nat.le_refl _) hBz hg5)
            have O5 := Lib.hid hown5
            clear hown5 hg5 jn
            go_wp2_with fail
            go_roundw
            case rel => exact ⟨t + 1, lu + 1, a5, c5, by omega, by omega, by go_num, rfl, by rw [hnx.out]; exact O5, L5⟩
            case measure => simp [intOf]; omega
        · have hlen : (usedN gone n lh t).length = lu := by have := hU.out.1; rw [← this]; simp [nats]
          have hUe : usedN gone n lh (k - n) = usedN gone n lh t := by
            by_cases hc : n + t < k
            · have := usedN_done gone n lh t (by rw [hlen]; exact fun h => hboth ⟨hc, h⟩) (k - n - t)
              rwa [show t + (k - n - t) = k - n by omega] at this
            · rw [show k - n = t by omega]
          obtain rfl : lu = lh := by have := HU.out; rw [hUe, hlen] at this; exact this
          rw [← hUe] at hU
          have q1 := hU.out.hle
          have q2 := hU.out.hmax
          unfold maxLen at q2
          have LZ := Lib.hid (hL.out.trans (hLu.out.mono hBAr))
          have OZ := Lib.hid (hO.out.below hLr.out)
          have HZ := Lib.hid (hH.out.below hLr.out)
          have UZ := Lib.hid hU.out
          have cl : decide ((lu : Int) < (lu : Int)) = false := by simp
          have FI : FillIn wz B g k n size lu vs (startL T gone n size k k) (holesN gone n k) (usedN gone n lu (k - n)) := by
            refine ⟨OZ.out, by omega, ⟨n1, n2, n3, n4⟩, hsz, fun i hi => ?_, HK.out, HU.out, hK3, fun a ha => ?_, fun a ha => ?_, HFULL.out⟩
            · rw [startL_get _ _ _ _ _ _ _ (by omega), if_pos (by omega)]
              unfold l0
              split
              · first | (rw [if_pos hi]; simp) | simp
              · rename_i hg; exact HLEN.out i (by omega) (by simpa using hg)
            · have hm : (holesN gone n k).getD a 0 ∈ holesN gone n k := by
                have hl := HK.out
                rw [show (holesN gone n k).getD a 0 = (holesN gone n k)[a]'(by omega) by simp [List.getD, List.getElem?_eq_getElem (show a < (holesN gone n k).length by omega)]]
                exact List.getElem_mem _
              obtain ⟨m1, m2, m3⟩ := holesN_mem gone n k _ hm
              exact ⟨m2, hHR.out _ m1 m2 m3⟩
            · have hm : (usedN gone n lu (k - n)).getD a 0 ∈ usedN gone n lu (k - n) := by
                have hl := HU.out
                rw [show (usedN gone n lu (k - n)).getD a 0 = (usedN gone n lu (k - n))[a]'(by omega) by simp [List.getD, List.getElem?_eq_getElem (show a < (usedN gone n lu (k - n)).length by omega)]]
                exact List.getElem_mem _
              obtain ⟨m1, m2⟩ := usedN_mem gone n lu (k - n) _ hm
              refine ⟨by omega, by omega, ?_⟩
              rw [startL_get _ _ _ _ _ _ _ (by omega), if_pos (by omega)]
              unfold l0
              rw [if_neg (by rw [m2]; decide)]
              exact HLEN.out _ (by omega) m2
          have HFI := Lib.hid FI
          clear hlen hUe hL hLu hLr hO hH hU FI
          have HRZ : Hid (∀ q, rowsOf vs q → B ≤ q) := fun q hq => (OZ.out.rows q hq).1
          have HHrow : Hid (∀ w', Fr (rowsOf vs) wz w' → Row .i64 w' ah lu ch (nats (holesN gone n k))) := hold_row HZ.out (fun q hq hr => by
            obtain ⟨i, v, hv, hvb⟩ := hr
            have hi : i < k := by rw [← OZ.out.vl]; exact (List.getElem?_eq_some_iff.1 hv).1
            obtain ⟨a', c', e1, e2, _⟩ := OZ.out.row i hi
            rw [e1] at hv; injection hv with hv; subst hv
            have := (HZ.out.kind q hq).ne (Own.kind e2 q hvb)
            exact absurd this (by decide))
          have HUrow : Hid (∀ w', Fr (rowsOf vs) wz w' → Row .i64 w' au lu cu (nats (usedN gone n lu (k - n)))) := hold_row UZ.out (fun q hq hr => by
            obtain ⟨i, v, hv, hvb⟩ := hr
            have hi : i < k := by rw [← OZ.out.vl]; exact (List.getElem?_eq_some_iff.1 hv).1
            obtain ⟨a', c', e1, e2, _⟩ := OZ.out.row i hi
            rw [e1] at hv; injection hv with hv; subst hv
            have := (UZ.out.kind q hq).ne (Own.kind e2 q hvb)
            exact absurd this (by decide))
          have HLE : Hid (∀ i, i < n → ((filled (startL T gone n size k k) n size lu (holesN gone n k) (usedN gone n lu (k - n))).getD i []).length = size) := fun i hi => by
            unfold filled; rw [fillN_lens]; exact HFI.out.cols i hi
          obtain ⟨FL, hFL⟩ : ∃ x, Hid (filled (startL T gone n size k k) n size lu (holesN gone n k) (usedN gone n lu (k - n)) = x) := ⟨_, rfl⟩
          rw [hFL.out] at HLE ⊢
          have c01 : n + t < k ∨ ¬ n + t < k := by omega
          clear hboth
          rcases c01 with hc | hc
          · have c1i : (n : Int) + (t : Int) < (k : Int) := by omega
            go_wp2_with fail
            refine (fillW B g k n size lu vs _ _ _ ah ch au cu wz HFI.out HHrow.out HUrow.out).mono ?_
            rintro e wf ⟨rfl, hOF, hFr⟩
            rw [hFL.out] at hOF
            have OF := Lib.hid hOF
            have LF := Lib.hid (LZ.out.trans (hFr.below (by omega) HRZ.out))
            clear hOF hFr LZ OZ HZ UZ HFI HRZ HHrow HUrow
            go_wp2_with fail
            go_loopw [14] (fun jv wq => ∃ (t : Nat) (vs' : List Value), n + t ≤ k ∧ jv = .int .i64 ((n : Int) + (t : Int)) ∧ Hid (Outs wq B g k vs' (endN gone n size FL t)) ∧ Hid (Below B w wq)) (fun jv _ => k - (intOf jv).toNat)
            case atStart => exact ⟨0, vs, by omega, by simp, OF, LF⟩
            case round =>
              obtain ⟨t2, vs2, ht2, rfl, hQ, hLq⟩ := hrel
              obtain ⟨wq, rfl⟩ : ∃ W, W = wr := ⟨wr, rfl⟩
              have hBq : B ≤ wq.heap.size := by have := hLq.out.size; have := hB.out; omega
              by_cases hlt2 : n + t2 < k
              · have c2i : (n : Int) + (t2 : Int) < (k : Int) := by omega
                have c20 : (0 : Int) ≤ (n : Int) + (t2 : Int) := by omega
                have BX := HB.out.below (by rw [hB.out]; exact hLq.out) HB.out.lt
                have eG : wq.cell? ⟨gg, n + t2, none⟩ = some (.bool (gone.getD (n + t2) false)) := by
                  rw [BX.cell (n + t2)]
                  have := HG.out
                  simp [List.getD, this, hlt2]
                clear BX
                cases hv : gone.getD (n + t2) false with
                | false =>
                  rw [hv] at eG
                  have hnx : Hid (endN gone n size FL (t2 + 1) = endN gone n size FL t2) := by
                    show _ = _
                    conv => { lhs; unfold endN }
                    rw [if_neg (by rw [hv]; decide)]
                  clear hv
                  go_wp2_with fail
                  go_roundw
                  case rel => exact ⟨t2 + 1, vs2, by omega, by go_num, by rw [hnx.out]; exact hQ, hLq⟩
                  case measure => simp [intOf]; omega
                | true =>
                  rw [hv] at eG
                  have hnx : Hid (endN gone n size FL (t2 + 1) = (endN gone n size FL t2).set (n + t2) (encN (FL.take n) size t2 n)) := by
                    show _ = _
                    conv => { lhs; unfold endN }
                    rw [if_pos hv, endN_take]
                  have hQl := hQ.out.len
                  have S := Lib.hid (hQ.out.srow n n3)
                  rw [endN_take] at S
                  have hFl : Hid ((FL.take n).length = n) := by show _ = _; rw [← endN_take gone n size FL t2, List.length_take, hQl]; omega
                  have hCols : Hid (Cols (FL.take n) size) := by
                    refine ⟨by rw [hFl.out]; exact n1, by rw [hFl.out]; exact n2, hsz, fun c hc' => ?_⟩
                    obtain ⟨i, hi, e⟩ := List.mem_iff_getElem.1 hc'
                    have hi' : i < n := by rw [hFl.out] at hi; exact hi
                    rw [← e, List.getElem_take, ← HLE.out i hi']
                    have hiL : i < FL.length := by rw [List.length_take] at hi; omega
                    simp [List.getD, hiL]
                  have nk : (n : Int) ≤ (k : Int) := by omega
                  have jn2 : (n : Int) + (t2 : Int) - (n : Int) = (t2 : Int) := by omega
                  clear hv hQl
                  go_wp2_with fail
                  refine (encode _ n k (FL.take n) size t2 wq S.out hCols.out (by omega)).mono ?_
                  rintro e w5 ⟨gw, c5, rfl, ho5, hb5⟩
                  have hlen5 := encN_length (FL.take n) size t2 n
                  have hbyt5 := encN_byt (FL.take n) size t2 n
                  rw [hFl.out] at ho5 ⊢
                  rw [hlen5] at ho5 ⊢
                  have O5 := hQ.out.below hb5.out
                  obtain ⟨u, e5⟩ : ∃ u, w5.cell? ⟨g, n + t2, none⟩ = some u := by
                    obtain ⟨_, _, _, q, _⟩ := O5.get (n + t2) hlt2; exact ⟨_, q⟩
                  have f5 : w5.frozen? ⟨g, n + t2, none⟩ = false := World.ownsRow.frozenAt O5.out _
                  have hgB := (World.ownsRow.lt O5.out g rfl).1
                  have P5 := Lib.hid (O5.put (n + t2) hlt2 hlen5 (ho5.out.mono hBq) hbyt5 (fun j v q hj hq e => by
                    have h1 := hQ.out.old j v q hj hq
                    have h2 := (World.ownsRow.lt ho5.out q e).1
                    omega))
                  rw [← hnx.out] at P5
                  have L5 := Lib.hid ((hLq.out.trans (hb5.out.mono hBq)).setCell (p := ⟨g, n + t2, none⟩) hgB (.slice (some ⟨gw, 0, none⟩) size c5))
                  clear O5 ho5 hb5 hQ hLq S hCols hlen5 hbyt5 jn2
                  go_wp2_with fail
                  go_roundw
                  case rel => exact ⟨t2 + 1, _, by omega, by go_num, P5, L5⟩
                  case measure => simp [intOf]; omega
              · obtain rfl : t2 = k - n := by omega
                have SF := hQ.out.srow k (Nat.le_refl _)
                have c2d : decide ((n : Int) + ((k - n : Nat) : Int) < (k : Int)) = false := by simp; omega
                rw [List.take_of_length_le (by rw [hQ.out.len]; exact Nat.le_refl _)] at SF
                have HSF := Lib.hid SF
                have LQ := Lib.hid hLq.out
                clear SF hQ hLq
                go_wp2_with fail
                go_ret
                exact ⟨_, _, rfl, by rw [hFL.out]; exact HSF, by show Below _ _ _; rw [hB.out]; exact LQ.out⟩
          · have c1i : decide ((n : Int) + (t : Int) < (k : Int)) = false := by simp; omega
            go_wp2_with fail
            refine (fillW B g k n size lu vs _ _ _ ah ch au cu wz HFI.out HHrow.out HUrow.out).mono ?_
            rintro e wf ⟨rfl, hOF, hFr⟩
            rw [hFL.out] at hOF
            have OF := Lib.hid hOF
            have LF := Lib.hid (LZ.out.trans (hFr.below (by omega) HRZ.out))
            clear hOF hFr LZ OZ HZ UZ HFI HRZ HHrow HUrow
            go_wp2_with fail
            go_loopw [14] (fun jv wq => ∃ (t : Nat) (vs' : List Value), n + t ≤ k ∧ jv = .int .i64 ((n : Int) + (t : Int)) ∧ Hid (Outs wq B g k vs' (endN gone n size FL t)) ∧ Hid (Below B w wq)) (fun jv _ => k - (intOf jv).toNat)
            case atStart => exact ⟨0, vs, by omega, by simp, OF, LF⟩
            case round =>
              obtain ⟨t2, vs2, ht2, rfl, hQ, hLq⟩ := hrel
              obtain ⟨wq, rfl⟩ : ∃ W, W = wr := ⟨wr, rfl⟩
              have hBq : B ≤ wq.heap.size := by have := hLq.out.size; have := hB.out; omega
              by_cases hlt2 : n + t2 < k
              · have c2i : (n : Int) + (t2 : Int) < (k : Int) := by omega
                have c20 : (0 : Int) ≤ (n : Int) + (t2 : Int) := by omega
                have BX := HB.out.below (by rw [hB.out]; exact hLq.out) HB.out.lt
                have eG : wq.cell? ⟨gg, n + t2, none⟩ = some (.bool (gone.getD (n + t2) false)) := by
                  rw [BX.cell (n + t2)]
                  have := HG.out
                  simp [List.getD, this, hlt2]
                clear BX
                cases hv : gone.getD (n + t2) false with
                | false =>
                  rw [hv] at eG
                  have hnx : Hid (endN gone n size FL (t2 + 1) = endN gone n size FL t2) := by
                    show _ = _
                    conv => { lhs; unfold endN }
                    rw [if_neg (by rw [hv]; decide)]
                  clear hv
                  go_wp2_with fail
                  go_roundw
                  case rel => exact ⟨t2 + 1, vs2, by omega, by go_num, by rw [hnx.out]; exact hQ, hLq⟩
                  case measure => simp [intOf]; omega
                | true =>
                  rw [hv] at eG
                  have hnx : Hid (endN gone n size FL (t2 + 1) = (endN gone n size FL t2).set (n + t2) (encN (FL.take n) size t2 n)) := by
                    show _ = _
                    conv => { lhs; unfold endN }
                    rw [if_pos hv, endN_take]
                  have hQl := hQ.out.len
                  have S := Lib.hid (hQ.out.srow n n3)
                  rw [endN_take] at S
                  have hFl : Hid ((FL.take n).length = n) := by show _ = _; rw [← endN_take gone n size FL t2, List.length_take, hQl]; omega
                  have hCols : Hid (Cols (FL.take n) size) := by
                    refine ⟨by rw [hFl.out]; exact n1, by rw [hFl.out]; exact n2, hsz, fun c hc' => ?_⟩
                    obtain ⟨i, hi, e⟩ := List.mem_iff_getElem.1 hc'
                    have hi' : i < n := by rw [hFl.out] at hi; exact hi
                    rw [← e, List.getElem_take, ← HLE.out i hi']
                    have hiL : i < FL.length := by rw [List.length_take] at hi; omega
                    simp [List.getD, hiL]
                  have nk : (n : Int) ≤ (k : Int) := by omega
                  have jn2 : (n : Int) + (t2 : Int) - (n : Int) = (t2 : Int) := by omega
                  clear hv hQl
                  go_wp2_with fail
                  refine (encode _ n k (FL.take n) size t2 wq S.out hCols.out (by omega)).mono ?_
                  rintro e w5 ⟨gw, c5, rfl, ho5, hb5⟩
                  have hlen5 := encN_length (FL.take n) size t2 n
                  have hbyt5 := encN_byt (FL.take n) size t2 n
                  rw [hFl.out] at ho5 ⊢
                  rw [hlen5] at ho5 ⊢
                  have O5 := hQ.out.below hb5.out
                  obtain ⟨u, e5⟩ : ∃ u, w5.cell? ⟨g, n + t2, none⟩ = some u := by
                    obtain ⟨_, _, _, q, _⟩ := O5.get (n + t2) hlt2; exact ⟨_, q⟩
                  have f5 : w5.frozen? ⟨g, n + t2, none⟩ = false := World.ownsRow.frozenAt O5.out _
                  have hgB := (World.ownsRow.lt O5.out g rfl).1
                  have P5 := Lib.hid (O5.put (n + t2) hlt2 hlen5 (ho5.out.mono hBq) hbyt5 (fun j v q hj hq e => by
                    have h1 := hQ.out.old j v q hj hq
                    have h2 := (World.ownsRow.lt ho5.out q e).1
                    omega))
                  rw [← hnx.out] at P5
                  have L5 := Lib.hid ((hLq.out.trans (hb5.out.mono hBq)).setCell (p := ⟨g, n + t2, none⟩) hgB (.slice (some ⟨gw, 0, none⟩) size c5))
                  clear O5 ho5 hb5 hQ hLq S hCols hlen5 hbyt5 jn2
                  go_wp2_with fail
                  go_roundw
                  case rel => exact ⟨t2 + 1, _, by omega, by go_num, P5, L5⟩
                  case measure => simp [intOf]; omega
              · obtain rfl : t2 = k - n := by omega
                have SF := hQ.out.srow k (Nat.le_refl _)
                have c2d : decide ((n : Int) + ((k - n : Nat) : Int) < (k : Int)) = false := by simp; omega
                rw [List.take_of_length_le (by rw [hQ.out.len]; exact Nat.le_refl _)] at SF
                have HSF := Lib.hid SF
                have LQ := Lib.hid hLq.out
                clear SF hQ hLq
                go_wp2_with fail
                go_ret
                exact ⟨_, _, rfl, by rw [hFL.out]; exact HSF, by show Below _ _ _; rw [hB.out]; exact LQ.out⟩
end Go.Proofs.Ytkjaddiagembaaa
