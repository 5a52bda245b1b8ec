/- The walk of SpanSame, and its plain law. -/
import Derived.Test.YtddjkcogfpihpaaSnF
import Derived.Deep.RegionLaw
namespace Go.Proofs.Ytddjkcogfpihpaa
open Go.RowKit Go.Sort
set_option linter.unusedVariables false
set_option maxRecDepth 100000

/-- Pairs, one behind the other. -/
def flatP (A : List Rg) : List Int := (A.map fun p => [p.1, p.2]).flatten
theorem flatP_append (A B : List Rg) : flatP (A ++ B) = flatP A ++ flatP B := by simp [flatP]
theorem flatP_cons (p : Rg) (A : List Rg) : flatP (p :: A) = [p.1, p.2] ++ flatP A := by simp [flatP]
theorem flatP_length (A : List Rg) : (flatP A).length = 2 * A.length := by
  unfold flatP
  rw [flatten_length 2 _ (fun x hx => by obtain ⟨e, _, rfl⟩ := List.mem_map.1 hx; rfl), List.length_map]; omega
theorem flatP_get (A : List Rg) (i : Nat) (hi : i < A.length) : (flatP A).getD (2 * i) 0 = (A.getD i (0, 0)).1 ∧ (flatP A).getD (2 * i + 1) 0 = (A.getD i (0, 0)).2 := by
  have hs : ∀ x ∈ (A.map fun p => [p.1, p.2]), x.length = 2 := fun x hx => by obtain ⟨e, _, rfl⟩ := List.mem_map.1 hx; rfl
  have h0 := flatten_at 2 (A.map fun p => [p.1, p.2]) hs i 0 (by decide)
  have h1 := flatten_at 2 (A.map fun p => [p.1, p.2]) hs i 1 (by decide)
  rw [List.getElem?_map, List.getElem?_eq_getElem hi] at h0 h1
  rw [Nat.add_zero] at h0
  unfold flatP
  simp only [List.getD, List.getElem?_eq_getElem hi, Nat.mul_comm 2 i]
  rw [h0, h1]
  exact ⟨rfl, rfl⟩
theorem added_flat (A : List Rg) : addedN (flatP A) A.length = A.map fun p => rangeOf p.1 p.2 := by
  apply List.ext_getElem (by simp [addedN])
  intro i h1 h2
  have hi : i < A.length := by simpa using h2
  obtain ⟨g1, g2⟩ := flatP_get A i hi
  simp only [addedN, List.getElem_map, List.getElem_range]
  rw [g1, g2]
  simp [List.getD, hi]
/-- The pairs that are taken. -/
def pairsN (l : List Int) (k : Nat) : List Rg := (List.range k).map fun i => (l.getD (2 * i) 0, l.getD (2 * i + 1) 0)
theorem pairsN_succ (l : List Int) (k : Nat) : pairsN l (k + 1) = pairsN l k ++ [(l.getD (2 * k) 0, l.getD (2 * k + 1) 0)] := by simp [pairsN, List.range_succ]
theorem pairsN_length (l : List Int) (k : Nat) : (pairsN l k).length = k := by simp [pairsN]
/-- The same pairs, turned, the last one ahead. -/
def turned (A : List Rg) (r : Nat) : Nat → List Rg
  | 0 => []
  | i + 1 => A.getD ((i + r) % A.length) (0, 0) :: turned A r i
theorem turned_length (A : List Rg) (r : Nat) : ∀ i, (turned A r i).length = i
  | 0 => rfl
  | i + 1 => by unfold turned; rw [List.length_cons, turned_length]
theorem turned_mem (A : List Rg) (r : Nat) : ∀ k p, p ∈ turned A r k ↔ ∃ i, i < k ∧ p = A.getD ((i + r) % A.length) (0, 0)
  | 0, p => ⟨(fun h => by cases h), (fun ⟨i, h, _⟩ => by omega)⟩
  | k + 1, p => by
    unfold turned
    rw [List.mem_cons, turned_mem A r k p]
    constructor
    · rintro (rfl | ⟨i, h1, h2⟩)
      · exact ⟨k, by omega, rfl⟩
      · exact ⟨i, by omega, h2⟩
    · rintro ⟨i, h1, h2⟩
      by_cases e : i = k
      · subst e; exact .inl h2
      · exact .inr ⟨i, by omega, h2⟩
theorem turned_all {A : List Rg} {r : Nat} (hr : r < A.length) (p : Rg) : p ∈ turned A r A.length ↔ p ∈ A := by
  rw [turned_mem]
  constructor
  · rintro ⟨i, _, rfl⟩
    exact getD_memR (Nat.mod_lt _ (by omega))
  · intro hp
    obtain ⟨j, hj, rfl⟩ := List.mem_iff_getElem.1 hp
    refine ⟨(j + (A.length - r)) % A.length, Nat.mod_lt _ (by omega), ?_⟩
    have e : ((j + (A.length - r)) % A.length + r) % A.length = j := by
      rw [Nat.mod_add_mod, show j + (A.length - r) + r = j + A.length by omega, Nat.add_mod_right, Nat.mod_eq_of_lt hj]
    rw [e]; simp [List.getD, hj]
theorem memR_map {A B : List Rg} (f : Rg → Rg) (h : ∀ p, p ∈ A ↔ p ∈ B) (x : Int) : memR (A.map f) x ↔ memR (B.map f) x := by
  constructor
  · rintro ⟨r, hr, h1⟩
    obtain ⟨p, hp, rfl⟩ := List.mem_map.1 hr
    exact ⟨f p, List.mem_map.2 ⟨p, (h p).1 hp, rfl⟩, h1⟩
  · rintro ⟨r, hr, h1⟩
    obtain ⟨p, hp, rfl⟩ := List.mem_map.1 hr
    exact ⟨f p, List.mem_map.2 ⟨p, (h p).2 hp, rfl⟩, h1⟩
theorem row_at2 {k : IntKind} {w : World} {bl ol len cap : Nat} {xs : List Int} (h : Row k w (some ⟨bl, ol, none⟩) len cap xs) (i : Nat) (hi : i < len) : w.cell? ⟨bl, ol + i, none⟩ = some (.int k (xs.getD i 0)) := by
  rcases h.hat with h0 | ⟨b, o, e, hc⟩
  · omega
  · injection e with e; injection e with e1 e2
    subst e1 e2
    exact hc i hi
theorem info_int2 : (Try.prog.info? 3).map (fun i => (i.zero, i.size, i.bytes)) = some (some (.int .i64 0), 1, 8) := by kernel_rfl
theorem vrow_pair (w0 : World) (x y : Int) (e : TypeId) : VRow (w0.alloc (.cells #[.int .i64 x, .int .i64 y] e)) 1 (some ⟨w0.heap.size, 0, none⟩) 2 2 (([x, y] : List Int).map fun x => [Value.int .i64 x]).flatten := by
  refine ⟨rfl, Nat.le_refl _, by unfold maxLen; omega, (fun h => by cases h), .inr ⟨w0.heap.size, 0, rfl, fun i hi => ?_⟩⟩
  rw [Nat.zero_add, cell_of_row _ _ i #[.int .i64 x, .int .i64 y] e (0, 0) (heap_alloc_new w0 _)]
  simp
theorem own_pair (w0 : World) {B : Nat} (hB : B ≤ w0.heap.size) (x y : Int) (hx : (Lit.int .i64 x).wf = true) (hy : (Lit.int .i64 y).wf = true) : SOwn (Lay.int .i64) (w0.alloc (.cells #[.int .i64 x, .int .i64 y] 3)) B 3 (fun _ => False) (some ⟨w0.heap.size, 0, none⟩) 2 2 [x, y] := by
  refine ⟨rfl, [[.int .i64 x], [.int .i64 y]], fun _ => False, ⟨rfl, .inr ⟨w0.heap.size, 2, #[.int .i64 x, .int .i64 y], rfl, hB, heap_alloc_new w0 _, Nat.le_refl _, by unfold maxLen; omega, rfl, rfl⟩⟩, (Pt.single (L := Lay.int .i64) (x := x) ⟨rfl, hx⟩).append (Pt.single (L := Lay.int .i64) (x := y) ⟨rfl, hy⟩), fun b hb => hb.elim⟩
theorem SOwn.rgi {w : World} {B : Nat} {t : TypeId} {G : Nat → Prop} {a : Option Addr} {n c : Nat} {xs : List Int} (h : SOwn (Lay.int .i64) w B t G a n c xs) : VRow w (Lay.int .i64).size a n c (xs.map fun x => [Value.int .i64 x]).flatten ∧ Pt (Lay.int .i64) w (fun _ => False) xs (xs.map fun x => [Value.int .i64 x]) := by
  have hr := h.ints
  exact ⟨by show VRow _ 1 _ _ _ _; rw [flatten_ints]; exact hr.toV, Pt.ints hr.hwf⟩
set_option maxHeartbeats 8000000 in
theorem spanSame (al : Option Addr) (ll cl : Nat) (xl : List Int) (tn : Int) (w : World) (hl : Row .i64 w al ll cl xl) :
    Calls Try.prog 3 #[.slice al ll cl, .int .i64 tn] w fun e w' => e = .returned (.bool true) ∧ Below w.heap.size w w' := by
  have hle := hl.hle
  have hmx := hl.hmax
  unfold maxLen at hmx
  have H := Lib.hid hl
  have hxl := Lib.hid hl.hlen
  obtain ⟨B, hB⟩ : ∃ B, Hid (w.heap.size = B) := ⟨_, rfl⟩
  obtain ⟨n, hn⟩ : ∃ n, Hid (min 12 (ll / 2) = n) := ⟨_, rfl⟩
  have hn1 : n ≤ 12 := by have := hn.out; omega
  have hn2 : 2 * n ≤ ll := by have := hn.out; omega
  clear hl
  go_enter Try.func3, Try.ntmps3
  go_upto_block 0 with fail
  go_cut [5, 6] (fun ov iv wx => ∃ (m2 co : Nat) (ao : Option Addr), ov = .slice ao m2 co ∧ Hid (m2 = 2 * n) ∧ Hid (SOwn (Lay.int .i64) wx B 3 (fun _ => False) ao m2 co (flatP (pairsN xl n))) ∧ Hid (Below B w wx))
  case first =>
   go_wp2_with fail
   go_loopw [5, 6] (fun ov iv wr => ∃ (k i co : Nat) (ao : Option Addr), k ≤ n ∧ iv = .int .i64 i ∧ Hid (i = 2 * k) ∧ ov = .slice ao i co ∧ Hid (SOwn (Lay.int .i64) wr B 3 (fun _ => False) ao i co (flatP (pairsN xl k))) ∧ Hid (Below B w wr)) (fun _ iv _ => ll - (intOf iv).toNat)
   case atStart => exact ⟨0, 0, 0, none, by omega, rfl, rfl, rfl, SOwn.nil .., Below.refl _ _⟩
   case round =>
     obtain ⟨k, i, co, ao, hk, rfl, hi, rfl, hO, hL⟩ := hrel
     have hib : i ≤ 24 := by have := hi.out; omega
     have hBr : B ≤ wr.heap.size := by have := hL.out.size; have := hB.out; omega
     by_cases hlt : k < n
     · obtain ⟨i1, hi1⟩ : ∃ i1, Hid (i1 = i + 1) := ⟨_, rfl⟩
       have s1 : IntKind.i64.wrap ((i : Int) + 1) = (i1 : Int) := by rw [IntWalk.i64_in _ (by omega)]; have := hi1.out; omega
       have s2 : (i1 : Int) < (ll : Int) := by have := hi1.out; have := hi.out; omega
       have k5 : decide ((i : Int) + 1 < (ll : Int)) = true := by have := hi.out; simp; omega
       have k6 : decide ((i : Int) < 24) = true := by have := hi.out; simp; omega
       have k3 : (i : Int) < (ll : Int) := by have := hi.out; omega
       have hr := H.out.below (by rw [hB.out]; exact hL.out)
       obtain ⟨bl, ol, rfl⟩ : ∃ b o, al = some ⟨b, o, none⟩ := by
         rcases hr.hat with h0 | ⟨b, o, e, _⟩
         · omega
         · exact ⟨b, o, e⟩
       have hcell : ∀ i, i < ll → wr.cell? ⟨bl, ol + i, none⟩ = some (.int .i64 (xl.getD i 0)) := fun i hi => row_at2 hr i hi
       have hwf : ∀ i, i < ll → (Lit.int .i64 (xl.getD i 0)).wf = true := fun i hi => by
         rw [show xl.getD i 0 = xl[i]'(by have := hxl.out; omega) by simp [List.getD, show i < xl.length by have := hxl.out; omega]]
         exact hr.hwf _ (List.getElem_mem _)
       obtain ⟨x, hx⟩ : ∃ x, Hid (xl.getD i 0 = x) := ⟨_, rfl⟩
       obtain ⟨y, hy⟩ : ∃ y, Hid (xl.getD (i + 1) 0 = y) := ⟨_, rfl⟩
       have e0 : wr.cell? ⟨bl, ol + i, none⟩ = some (.int .i64 x) := by rw [← hx.out]; exact hcell _ (by omega)
       have e1 : wr.cell? ⟨bl, ol + i1, none⟩ = some (.int .i64 y) := by rw [← hy.out, ← hi1.out]; exact hcell _ (by omega)
       have wx : Hid ((Lit.int .i64 x).wf = true) := by rw [← hx.out]; exact hwf i (by omega)
       have wy : Hid ((Lit.int .i64 y).wf = true) := by rw [← hy.out]; exact hwf (i + 1) (by have := hi1.out; omega)
       have hnext : Hid (flatP (pairsN xl (k + 1)) = flatP (pairsN xl k) ++ [x, y]) := by
         show _ = _
         rw [pairsN_succ, flatP_append, ← hi.out, hx.out, hy.out]; rfl
       have HD : Hid (SOwn (Lay.int .i64) (wr.drew.alloc (.cells #[.int .i64 x, .int .i64 y] 3)) B 3 (fun _ => False) ao i co (flatP (pairsN xl k))) := (hO.out.below (below_drewN (Below.refl _ _) 1)).alloc _
       have LD : Hid (Below B w (wr.drew.alloc (.cells #[.int .i64 x, .int .i64 y] 3))) := hL.out.drew.trans ((Below_alloc1 _).mono hBr)
       have hsz : B ≤ (wr.drew.alloc (.cells #[.int .i64 x, .int .i64 y] 3)).heap.size := Nat.le_trans hBr (Below_alloc1 (wr := wr.drew) _).size
       have VP := Lib.hid (vrow_pair wr.drew x y 3)
       have PP : Hid (Pt (Lay.int .i64) (wr.drew.alloc (.cells #[.int .i64 x, .int .i64 y] 3)) (fun _ => False) [x, y] (([x, y] : List Int).map fun x => [Value.int .i64 x])) := Pt.ints (fun z hz => by
         rcases List.mem_cons.1 hz with rfl | hz
         · exact wx.out
         · rw [List.mem_singleton.1 hz]; exact wy.out)
       clear hr hcell hwf hO hL
       go_upto_block 1 with fail
       go_cut [5] (fun ov wx => ∃ (a5 : Option Addr) (c5 : Nat), ov = .slice a5 (i + 2) c5 ∧ Hid (SOwn (Lay.int .i64) wx B 3 (fun _ => False) a5 (i + 2) c5 (flatP (pairsN xl k) ++ [x, y])) ∧ Hid (Below B w wx))
       case first =>
         go_upto_region 5 with fail
         go_region_law (refine step_append_data (L := Lay.int .i64) rfl (.tmp 26) (.tmp 36) 22 rfl B 3 (.int .i64 0) 8 Try.underlying22 info_int2 rfl (fun _ => False) ao i co (flatP (pairsN xl k)) (by simp [Act.eval]) HD.out (some ⟨wr.drew.heap.size, 0, none⟩) 2 2 [x, y] (([x, y] : List Int).map fun x => [Value.int .i64 x]) (by simp [Act.eval]) VP.out (fun _ => False) PP.out rfl (fun b h => h.elim) (by unfold maxLen; omega) (by omega) hsz ?_; intro a5 c5 w5 hown5 hg5)
         all_goals go_wp2_with fail
         all_goals go_meet
         all_goals exact ⟨a5, c5, rfl, hown5, HD.out.grown LD.out (Nat.le_refl _) hsz hg5⟩
       obtain ⟨a5, c5, rfl, O5, L5⟩ := hcut
       rw [← hnext.out] at O5
       clear HD LD VP PP e0 e1
       go_wp2_with fail
       go_roundw
       case rel => exact ⟨k + 1, i + 2, c5, a5, by omega, by go_num, by show i + 2 = 2 * (k + 1); rw [hi.out]; rfl, rfl, O5, L5⟩
       case measure => simp [intOf]; omega
     · obtain rfl : k = n := by omega
       have q1 : decide ((i : Int) + 1 < (ll : Int)) = true ∧ decide ((i : Int) < 24) = false ∨ decide ((i : Int) + 1 < (ll : Int)) = false := by
         have := hn.out
         have := hi.out
         by_cases h : i + 1 < ll
         · left; simp; omega
         · right; simp; omega
       rcases q1 with ⟨q1, q2⟩ | q1
       · go_wp2_with fail
         go_meet
         exact ⟨i, co, ao, rfl, hi, hO, hL⟩
       · go_wp2_with fail
         go_meet
         exact ⟨i, co, ao, rfl, hi, hO, hL⟩
  obtain ⟨m2, co, ao, rfl, hm2, hO, hL⟩ := hcut
  obtain ⟨A, hA⟩ : ∃ A, Hid (pairsN xl n = A) := ⟨_, rfl⟩
  rw [hA.out] at hO
  have hAl : A.length = n := by rw [← hA.out, pairsN_length]
  have hdiv : (m2 : Int).tdiv 2 = (n : Int) := by have := hm2.out; rw [Int.tdiv_eq_ediv_of_nonneg (by omega)]; omega
  have hm2b : m2 ≤ 24 := by have := hm2.out; omega
  have HAl := Lib.hid hAl
  obtain ⟨W1, hW1⟩ : ∃ b, Hid (wc.heap.size = b) := ⟨_, rfl⟩
  have hBW : B ≤ W1 := by have := hL.out.size; have := hB.out; have := hW1.out; omega
  have SP := Lib.hid (hO.out.ints)
  clear hAl
  have hr0 := Int.emod_nonneg tn (b := max 1 (n : Int)) (by omega)
  obtain ⟨r, hr⟩ : ∃ r : Nat, Hid ((r : Int) = tn % (n : Int)) ∨ n = 0 := by
    by_cases h : n = 0
    · exact ⟨0, .inr h⟩
    · exact ⟨(tn % (n : Int)).toNat, .inl (by have := Int.emod_nonneg tn (b := (n : Int)) (by omega); show _ = _; omega)⟩
  clear hr0
  go_wp2_with fail
  go_loopw [7, 9] (fun ov iv wr => ∃ (j m co' : Nat) (ao' : Option Addr), j ≤ n ∧ iv = .int .i64 j ∧ ov = .slice ao' m co' ∧ Hid (m = 2 * j) ∧ Hid (SOwn (Lay.int .i64) wr B 3 (fun _ => False) ao' m co' (flatP (turned A r j))) ∧ Hid (Row .i64 wr ao m2 co (flatP A)) ∧ Hid (Below B w wr)) (fun _ iv _ => n - (intOf iv).toNat)
  case atStart => exact ⟨0, 0, 0, none, by omega, rfl, rfl, rfl, SOwn.nil .., SP, hL⟩
  case round =>
    obtain ⟨j, m, co', ao', hj, rfl, rfl, hm, hO2, hP, hL2⟩ := hrel
    have hBr : B ≤ wr.heap.size := by have := hL2.out.size; have := hB.out; omega
    have hmb : m ≤ 24 := by have := hm.out; omega
    by_cases hlt : j < n
    · have jI : (j : Int) < (n : Int) := by omega
      have hn0 : ¬ n = 0 := by omega
      have hnB : ((n : Int) == 0) = false := by simp; omega
      have hrn : (r : Int) = tn % (n : Int) := by
        rcases hr with h | h
        · exact h.out
        · omega
      have hrl : r < n := by have := Int.emod_lt_of_pos tn (b := (n : Int)) (by omega); omega
      obtain ⟨kk, hkk⟩ : ∃ kk, Hid ((j + r) % n = kk) := ⟨_, rfl⟩
      have hkl : kk < n := by rw [← hkk.out]; exact Nat.mod_lt _ (by omega)
      have hmod : ((j : Int) + (r : Int)).tmod (n : Int) = (kk : Int) := by
        rw [Int.tmod_eq_emod_of_nonneg (by omega), ← hkk.out, Int.natCast_emod, Int.natCast_add]
      obtain ⟨i0, hi0⟩ : ∃ i, Hid (i = 2 * kk) := ⟨_, rfl⟩
      obtain ⟨i1, hi1⟩ : ∃ i, Hid (i = i0 + 1) := ⟨_, rfl⟩
      have t0 : 2 * (kk : Int) = (i0 : Int) := by have := hi0.out; omega
      have t1 : (i0 : Int) + 1 = (i1 : Int) := by have := hi1.out; omega
      have s0 : IntKind.i64.wrap (2 * (kk : Int)) = (i0 : Int) := by rw [IntWalk.i64_in _ (by omega)]; exact t0
      have s1 : IntKind.i64.wrap ((i0 : Int) + 1) = (i1 : Int) := by rw [IntWalk.i64_in _ (by omega)]; exact t1
      have l0 : (i0 : Int) < (m2 : Int) := by have := hi0.out; have := hm2.out; omega
      have l1 : (i1 : Int) < (m2 : Int) := by have := hi0.out; have := hi1.out; have := hm2.out; omega
      obtain ⟨bl, ol, rfl⟩ : ∃ b o, ao = some ⟨b, o, none⟩ := by
        rcases hP.out.hat with h0 | ⟨b, o, e, _⟩
        · omega
        · exact ⟨b, o, e⟩
      obtain ⟨g1, g2⟩ := flatP_get A kk (by have := HAl.out; omega)
      obtain ⟨⟨x, y⟩, hxy⟩ : ∃ p : Rg, Hid (A.getD kk (0, 0) = p) := ⟨_, rfl⟩
      rw [hxy.out, ← hi0.out] at g1 g2
      rw [← hi1.out] at g2
      have e0 : wr.cell? ⟨bl, ol + i0, none⟩ = some (.int .i64 x) := by rw [row_at2 hP.out i0 (by omega), g1]
      have e1 : wr.cell? ⟨bl, ol + i1, none⟩ = some (.int .i64 y) := by rw [row_at2 hP.out i1 (by omega), g2]
      have hfl : (flatP A).length = m2 := by rw [flatP_length, HAl.out, hm2.out]
      have wx : (Lit.int .i64 x).wf = true := by
        have : (flatP A).getD i0 0 ∈ flatP A := by
          rw [show (flatP A).getD i0 0 = (flatP A)[i0]'(by omega) by simp [List.getD, show i0 < (flatP A).length by omega]]; exact List.getElem_mem _
        rw [g1] at this; exact hP.out.hwf _ this
      have wy : (Lit.int .i64 y).wf = true := by
        have : (flatP A).getD i1 0 ∈ flatP A := by
          rw [show (flatP A).getD i1 0 = (flatP A)[i1]'(by omega) by simp [List.getD, show i1 < (flatP A).length by omega]]; exact List.getElem_mem _
        rw [g2] at this; exact hP.out.hwf _ this
      have hnext : Hid (flatP (turned A r (j + 1)) = [x, y] ++ flatP (turned A r j)) := by
        show flatP (A.getD ((j + r) % A.length) (0, 0) :: turned A r j) = _
        rw [HAl.out, hkk.out, hxy.out, flatP_cons]
      have HD : Hid (SOwn (Lay.int .i64) (wr.drew.alloc (.cells #[.int .i64 x, .int .i64 y] 3)) B 3 (fun _ => False) (some ⟨wr.drew.heap.size, 0, none⟩) 2 2 [x, y]) := own_pair wr.drew hBr x y wx wy
      have LD : Hid (Below B w (wr.drew.alloc (.cells #[.int .i64 x, .int .i64 y] 3))) := hL2.out.drew.trans ((Below_alloc1 _).mono hBr)
      have hsz : B ≤ (wr.drew.alloc (.cells #[.int .i64 x, .int .i64 y] 3)).heap.size := Nat.le_trans hBr (Below_alloc1 (wr := wr.drew) _).size
      have O2D : SOwn (Lay.int .i64) (wr.drew.alloc (.cells #[.int .i64 x, .int .i64 y] 3)) B 3 (fun _ => False) ao' m co' (flatP (turned A r j)) := (hO2.out.below (below_drewN (Below.refl _ _) 1)).alloc _
      have V2 := Lib.hid O2D.rgi.1
      have P2 := Lib.hid O2D.rgi.2
      have F2 : Hid ((flatP (turned A r j)).length = m) := by show _ = _; rw [flatP_length, turned_length, hm.out]
      have hPl : Hid (Row .i64 (wr.drew.alloc (.cells #[.int .i64 x, .int .i64 y] 3)) (some ⟨bl, ol, none⟩) m2 co (flatP A)) := hP.out.below ((below_drewN (Below.refl _ _) 1 : Below wr.heap.size wr wr.drew).trans ((Below_alloc1 (wr := wr.drew) _)))
      clear wx wy g1 g2 O2D hL2 hfl t0 t1
      go_upto_block 3 with fail
      go_cut [7] (fun ov wx => ∃ (a5 : Option Addr) (c5 : Nat), ov = .slice a5 (m + 2) c5 ∧ Hid (SOwn (Lay.int .i64) wx B 3 (fun _ => False) a5 (m + 2) c5 ([x, y] ++ flatP (turned A r j))) ∧ Hid (Row .i64 wx (some ⟨bl, ol, none⟩) m2 co (flatP A)) ∧ Hid (Below B w wx))
      case first =>
        go_wp2_with fail
        refine (picked tn n wr (by omega) (by omega)).mono ?_
        rintro e w2 ⟨rr, hrr, hrr0, hrr1, rfl, rfl⟩
        obtain rfl : rr = (r : Int) := by rw [hrr.out, hrn]
        clear hrr hrr0 hrr1 hrn
        go_upto_region 12 with fail
        go_region_law (refine step_append_data (L := Lay.int .i64) rfl (.tmp 64) (.tmp 65) 22 rfl B 3 (.int .i64 0) 8 Try.underlying22 info_int2 rfl (fun _ => False) (some ⟨wr.drew.heap.size, 0, none⟩) 2 2 [x, y] (by simp [Act.eval]) HD.out ao' m co' (flatP (turned A r j)) ((flatP (turned A r j)).map fun x => [Value.int .i64 x]) (by simp [Act.eval]) V2.out (fun _ => False) P2.out F2.out (fun b h => h.elim) (by unfold maxLen; omega) (by omega) hsz ?_; intro a5 c5 w5 hown5 hg5)
        all_goals go_wp2_with fail
        all_goals go_meet
        all_goals
          refine ⟨a5, c5, by rw [Nat.add_comm], by show SOwn _ _ _ _ _ _ _ _ _; rw [Nat.add_comm m 2]; exact hown5, ?_, HD.out.grown LD.out (Nat.le_refl _) hsz hg5⟩
          have hbl : Below wr.heap.size wr w5 := by
            refine ⟨hg5.os, hg5.tape, hg5.output, Nat.le_trans (by simp) hg5.size, fun q hq => ?_⟩
            have h1 := hg5.block q (by simp; omega) (fun e => by injection e with e; have : wr.heap.size = q := e.symm; omega)
            rw [h1]
            exact Below.heap_alloc _ _ _ hq
          exact hP.out.below hbl
      obtain ⟨a5, c5, rfl, O5, P5, L5⟩ := hcut
      rw [← hnext.out] at O5
      clear HD LD V2 P2 hPl e0 e1 hP hO2
      go_wp2_with fail
      go_roundw
      case rel => exact ⟨j + 1, m + 2, c5, a5, by omega, by go_num, rfl, by show m + 2 = 2 * (j + 1); rw [hm.out]; rfl, O5, P5, L5⟩
      case measure => simp [intOf]; omega
    · obtain rfl : j = n := by omega
      have hcnt : Hid (min 12 (m2 / 2) = j) := by have := hm2.out; show _ = _; omega
      have hadd1 := added_flat A
      rw [HAl.out] at hadd1
      have HADD := Lib.hid hadd1
      have L2 := Lib.hid hL2.out
      have O3 := Lib.hid hO2.out
      have HLT : Hid (∀ q, (Value.slice ao' m co').ownBlock = some q → q < wr.heap.size) := fun q hq => (hO2.out.lt q hq).2
      clear hadd1 hO hL hO2 hL2
      go_wp2_with fail
      refine (setOfW ao m2 co (flatP A) 12 wr hP.out (by omega)).mono ?_
      rintro e w3 ⟨aX, nX, cX, X, rfl, SX, b3, hX⟩
      rw [hcnt.out, HADD.out] at hX
      have O4 := Lib.hid (O3.out.below b3.out)
      have L3 := Lib.hid (L2.out.trans (b3.out.mono hBr))
      have hB3 : B ≤ w3.heap.size := by have := b3.out.size; omega
      clear b3 O3 L2 hP
      have V4 := Lib.hid O4.out.rgi.1
      have P4 := Lib.hid O4.out.rgi.2
      have F4 : Hid ((flatP (turned A r j)).length = m) := by show _ = _; rw [flatP_length, turned_length, hm.out]
      go_wp2_with (at_builtin; refine wpList_append_data (L := Lay.int .i64) rfl (.tmp 73) (.tmp 74) 22 rfl B 3 (.int .i64 0) 8 Try.underlying22 info_int2 rfl (fun _ => False) ao' m co' (flatP (turned A r j)) rfl O4.out ao' m co' (flatP (turned A r j)) _ rfl V4.out (fun _ => False) P4.out F4.out (fun b h => h.elim) (by unfold maxLen; omega) (by omega) hB3 ?_)
      intro a5 c5 w5 hown5 hg5
      have SX5 : Hid (SRow rgL w5 (fun b => wr.heap.size ≤ b) aX nX cX X) := SX.out.keep (fun _ h => h) (fun b hb hlt => hg5.block b hlt (fun e => by have := HLT.out b e.symm; omega))
      have L5 := Lib.hid (O4.out.grown L3.out (Nat.le_refl _) hB3 hg5)
      have R5 := Lib.hid hown5.ints
      have hB5 : B ≤ w5.heap.size := by have := hg5.size; omega
      have hcnt2 : Hid (min 24 ((m + m) / 2) = 2 * j) := by have := hm.out; show _ = _; omega
      have hadd2 := added_flat (turned A r j ++ turned A r j)
      rw [List.length_append, turned_length, flatP_append, show j + j = 2 * j by omega] at hadd2
      have HADD2 := Lib.hid hadd2
      clear hown5 hg5 SX L3 O4 V4 P4 hadd2
      go_wp2_with fail
      refine (setOfW a5 (m + m) c5 (flatP (turned A r j) ++ flatP (turned A r j)) 24 w5 R5.out (by omega)).mono ?_
      rintro e w6 ⟨aY, nY, cY, Y, rfl, SY, b6, hY⟩
      rw [hcnt2.out, HADD2.out] at hY
      have SX6 := Lib.hid (SX5.out.below b6.out)
      have L6 := Lib.hid (L5.out.trans (b6.out.mono hB5))
      have eXY : Y = X := canon_unique Y X hY.out.good.canon hX.out.good.canon (fun x => by
        rw [hY.out.mem x, hX.out.mem x]
        refine memR_map (fun p => rangeOf p.1 p.2) (fun p => ?_) x
        rw [List.mem_append, or_self]
        by_cases hj0 : j = 0
        · subst hj0
          have : A = [] := List.eq_nil_of_length_eq_zero HAl.out
          subst this
          exact Iff.rfl
        · have hrl : r < A.length := by
            rw [HAl.out]
            rcases hr with h | h
            · have := h.out; have := Int.emod_lt_of_pos tn (b := (j : Int)) (by omega); omega
            · omega
          have := turned_all hrl p
          rw [HAl.out] at this
          exact this)
      subst eXY
      clear SX5 L5 R5 b6
      go_wp2_with fail
      refine (sameRanges _ _ aX nX cX aY nY cY Y w6 SX6.out SY.out).mono ?_
      rintro e w7 ⟨rfl, b7⟩
      have L7 := Lib.hid (L6.out.trans (b7.mono (by have := L6.out.size; have := hB.out; omega)))
      clear b7
      go_wp2_with fail
      go_ret
      exact ⟨rfl, by rw [hB.out]; exact L7.out⟩
end Go.Proofs.Ytddjkcogfpihpaa
