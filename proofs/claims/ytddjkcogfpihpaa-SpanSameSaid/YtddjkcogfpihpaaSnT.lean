/- sort.Slice at the edges of package span: sorted by their places. -/
import Derived.Test.YtddjkcogfpihpaaSnC
import Derived.Test.YtddjkcogfpihpaaSnS
import Derived.Shelf.SlSortFuncK.WholeK
import Derived.Shelf.GgSortFunc.Tiny
namespace Go.Proofs.Ytddjkcogfpihpaa
open Go.Shelf Go.RowKit Go.Lib Go.Sort
set_option linter.unusedVariables false
set_option maxRecDepth 100000

def enE (e : Rg) : List Value := [.int .i64 e.1, .int .i64 e.2]
def ltE (x y : Rg) : Bool := decide (x.1 < y.1)
theorem swo_ltE : SWO ltE where
  irrefl := fun x => by simp [ltE]
  trans := fun x y z h1 h2 => by simp [ltE] at *; omega
  ntrans := fun x y z h1 h2 => by simp [ltE] at *; omega
set_option maxHeartbeats 2000000 in
/-- swept's own closure. -/
theorem lessE (blk off c g size : Nat) (W : World) (G : Nat → Int) (hs : W.cell? ⟨g, 0, none⟩ = some (.slice (some ⟨blk, off, none⟩) size c))
    (hc : ∀ t, t < size → W.cell? ⟨blk, off + t * 2, none⟩ = some (.int .i64 (G t))) (i j : Nat) (hi : i < size) (hj : j < size) (hsz : size < 4611686018427387904) :
    Calls Try.prog 28 #[.int .i64 i, .int .i64 j, .pointer (some ⟨g, 0, none⟩)] W fun e w' => e = .returned (.bool (decide (G i < G j))) ∧ ∃ q, w' = W.drewN q := by
  have ci := hc i hi
  have cj := hc j hj
  go_enter Try.func28, Try.ntmps28
  go_wp2
  go_quiet (fail)
  go_wp2
  go_ret
  exact ⟨rfl, nq, rfl⟩
theorem typeT : ∃ i, Try.prog.info? 46 = some i ∧ i.desc = .slice 52 := ⟨(Try.prog.info? 46).get (by kernel_rfl), by kernel_rfl, by kernel_rfl⟩
theorem typeE : ∃ i, Try.prog.info? 52 = some i ∧ i.size = 2 ∧ i.hasPointers = false ∧ i.bytes = 16 := ⟨(Try.prog.info? 52).get (by kernel_rfl), by kernel_rfl, by kernel_rfl, by kernel_rfl, by kernel_rfl⟩
theorem swapK (ie : TypeInfo) (a : ie.hasPointers = false) (b : ie.bytes = 16) (n : Nat) (h2 : 2 ≤ n) : Lib.swapperK n ie 25 = 9 := by
  have c : (n == 0) = false := by simp; omega
  have d : (n == 1) = false := by simp; omega
  simp [Lib.swapperK, a, b, c, d]
theorem flat_enE (E : List Rg) : (flatK enE 2 E.toArray).toList = (E.map fun e => [Value.int .i64 e.1, Value.int .i64 e.2]).flatten := by
  apply List.ext_getElem?
  intro i
  have hl : ((E.map fun e => [Value.int .i64 e.1, Value.int .i64 e.2]).flatten).length = E.length * 2 := by rw [flatten_length 2 _ (fun x hx => by obtain ⟨e, _, rfl⟩ := List.mem_map.1 hx; rfl), List.length_map]
  by_cases hi : i < E.length * 2
  · have h1 := flatten_at 2 (E.map fun e => [Value.int .i64 e.1, Value.int .i64 e.2]) (fun x hx => by obtain ⟨e, _, rfl⟩ := List.mem_map.1 hx; rfl) (i / 2) (i % 2) (Nat.mod_lt _ (by decide))
    have hd : i / 2 * 2 + i % 2 = i := by omega
    rw [hd] at h1
    have hq : i / 2 < E.length := by omega
    have hr : i % 2 < 2 := Nat.mod_lt _ (by decide)
    rw [h1, List.getElem?_map, List.getElem?_eq_getElem hq]
    have h2 := get_flatK enE 2 E.toArray i (by simpa using hi)
    have h3 : i < (flatK enE 2 E.toArray).size := by simpa using hi
    rw [getElem!_pos (flatK enE 2 E.toArray) i h3] at h2
    rw [Array.getElem?_toList, Array.getElem?_eq_getElem h3, h2]
    rw [show E.toArray[i / 2]! = E[i / 2] by simp [hq]]
    show some ((enE E[i / 2])[i % 2]!) = [Value.int .i64 (E[i / 2]).1, Value.int .i64 (E[i / 2]).2][i % 2]?
    rcases (show i % 2 = 0 ∨ i % 2 = 1 by omega) with h | h <;> rw [h] <;> rfl
  · rw [List.getElem?_eq_none (by simp; omega), List.getElem?_eq_none (by omega)]
theorem rg_flat {w : World} {F : Nat → Prop} {E : List Rg} {vss : List (List Value)} (h : Pt rgL w F E vss) : vss = E.map fun e => [Value.int .i64 e.1, Value.int .i64 e.2] := by
  apply List.ext_getElem?
  intro i
  by_cases hi : i < E.length
  · have hi' : i < vss.length := by rw [← h.1]; exact hi
    have := h.2 i _ _ (List.getElem?_eq_getElem hi) (List.getElem?_eq_getElem hi')
    rw [List.getElem?_eq_getElem hi', List.getElem?_map, List.getElem?_eq_getElem hi]
    exact congrArg some this
  · rw [List.getElem?_eq_none (by have := h.1; omega), List.getElem?_eq_none (by rw [List.length_map]; omega)]
theorem rg_pt (w : World) (F : Nat → Prop) (E : List Rg) : Pt rgL w F E (E.map fun e => [Value.int .i64 e.1, Value.int .i64 e.2]) := by
  refine ⟨by simp, fun i x vs hx hv => ?_⟩
  rw [List.getElem?_map, hx] at hv
  injection hv with hv
  exact hv.symm
theorem heap_sorted2 {w : World} {g n : Nat} {os : Array Obj} {cur : Array Value} {e : TypeId} {fr : Nat × Nat} (d : Array Rg) (hb : w.heap[g]? = some (.cells cur e fr)) :
    (grow (putRowK enE 2 (Sort.ahead w n) g 0 d) os).heap[g]? = some (.cells (putCells id 0 (flatK enE 2 d) cur) e fr) := by
  have hg : g < w.heap.size := (Array.getElem?_eq_some_iff.1 hb).1
  rw [heap_grow_old _ _ (by unfold putRowK; simpa using hg)]
  simp [putRowK, putRow, mapBlock, Sort.ahead, Array.getElem?_modify, hb, onCells]
theorem grownBy_sorted2 {w : World} {g n : Nat} {os : Array Obj} (d : Array Rg) : w.grownBy (grow (putRowK enE 2 (Sort.ahead w n) g 0 d) os) (some g) := by
  refine ⟨rfl, rfl, rfl, by simp [putRowK], fun k hk hne => ?_⟩
  rw [heap_grow_old _ _ (by unfold putRowK; simpa using hk)]
  have : g ≠ k := fun e => hne (by rw [e])
  simp [putRowK, putRow, mapBlock, Sort.ahead, Array.getElem?_modify, this]
theorem take_putCells2 (cur F : Array Value) (h : F.size ≤ cur.size) : (putCells id 0 F cur).toList.take F.size = F.toList := by
  apply List.ext_getElem?
  intro j
  by_cases hj : j < F.size
  · rw [List.getElem?_take_of_lt hj, Array.getElem?_toList]
    simp [putCells, hj, show j < cur.size by omega]
  · rw [List.getElem?_take_eq_none (by omega), List.getElem?_eq_none (by simp; omega)]
set_option maxHeartbeats 4000000 in
theorem sortE (a : Option Addr) (len cap g : Nat) (E : List Rg) (w : World) (B : Nat) (ho : SOwn rgL w B 52 (fun _ => False) a len cap E) (hg : w.cell? ⟨g, 0, none⟩ = some (.slice a len cap)) (hgl : g < w.heap.size) (hne : ∀ k, (Value.slice a len cap).ownBlock = some k → k ≠ g) (hlen : len ≤ 1000) :
    Calls Try.prog 27 #[.iface 46 (.slice a len cap), .func (.func 28) #[] #[.pointer (some ⟨g, 0, none⟩)]] w fun e w' =>
      e = .returned (.tuple #[]) ∧ ∃ E', E'.Perm E ∧ E'.Pairwise (fun a b => a.1 ≤ b.1) ∧ SOwn rgL w' B 52 (fun _ => False) a len cap E' ∧ w.grownBy w' (Value.slice a len cap).ownBlock := by
  obtain ⟨hl, vss, F, hown, hp, hF⟩ := ho
  have hv := rg_flat hp
  subst hv
  obtain ⟨iT, hT, dT⟩ := typeT
  obtain ⟨iE, hE, sE, pE, bE⟩ := typeE
  by_cases h1 : len ≤ 1
  · have hS := Any.sort_Slice_tiny laidSort 46 52 iT iE hT dT (by kernel_rfl) hE 25 (fun _ => by kernel_rfl) a len cap h1 (if len = 0 then 34 else 35) (by
      rcases (show len = 0 ∨ len = 1 by omega) with rfl | rfl
      · rw [show Lib.swapperK 0 iE 25 = 1 by simp [Lib.swapperK]]; kernel_rfl
      · rw [show Lib.swapperK 1 iE 25 = 2 by simp [Lib.swapperK]]; kernel_rfl) (.func 28) #[] #[.pointer (some ⟨g, 0, none⟩)] w
    change Calls Try.prog 27 _ _ _ at hS
    refine hS.mono ?_
    rintro e w' ⟨rfl, os, rfl⟩
    have hgr : w.grownBy (grow w os) (Value.slice a len cap).ownBlock := ⟨rfl, rfl, rfl, by simp, fun k hk _ => heap_grow_old _ _ hk⟩
    have hbe : Below w.heap.size w (grow w os) := ⟨rfl, rfl, rfl, by simp, fun k hk => heap_grow_old _ _ hk⟩
    refine ⟨rfl, E, List.Perm.refl _, ?_, ⟨hl, _, fun _ => False, hown.below hbe, rg_pt _ _ _, fun b hb => hb.elim⟩, hgr⟩
    match E, hl with
    | [], _ => exact List.Pairwise.nil
    | [x], _ => exact List.pairwise_singleton _ _
    | x :: y :: t, hl => simp at hl; omega
  · obtain ⟨rfl, h0, _⟩ | ⟨blk, cur, rfl, hbB, hblk, hlc, hcm, hcs, htk⟩ := hown.form
    · omega
    · have hds : E.toArray.size = len := by simpa using hl
      have hfs : (flatK enE 2 E.toArray).size = len * 2 := by simp [hl]
      have hH : HoldsK enE 2 w blk 0 E.toArray := by
        intro j hj
        rw [hfs] at hj
        have hfl := flat_enE E
        have hc := World.ownsRow.cellAt hown j hj
        refine ⟨?_, World.ownsRow.frozenAt hown _⟩
        rw [Nat.zero_add, hc, ← hfl, Array.getElem?_toList, Array.getElem?_eq_getElem (show j < (flatK enE 2 E.toArray).size by omega), getElem!_pos (flatK enE 2 E.toArray) j (by omega)]
        rfl
      have hbl : blk < w.heap.size := (Array.getElem?_eq_some_iff.1 hblk).1
      have hgne : g ≠ blk := fun e => hne blk rfl e.symm
      have hless : LessReadsK Try.prog 28 #[.pointer (some ⟨g, 0, none⟩)] enE 2 ltE blk 0 E.toArray.size w := by
        intro m os dk hs i j hi hj
        have e : sortWorldK enE 2 w blk 0 m dk os = putRowK enE 2 (grow (Sort.ahead w m) os) blk 0 dk := by
          unfold sortWorldK; rw [putRowK_grow _ _ (Sort.ahead w m) _ blk 0 _ hbl]
        have hHg : HoldsK enE 2 (grow (Sort.ahead w m) os) blk 0 E.toArray := holdsK_grow _ _ _ _ blk 0 _ hbl (holdsK_ahead _ _ _ _ _ _ _ hH)
        refine lessE blk 0 cap g E.toArray.size _ (fun t => dk[t]!.1) ?_ (fun t ht => ?_) i j hi hj (by omega)
        · rw [e, cell?_putRowK_other _ _ _ blk 0 dk _ (by exact hgne), cell?_grow _ _ _ (by exact hgl), hds]; exact hg
        · rw [e]; exact ((holdsK_putRowK _ _ _ blk 0 _ dk hHg hs).cell (i := t) (c := 0) (by omega) (by omega)).1
      have hS := Any.sort_Slice_cells_sorted laidSort 46 52 iT iE hT dT (by kernel_rfl) hE 25 (fun _ => by kernel_rfl) enE 2 (fun _ => rfl) sE (fun _ => by kernel_rfl)
        (fun x v hv => by simp [enE] at hv; rcases hv with rfl | rfl <;> rfl) ltE swo_ltE 28 _
        (enters_of Try.func28 (by kernel_rfl) rfl) blk 0 cap E.toArray (by omega) (by omega) 42 (by rw [swapK iE pE bE _ (by omega)]; kernel_rfl) false
        (fun args W => run_callFunc_extern Try.func42 (by kernel_rfl) (by kernel_rfl) (by kernel_rfl) (e := Extern.ReflectliteSwapper.swap false) (by kernel_rfl) args W) w hless hH hbl
      change Calls Try.prog 27 _ _ _ at hS
      rw [hds] at hS
      refine hS.mono ?_
      rintro e w' ⟨rfl, d', n, os, ⟨hps, _, hpp⟩, hsr, rfl⟩
      have hps' : d'.size = len := by rw [hps, hds]
      have hx1 : d'.extract 0 len = d' := by rw [← hps']; simp
      have hx2 : E.toArray.extract 0 len = E.toArray := by rw [← hds]; simp
      rw [hx1, hx2] at hpp
      refine ⟨rfl, d'.toList, by simpa using hpp, ?_, ?_, grownBy_sorted2 d'⟩
      · refine List.pairwise_iff_getElem.2 fun i j hi hj hij => ?_
        have hi' : i < d'.size := by simpa using hi
        have hj' : j < d'.size := by simpa using hj
        have := hsr i j (Nat.zero_le _) hij (by omega)
        rw [getElem!_pos d' i hi', getElem!_pos d' j hj'] at this
        simp [ltE] at this
        simpa using this
      · refine ⟨by simpa using hps', _, fun _ => False, ⟨?_, .inr ⟨blk, cap, _, rfl, hbB, heap_sorted2 d' hblk, hlc, hcm, by simp [putCells, hcs], ?_⟩⟩, rg_pt _ _ _, fun b hb => hb.elim⟩
        · rw [flatten_length 2 _ (fun x hx => by obtain ⟨e, _, rfl⟩ := List.mem_map.1 hx; rfl), List.length_map]; simp [hps', rgL, Lay.flat]
        · have hfl := flat_enE d'.toList
          rw [Array.toArray_toList] at hfl
          rw [← hfl]
          have hfs' : (flatK enE 2 d').size = len * 2 := by simp [hps']
          show (putCells id 0 (flatK enE 2 d') cur).toList.take (len * 2) = _
          rw [← hfs']
          exact take_putCells2 cur _ (by rw [hfs', hcs]; exact Nat.mul_le_mul_right _ hlc)
end Go.Proofs.Ytddjkcogfpihpaa
