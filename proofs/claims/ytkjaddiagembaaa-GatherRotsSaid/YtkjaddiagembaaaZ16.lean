/- Texts that belong together: GaP, CombW, CombP, ItP, GaQ. -/
import Derived.Test.YtkjaddiagembaaaZ15
import Derived.Test.YtkjaddiagembaaaZ1
/- Package stripe, plain: a block in columns, and what comes back of it. -/
namespace Go.Proofs.Ytkjaddiagembaaa
open Go.RowKit
set_option linter.unusedVariables false
set_option maxRecDepth 100000

/-- All is there again, whatever stands where it was lost. -/
theorem back_any {X T : List (List Int)} {size pp K : Nat} {P : List Nat} (hC : Cols X size) (hB : Byts X) (hpt : ∀ x ∈ P, x < X.length + pp) (hT : ∀ i, i < X.length + pp → i ∉ P → T.getD i [] = (X ++ encAll X size pp).getD i [])
    (q1 : (holesN (goneOf P (X.length + pp)) X.length X.length).length = K) (q2 : K ≤ 3) (q3 : (usedN (goneOf P (X.length + pp)) X.length K pp).length = K)
    (q4 : 1 ≤ K → (redN (facM (holesN (goneOf P (X.length + pp)) X.length X.length) (usedN (goneOf P (X.length + pp)) X.length K pp)) K).2 = K) :
    backOf T (goneOf P (X.length + pp)) X.length pp size K = X ++ encAll X size pp := by
  unfold backOf
  have hg : ∀ i, (goneOf P (X.length + pp)).getD i false = false → i ∉ P := fun i h => by
    rw [goneOf_get hpt] at h; simpa using h
  refine rebuilt_all (D := X) ⟨hC, hB, rfl, by simp [startL], fun i hi hgi => ?_, fun i hi hgi => ?_, fun j hj hgj => ?_⟩ q1 q3 (by omega) (fun b hb => ?_) q4
  · rw [startL_get _ _ _ _ _ _ _ (by omega), if_pos (by omega)]
    unfold l0
    rw [if_pos hgi, if_pos hi]
  · rw [startL_get _ _ _ _ _ _ _ (by omega), if_pos (by omega)]
    unfold l0
    rw [if_neg (by rw [hgi]; decide), hT _ (by omega) (hg i hgi), List.getD, List.getD, List.getElem?_append_left hi]
  · rw [startL_get _ _ _ _ _ _ _ (by omega), if_pos (by omega)]
    unfold l0
    rw [if_neg (by rw [hgj]; decide), hT _ (by omega) (hg _ hgj)]
    have e : (X ++ encAll X size pp).getD (X.length + j) [] = (encAll X size pp).getD j [] := by rw [List.getD, List.getD, List.getElem?_append_right (by omega), Nat.add_sub_cancel_left]
    rw [e, encAll_get _ _ _ _ hj]
  · have hm : (usedN (goneOf P (X.length + pp)) X.length K pp).getD b 0 ∈ usedN (goneOf P (X.length + pp)) X.length K pp := getD_mem _ _ (by omega)
    exact usedN_mem _ _ _ _ _ hm

/-- The columns of a block: p of parity, m of data; each of so many sectors. -/
structure Blk where
  p : Nat
  m : Nat
  cnt : Nat → Nat
  h1 : 1 ≤ p ∧ p ≤ 3
  h2 : 1 ≤ m ∧ p + m ≤ 8
  h3 : ∀ k, k < p + m → 1 ≤ cnt k ∧ cnt k ≤ cnt 0
  h4 : ∀ k, k < p → cnt k = cnt 0
  h5 : cnt 0 ≤ 32
def Blk.long (b : Blk) : Nat := b.cnt 0 * 128
def Blk.sz (b : Blk) (c : Nat) : Nat := b.cnt c * 128
/-- Where a data column begins. -/
def Blk.off (b : Blk) : Nat → Nat
  | 0 => 0
  | k + 1 => b.off k + b.sz (b.p + k)
/-- All bytes of it. -/
def Blk.bytes (b : Blk) : Nat := b.off b.m
theorem Blk.off_mono (b : Blk) : ∀ {i j : Nat}, i ≤ j → b.off i ≤ b.off j := by
  intro i j h
  induction j with
  | zero => obtain rfl : i = 0 := by omega
            exact Nat.le_refl _
  | succ j ih =>
    by_cases e : i = j + 1
    · subst e; exact Nat.le_refl _
    · have := ih (by omega)
      show _ ≤ b.off j + _
      omega
theorem Blk.sz_le (b : Blk) {c : Nat} (h : c < b.p + b.m) : b.sz c ≤ b.long := Nat.mul_le_mul_right _ (b.h3 c h).2
theorem Blk.long_le (b : Blk) : b.long ≤ 4096 := by have := b.h5; unfold Blk.long; omega
/-- A column, filled up with noughts. -/
def fillC (long : Nat) (x : List Int) : List Int := x ++ List.replicate (long - x.length) 0
theorem fillC_len {long : Nat} {x : List Int} (h : x.length ≤ long) : (fillC long x).length = long := by simp [fillC]; omega
theorem fillC_take {long n : Nat} {x : List Int} (h : x.length = n) : (fillC long x).take n = x := by
  unfold fillC; rw [← h, List.take_left]
theorem fillC_byt {long : Nat} {x : List Int} (h : Byt x) : Byt (fillC long x) := by
  intro v hv
  rcases List.mem_append.1 hv with hv | hv
  · exact h v hv
  · rw [List.eq_of_mem_replicate hv]; omega
/-- The data columns of bytes. -/
def Blk.part (b : Blk) (pd : List Int) (k : Nat) : List Int := (pd.drop (b.off k)).take (b.sz (b.p + k))
def Blk.parts (b : Blk) (pd : List Int) : List (List Int) := (List.range b.m).map fun k => fillC b.long (b.part pd k)
/-- All columns, as they are laid: those of parity first. -/
def Blk.col (b : Blk) (pd : List Int) (c : Nat) : List Int := if c < b.p then encN (b.parts pd) b.long c b.m else b.part pd (c - b.p)
theorem Blk.part_len (b : Blk) {pd : List Int} (h : pd.length = b.bytes) {k : Nat} (hk : k < b.m) : (b.part pd k).length = b.sz (b.p + k) := by
  unfold Blk.part
  have h1 : b.off (k + 1) ≤ b.off b.m := b.off_mono hk
  have h2 : b.off (k + 1) = b.off k + b.sz (b.p + k) := rfl
  rw [List.length_take, List.length_drop, h]
  unfold Blk.bytes
  omega
theorem Blk.part_byt (b : Blk) {pd : List Int} (h : Byt pd) (k : Nat) : Byt (b.part pd k) := fun v hv => h v (List.mem_of_mem_drop (List.mem_of_mem_take hv))
theorem Blk.parts_len (b : Blk) (pd : List Int) : (b.parts pd).length = b.m := by simp [Blk.parts]
theorem Blk.parts_get (b : Blk) (pd : List Int) {k : Nat} (hk : k < b.m) : (b.parts pd).getD k [] = fillC b.long (b.part pd k) := by simp [Blk.parts, List.getD, hk]
theorem Blk.parts_cols (b : Blk) {pd : List Int} (h : pd.length = b.bytes) : Cols (b.parts pd) b.long := by
  have := b.h2
  have := b.h1
  refine ⟨by rw [b.parts_len]; omega, by rw [b.parts_len]; omega, b.long_le, fun c hc => ?_⟩
  obtain ⟨k, hk, rfl⟩ := List.mem_map.1 hc
  rw [List.mem_range] at hk
  exact fillC_len (by rw [b.part_len h hk]; exact b.sz_le (by omega))
theorem Blk.parts_byts (b : Blk) {pd : List Int} (h : Byt pd) : Byts (b.parts pd) := by
  intro c hc
  obtain ⟨k, hk, rfl⟩ := List.mem_map.1 hc
  exact fillC_byt (b.part_byt h k)
theorem Blk.parts_join (b : Blk) {pd : List Int} (h : pd.length = b.bytes) : ∀ k, k ≤ b.m → (List.range k).flatMap (b.part pd) = pd.take (b.off k) := by
  intro k
  induction k with
  | zero => intro _; simp [Blk.off]
  | succ k ih =>
    intro hk
    rw [List.range_succ, List.flatMap_append, ih (by omega)]
    simp only [List.flatMap_cons, List.flatMap_nil, List.append_nil]
    show _ = pd.take (b.off k + b.sz (b.p + k))
    rw [List.take_add]; rfl
theorem Blk.col_len (b : Blk) {pd : List Int} (h : pd.length = b.bytes) {c : Nat} (hc : c < b.p + b.m) : (b.col pd c).length = b.sz c := by
  unfold Blk.col
  split
  · rename_i hp
    rw [encN_length]
    show b.long = b.cnt c * 128
    rw [b.h4 c hp]; rfl
  · rename_i hp
    rw [b.part_len h (by omega), show b.p + (c - b.p) = c by omega]
theorem Blk.col_byt (b : Blk) {pd : List Int} (h : Byt pd) (c : Nat) : Byt (b.col pd c) := by
  unfold Blk.col
  split
  · exact encN_byt _ _ _ _
  · exact b.part_byt h _
/-- Where a column stands for Rebuild. -/
def Blk.place (b : Blk) (c : Nat) : Nat := if c < b.p then b.m + c else c - b.p
theorem Blk.place_lt (b : Blk) {c : Nat} (h : c < b.p + b.m) : b.place c < b.m + b.p := by unfold Blk.place; split <;> omega
theorem Blk.place_inj (b : Blk) {c d : Nat} (hc : c < b.p + b.m) (hd : d < b.p + b.m) (h : b.place c = b.place d) : c = d := by
  unfold Blk.place at h
  split at h <;> split at h <;> omega
/-- Columns as they are handed to Rebuild. -/
def Blk.all (b : Blk) (f : Nat → List Int) : List (List Int) := (List.range b.m).map (fun k => fillC b.long (f (b.p + k))) ++ (List.range b.p).map (fun c => fillC b.long (f c))
theorem Blk.all_len (b : Blk) (f : Nat → List Int) : (b.all f).length = b.m + b.p := by simp [Blk.all]
theorem Blk.all_get (b : Blk) (f : Nat → List Int) {c : Nat} (hc : c < b.p + b.m) : (b.all f).getD (b.place c) [] = fillC b.long (f c) := by
  unfold Blk.place Blk.all
  split
  · rename_i h
    rw [List.getD, List.getElem?_append_right (by simp)]
    simp [h]
  · rename_i h
    rw [List.getD, List.getElem?_append_left (by simp; omega)]
    have e : b.p + (c - b.p) = c := by omega
    simp [show c - b.p < b.m by omega, e]
/-- How many data columns are rebuilt. -/
def Blk.K (b : Blk) (gone : List Nat) : Nat := (holesN (goneOf (gone.map b.place) (b.m + b.p)) b.m b.m).length
/-- What comes back. -/
def Blk.back (b : Blk) (f : Nat → List Int) (gone : List Nat) : List (List Int) := backOf (b.all f) (goneOf (gone.map b.place) (b.m + b.p)) b.m b.p b.long (b.K gone)
def Blk.data (b : Blk) (f : Nat → List Int) (gone : List Nat) : List Int := (List.range b.m).flatMap fun k => ((b.back f gone).getD k []).take (b.sz (b.p + k))
/-- Columns that may be handed in. -/
structure Blk.Fit (b : Blk) (f : Nat → List Int) (gone : List Nat) : Prop where
  lt : ∀ x ∈ gone, x < b.p + b.m
  nd : gone.Nodup
  few : gone.length ≤ b.p
  len : ∀ c, c < b.p + b.m → (f c).length ≤ b.long
theorem Blk.Fit.lost {b : Blk} {f : Nat → List Int} {gone : List Nat} (h : b.Fit f gone) : Lost (b.all f) b.m b.p b.long (gone.map b.place) := by
  have h1 := b.h1
  have h2 := b.h2
  refine ⟨h1, by omega, fun x hx => ?_, ?_, by rw [List.length_map]; exact h.few, b.long_le, fun i hi hn => ?_⟩
  · obtain ⟨c, hc, rfl⟩ := List.mem_map.1 hx
    exact b.place_lt (h.lt c hc)
  · exact List.pairwise_map.2 (List.Pairwise.imp_of_mem (fun {x y} hx hy hxy e => hxy (b.place_inj (h.lt x hx) (h.lt y hy) e)) h.nd)
  · by_cases him : i < b.m
    · have e : i = b.place (b.p + i) := by unfold Blk.place; rw [if_neg (by omega)]; omega
      rw [e, b.all_get f (by omega)]
      exact fillC_len (h.len _ (by omega))
    · have e : i = b.place (i - b.m) := by unfold Blk.place; rw [if_pos (by omega)]; omega
      rw [e, b.all_get f (by omega)]
      exact fillC_len (h.len _ (by omega))
/-- Where the others are as they were laid, all bytes come back. -/
theorem Blk.data_good (b : Blk) {pd : List Int} (hl : pd.length = b.bytes) (hb : Byt pd) {f : Nat → List Int} {gone : List Nat} (h : b.Fit f gone) (hf : ∀ c, c < b.p + b.m → c ∉ gone → f c = b.col pd c) : b.data f gone = pd := by
  have h1 := b.h1
  have h2 := b.h2
  obtain ⟨K, q1, q2, q3, q4⟩ := h.lost.counts
  have hX := b.parts_len pd
  have hK : b.K gone = K := q1
  have hpt : ∀ x ∈ gone.map b.place, x < (b.parts pd).length + b.p := by rw [hX]; exact h.lost.lt
  have hbk : b.back f gone = b.parts pd ++ encAll (b.parts pd) b.long b.p := by
    unfold Blk.back
    rw [hK]
    have := back_any (T := b.all f) (b.parts_cols hl) (b.parts_byts hb) hpt (K := K) (pp := b.p) ?_ (by rw [hX]; exact q1) q2 (by rw [hX]; exact q3) (by rw [hX]; exact q4)
    · rw [hX] at this; exact this
    · intro i hi hn
      rw [hX] at hi
      by_cases him : i < b.m
      · have e : i = b.place (b.p + i) := by unfold Blk.place; rw [if_neg (by omega)]; omega
        have hng : b.p + i ∉ gone := fun hg => hn (by rw [e]; exact List.mem_map.2 ⟨_, hg, rfl⟩)
        have e2 : (b.all f).getD i [] = fillC b.long (f (b.p + i)) := by
          have := b.all_get f (c := b.p + i) (by omega)
          rwa [← e] at this
        rw [e2, hf _ (by omega) hng, List.getD, List.getElem?_append_left (by rw [hX]; exact him), ← List.getD, b.parts_get pd him]
        unfold Blk.col
        rw [if_neg (by omega), Nat.add_sub_cancel_left]
      · have e : i = b.place (i - b.m) := by unfold Blk.place; rw [if_pos (by omega)]; omega
        have hng : i - b.m ∉ gone := fun hg => hn (by rw [e]; exact List.mem_map.2 ⟨_, hg, rfl⟩)
        have e2 : (b.all f).getD i [] = fillC b.long (f (i - b.m)) := by
          have := b.all_get f (c := i - b.m) (by omega)
          rwa [← e] at this
        rw [e2, hf _ (by omega) hng, List.getD, List.getElem?_append_right (by rw [hX]; omega), ← List.getD, hX, encAll_get _ _ _ _ (by omega), hX]
        unfold Blk.col
        rw [if_pos (by omega)]
        unfold fillC
        rw [encN_length, Nat.sub_self]
        simp
  unfold Blk.data
  rw [hbk]
  have e : ∀ k ∈ List.range b.m, ((b.parts pd ++ encAll (b.parts pd) b.long b.p).getD k []).take (b.sz (b.p + k)) = b.part pd k := by
    intro k hk
    rw [List.mem_range] at hk
    rw [List.getD, List.getElem?_append_left (by rw [hX]; exact hk), ← List.getD, b.parts_get pd hk]
    exact fillC_take (b.part_len hl hk)
  have e2 : ((List.range b.m).flatMap fun k => ((b.parts pd ++ encAll (b.parts pd) b.long b.p).getD k []).take (b.sz (b.p + k))) = (List.range b.m).flatMap (b.part pd) := by
    simp only [List.flatMap]
    congr 1
    exact List.map_congr_left e
  rw [e2, b.parts_join hl b.m (Nat.le_refl _)]
  show pd.take b.bytes = pd
  rw [← hl, List.take_length]
end Go.Proofs.Ytkjaddiagembaaa
/- The walks of package comb's counting functions. -/
namespace Go.Proofs.Ytkjaddiagembaaa
open Go.RowKit

/-- the numbers of picks, by Pascal's triangle -/
def pas : Nat → Nat → Nat
  | _, 0 => 1
  | 0, _ + 1 => 0
  | n + 1, k + 1 => pas n k + pas n (k + 1)
theorem pas_zero (n : Nat) : pas n 0 = 1 := by cases n <;> rfl
theorem pas_succ (n k : Nat) : pas (n + 1) (k + 1) = pas n k + pas n (k + 1) := rfl
theorem pas_mul_small : ∀ n : Fin 13, ∀ i : Fin 13, (i.val + 1) * pas n (i + 1) = (n - i) * pas n i := by decide
theorem pas_mul {n i : Nat} (hn : n ≤ 12) (hi : i ≤ 12) : (i + 1) * pas n (i + 1) = (n - i) * pas n i := pas_mul_small ⟨n, by omega⟩ ⟨i, by omega⟩
theorem pas_small : ∀ n : Fin 13, ∀ k : Fin 14, pas n k ≤ 4096 ∧ (k.val ≤ n.val → 1 ≤ pas n k ∧ pas n k = pas n (n - k)) ∧ (n.val < k.val → pas n k = 0) := by decide
theorem pas_le {n k : Nat} (hn : n ≤ 12) (hk : k ≤ 13) : pas n k ≤ 4096 := (pas_small ⟨n, by omega⟩ ⟨k, by omega⟩).1
theorem pas_pos {n k : Nat} (hn : n ≤ 12) (hk : k ≤ n) : 1 ≤ pas n k := ((pas_small ⟨n, by omega⟩ ⟨k, by omega⟩).2.1 hk).1
theorem pas_sym {n k : Nat} (hn : n ≤ 12) (hk : k ≤ n) : pas n k = pas n (n - k) := ((pas_small ⟨n, by omega⟩ ⟨k, by omega⟩).2.1 hk).2
theorem pas_out {n k : Nat} (hn : n ≤ 12) (hk : k ≤ 13) (h : n < k) : pas n k = 0 := (pas_small ⟨n, by omega⟩ ⟨k, by omega⟩).2.2 h
theorem pas_step {n i : Nat} (hn : n ≤ 12) (hi : i ≤ 12) : 0 ≤ (pas n i : Int) * ((n : Int) - (i : Int)) ∧ (pas n i : Int) * ((n : Int) - (i : Int)) ≤ 49152 ∧ (pas n i : Int) * ((n : Int) - (i : Int)) / ((i : Int) + 1) = (pas n (i + 1) : Int) := by
  by_cases h : i ≤ n
  · have e : (n : Int) - (i : Int) = ((n - i : Nat) : Int) := by omega
    have h1 := pas_mul hn hi
    have h2 := pas_le hn (show i ≤ 13 by omega)
    have h3 : (n - i) * pas n i ≤ 12 * 4096 := Nat.mul_le_mul (by omega) h2
    rw [e, ← Int.natCast_mul, Nat.mul_comm]
    refine ⟨by omega, by omega, ?_⟩
    rw [← h1, show (i : Int) + 1 = ((i + 1 : Nat) : Int) from by omega, Int.natCast_mul, Int.mul_ediv_cancel_left _ (by omega)]
  · rw [pas_out hn (by omega) (show n < i by omega), pas_out hn (by omega) (show n < i + 1 by omega)]
    simp

def Gives (r : Nat) (w : World) (e : Ending) (w' : World) : Prop := ∃ v : Int, Hid (v = (r : Int)) ∧ 0 ≤ v ∧ v ≤ 4096 ∧ e = .returned (.int .i64 v) ∧ w = w'
def Counts (r : Nat) (w : World) (e : Ending) (w' : World) : Prop := ∃ v : Int, Hid (v = (r : Int)) ∧ 0 ≤ v ∧ v ≤ 4096 ∧ e = .returned (.tuple #[.int .i64 v, .int .i64 0]) ∧ w = w'
end Go.Proofs.Ytkjaddiagembaaa
/- Picks and their numbers, plainly: ranks by Pascal's triangle. No program here. -/
namespace Go.Proofs.Ytkjaddiagembaaa
open Go.RowKit
set_option linter.unusedVariables false

/-- p is a pick out of the numbers from y on, below n: ascending. -/
def Pick (n : Nat) : Nat → List Nat → Prop
  | y, [] => y ≤ n
  | y, x :: ps => y ≤ x ∧ x < n ∧ Pick n (x + 1) ps
theorem Pick.le {n y : Nat} : ∀ {p : List Nat}, Pick n y p → y ≤ n
  | [], h => h
  | _ :: _, h => by have := h.1; have := h.2.1; omega
theorem Pick.length {n : Nat} : ∀ {p : List Nat} {y : Nat}, Pick n y p → p.length ≤ n - y
  | [], _, _ => by simp
  | x :: ps, y, h => by
    have h1 := h.1
    have h2 := h.2.1
    have := h.2.2.length
    simp
    omega
theorem Pick.skip {n y x : Nat} {ps : List Nat} (h : Pick n y (x :: ps)) (hne : x ≠ y) : Pick n (y + 1) (x :: ps) := ⟨by have := h.1; omega, h.2.1, h.2.2⟩
theorem Pick.mem {n : Nat} : ∀ {p : List Nat} {y : Nat}, Pick n y p → ∀ x ∈ p, y ≤ x ∧ x < n
  | [], _, _ => by simp
  | x :: ps, y, h => by
    intro z hz
    rcases List.mem_cons.1 hz with rfl | hz
    · exact ⟨h.1, h.2.1⟩
    · have := h.2.2.mem z hz
      have := h.1
      omega

/-- the number of a pick out of the last m of n -/
def rk (n : Nat) : Nat → List Nat → Nat
  | 0, _ => 0
  | _ + 1, [] => 0
  | m + 1, x :: ps => if x = n - (m + 1) then rk n m ps else pas m ps.length + rk n m (x :: ps)
theorem rk_nil (n m : Nat) : rk n m [] = 0 := by cases m <;> rfl
theorem rk_lt (n : Nat) : ∀ (m : Nat) (p : List Nat), m ≤ n → Pick n (n - m) p → rk n m p < pas m p.length
  | 0, [], _, _ => by simp [rk, pas]
  | 0, x :: ps, _, h => by have := h.1; have := h.2.1; omega
  | m + 1, [], _, _ => by simp [rk, pas]
  | m + 1, x :: ps, hm, h => by
    rw [rk, List.length_cons, pas_succ]
    split
    · rename_i hx
      have := rk_lt n m ps (by omega) (by have := h.2.2; rw [hx, show n - (m + 1) + 1 = n - m by omega] at this; exact this)
      omega
    · rename_i hx
      have := rk_lt n m (x :: ps) (by omega) (by have := h.skip hx; rw [show n - (m + 1) + 1 = n - m by omega] at this; exact this)
      rw [List.length_cons] at this
      omega
/-- the numbers that are counted ahead of x, from y on -/
def ahead (n k y : Nat) : Nat → Nat
  | 0 => 0
  | d + 1 => ahead n k y d + pas (n - (y + d) - 1) k
theorem ahead_cons (n k y : Nat) : ∀ d, ahead n k y (d + 1) = pas (n - y - 1) k + ahead n k (y + 1) d
  | 0 => by simp [ahead]
  | d + 1 => by
    rw [ahead, ahead_cons n k y d, ahead, show y + (d + 1) = y + 1 + d by omega]; omega
theorem ahead_mono (n k y : Nat) {a b : Nat} (h : a ≤ b) : ahead n k y a ≤ ahead n k y b := by
  induction h with
  | refl => exact Nat.le_refl _
  | step h ih => rw [ahead]; omega
theorem rk_ahead (n : Nat) : ∀ (d y x : Nat) (ps : List Nat), d = x - y → y ≤ x → x < n → rk n (n - y) (x :: ps) = ahead n ps.length y d + rk n (n - (x + 1)) ps
  | 0, y, x, ps, hd, hy, hx => by
    obtain rfl : x = y := by omega
    rw [show n - x = (n - (x + 1)) + 1 by omega, rk, if_pos (by omega), ahead]; omega
  | d + 1, y, x, ps, hd, hy, hx => by
    rw [show n - y = (n - (y + 1)) + 1 by omega, rk, if_neg (by omega), rk_ahead n d (y + 1) x ps (by omega) (by omega) hx, ahead_cons, show n - y - 1 = n - (y + 1) by omega]
    omega
end Go.Proofs.Ytkjaddiagembaaa
/- All picks, in order: plain. -/
namespace Go.Proofs.Ytkjaddiagembaaa
set_option linter.unusedVariables false

/-- The picks of r more, from a number on, below n, behind those of p. -/
def ext (n : Nat) : Nat → Nat → List Nat → List (List Nat)
  | 0, _, p => [p]
  | r + 1, f, p => (List.range' f (n - r - f)).flatMap fun x => ext n r (x + 1) (p ++ [x])
theorem ext_pre (n : Nat) : ∀ (r f : Nat) (p q : List Nat), ext n r f (q ++ p) = (ext n r f p).map (q ++ ·)
  | 0, _, _, _ => rfl
  | r + 1, f, p, q => by
    simp only [ext, List.map_flatMap]
    congr 1
    funext x
    rw [List.append_assoc, ext_pre n r (x + 1) (p ++ [x]) q]
theorem ext_cons (n r f : Nat) (h : f < n - r) : ext n (r + 1) f [] = (ext n r (f + 1) []).map (f :: ·) ++ ext n (r + 1) (f + 1) [] := by
  have e : n - r - f = (n - r - (f + 1)) + 1 := by omega
  show (List.range' f (n - r - f)).flatMap _ = _
  rw [e, List.range'_succ, List.flatMap_cons]
  congr 1
  exact ext_pre n r (f + 1) [] [f]
theorem ext_none (n r f : Nat) (h : n - r ≤ f) : ext n (r + 1) f [] = [] := by
  show (List.range' f (n - r - f)).flatMap _ = _
  rw [show n - r - f = 0 by omega]
  rfl
theorem ext_length (n : Nat) (hn : n ≤ 12) : ∀ (r d f : Nat), r ≤ 13 → f + d = n → (ext n r f []).length = pas d r := by
  intro r
  induction r with
  | zero => intro d f _ _; rw [pas_zero]; rfl
  | succ r ih =>
    intro d
    induction d with
    | zero =>
      intro f hr hf
      rw [ext_none n r f (by omega)]
      exact (pas_out (by omega) hr (by omega)).symm
    | succ d ihd =>
      intro f hr hf
      by_cases h : f < n - r
      · rw [ext_cons n r f h, List.length_append, List.length_map, ih d (f + 1) (by omega) (by omega), ihd (f + 1) hr (by omega), pas_succ]
      · rw [ext_none n r f (by omega)]
        exact (pas_out (by omega) hr (by omega)).symm
theorem ext_at (n : Nat) (hn : n ≤ 12) : ∀ (r d f : Nat), r ≤ 13 → f + d = n → ∀ (j : Nat) (p : List Nat), (ext n r f [])[j]? = some p → Pick n f p ∧ p.length = r ∧ rk n d p = j := by
  intro r
  induction r with
  | zero =>
    intro d f _ hf j p hp
    cases j with
    | zero =>
      obtain rfl : [] = p := by simpa [ext] using hp
      exact ⟨by show f ≤ n; omega, rfl, by rw [rk_nil]⟩
    | succ j => simp [ext] at hp
  | succ r ih =>
    intro d
    induction d with
    | zero =>
      intro f hr hf j p hp
      rw [ext_none n r f (by omega)] at hp
      simp at hp
    | succ d ihd =>
      intro f hr hf j p hp
      by_cases h : f < n - r
      · rw [ext_cons n r f h] at hp
        have hl := ext_length n hn r d (f + 1) (by omega) (by omega)
        by_cases hj : j < pas d r
        · rw [List.getElem?_append_left (by rw [List.length_map, hl]; exact hj), List.getElem?_map] at hp
          obtain ⟨q, hq, rfl⟩ := Option.map_eq_some_iff.1 hp
          obtain ⟨h1, h2, h3⟩ := ih d (f + 1) (by omega) (by omega) j q hq
          refine ⟨⟨Nat.le_refl _, by omega, h1⟩, by rw [List.length_cons, h2], ?_⟩
          rw [rk, if_pos (by omega), h3]
        · rw [List.getElem?_append_right (by rw [List.length_map, hl]; omega), List.length_map, hl] at hp
          obtain ⟨h1, h2, h3⟩ := ihd (f + 1) hr (by omega) _ p hp
          cases p with
          | nil => simp at h2
          | cons z ps =>
            have h1' := h1
            obtain ⟨hz1, hz2, hz3⟩ := h1
            refine ⟨⟨by omega, hz2, hz3⟩, h2, ?_⟩
            rw [rk, if_neg (by omega), h3]
            have : ps.length = r := by simpa using h2
            rw [this, show d = n - (n - d) by omega] at *
            omega
      · rw [ext_none n r f (by omega)] at hp
        simp at hp
/-- The first of two picks comes ahead of the second one. -/
def lexLt (a b : List Nat) : Prop := ∃ i, i < a.length ∧ i < b.length ∧ (∀ j, j < i → a.getD j 0 = b.getD j 0) ∧ a.getD i 0 < b.getD i 0
theorem lexLt.cons {a b : List Nat} (x : Nat) (h : lexLt a b) : lexLt (x :: a) (x :: b) := by
  obtain ⟨i, h1, h2, h3, h4⟩ := h
  refine ⟨i + 1, by simpa using h1, by simpa using h2, fun j hj => ?_, by simpa using h4⟩
  cases j with
  | zero => rfl
  | succ j => simpa using h3 j (by omega)
theorem ext_sorted (n : Nat) (hn : n ≤ 12) : ∀ (r d f : Nat), r ≤ 13 → f + d = n → (ext n r f []).Pairwise lexLt := by
  intro r
  induction r with
  | zero => intro d f _ _; exact List.pairwise_singleton _ _
  | succ r ih =>
    intro d
    induction d with
    | zero => intro f hr hf; rw [ext_none n r f (by omega)]; exact List.Pairwise.nil
    | succ d ihd =>
      intro f hr hf
      by_cases h : f < n - r
      · rw [ext_cons n r f h, List.pairwise_append]
        refine ⟨List.pairwise_map.2 ((ih d (f + 1) (by omega) (by omega)).imp fun h => h.cons f), ihd (f + 1) hr (by omega), ?_⟩
        intro a ha b hb
        obtain ⟨q, hq, rfl⟩ := List.mem_map.1 ha
        obtain ⟨j, hj⟩ := List.getElem?_of_mem hb
        obtain ⟨h1, h2, h3⟩ := ext_at n hn (r + 1) d (f + 1) hr (by omega) j b hj
        cases b with
        | nil => simp at h2
        | cons z ps => exact ⟨0, by simp, by simp, fun j hj => by omega, by have := h1.1; simp; omega⟩
      · rw [ext_none n r f (by omega)]; exact List.Pairwise.nil
/-- All picks of k below n. -/
def picks (n k : Nat) : List (List Nat) := ext n k 0 []
theorem picks_length {n k : Nat} (hn : n ≤ 12) (hk : k ≤ 12) : (picks n k).length = pas n k := ext_length n hn k n 0 (by omega) (by omega)
theorem picks_at {n k : Nat} (hn : n ≤ 12) (hk : k ≤ 12) {j : Nat} {p : List Nat} (h : (picks n k)[j]? = some p) : Pick n 0 p ∧ p.length = k ∧ rk n n p = j := ext_at n hn k n 0 (by omega) (by omega) j p h
theorem picks_lt {n k : Nat} (hn : n ≤ 12) (hk : k ≤ 12) {j : Nat} {p q : List Nat} (h : (picks n k)[j]? = some p) (h2 : (picks n k)[j + 1]? = some q) : lexLt p q := by
  have hs := ext_sorted n hn k n 0 (by omega) (by omega)
  rw [List.pairwise_iff_getElem] at hs
  obtain ⟨h3, rfl⟩ := List.getElem?_eq_some_iff.1 h
  obtain ⟨h4, rfl⟩ := List.getElem?_eq_some_iff.1 h2
  exact hs j (j + 1) h3 h4 (by omega)
end Go.Proofs.Ytkjaddiagembaaa
/- Package stripe, plain: which columns are tried. -/
namespace Go.Proofs.Ytkjaddiagembaaa
set_option linter.unusedVariables false

theorem ext_all (n : Nat) : ∀ (q : List Nat) (f : Nat) (p : List Nat), Pick n f q → (p ++ q) ∈ ext n q.length f p
  | [], f, p, _ => by simp [ext]
  | x :: q, f, p, h => by
    have hl : q.length ≤ n - (x + 1) := Pick.length h.2.2
    have h1 := h.1
    have h2 := h.2.1
    show _ ∈ (List.range' f (n - q.length - f)).flatMap fun x => ext n q.length (x + 1) (p ++ [x])
    rw [List.mem_flatMap]
    refine ⟨x, ?_, ?_⟩
    · rw [List.mem_range'_1]; omega
    · have := ext_all n q (x + 1) (p ++ [x]) h.2.2
      rwa [List.append_assoc] at this
theorem picks_all {n : Nat} {q : List Nat} (h : Pick n 0 q) : q ∈ picks n q.length := by
  have := ext_all n q 0 [] h
  rwa [List.nil_append] at this
theorem picks_mem {n k : Nat} (hn : n ≤ 12) (hk : k ≤ 12) {p : List Nat} (h : p ∈ picks n k) : Pick n 0 p ∧ p.length = k := by
  obtain ⟨j, hj⟩ := List.getElem?_of_mem h
  obtain ⟨h1, h2, _⟩ := picks_at hn hk hj
  exact ⟨h1, h2⟩
theorem pick_filter (n : Nat) (q : Nat → Bool) : ∀ d f, f + d = n → Pick n f ((List.range' f d).filter q) := by
  intro d
  induction d with
  | zero => intro f hf; show f ≤ n; omega
  | succ d ih =>
    intro f hf
    rw [List.range'_succ, List.filter_cons]
    have h := ih (f + 1) (by omega)
    split
    · exact ⟨Nat.le_refl _, by omega, h⟩
    · revert h
      generalize (List.range' (f + 1) d).filter q = l
      intro h
      cases l with
      | nil => show f ≤ n; omega
      | cons x l => exact ⟨by have := h.1; omega, h.2.1, h.2.2⟩
/-- Columns by their places among those that are kept. -/
def mapK (kept p : List Nat) : List Nat := p.map fun i => kept.getD i 0
def lostOf (ps : List (Bool × List Int)) (n : Nat) : List Nat := (List.range n).filter fun c => (ps.getD c (false, [])).1
def keptOf (ps : List (Bool × List Int)) (n : Nat) : List Nat := (List.range n).filter fun c => !(ps.getD c (false, [])).1
theorem lostOf_succ (ps : List (Bool × List Int)) (n : Nat) : lostOf ps (n + 1) = lostOf ps n ++ if (ps.getD n (false, [])).1 then [n] else [] := by
  unfold lostOf
  rw [List.range_succ, List.filter_append]
  congr 1
  cases h : (ps.getD n (false, [])).1 <;> simp only [List.filter_cons, h] <;> rfl
theorem keptOf_succ (ps : List (Bool × List Int)) (n : Nat) : keptOf ps (n + 1) = keptOf ps n ++ if (ps.getD n (false, [])).1 then [] else [n] := by
  unfold keptOf
  rw [List.range_succ, List.filter_append]
  congr 1
  cases h : (ps.getD n (false, [])).1 <;> simp only [List.filter_cons, h] <;> rfl
theorem keptOf_len (ps : List (Bool × List Int)) (n : Nat) : (lostOf ps n).length + (keptOf ps n).length = n := by
  induction n with
  | zero => rfl
  | succ n ih =>
    rw [lostOf_succ, keptOf_succ, List.length_append, List.length_append]
    split <;> simp <;> omega
theorem lostOf_mem {ps : List (Bool × List Int)} {n c : Nat} : c ∈ lostOf ps n ↔ c < n ∧ (ps.getD c (false, [])).1 = true := by
  unfold lostOf; rw [List.mem_filter, List.mem_range]
theorem keptOf_mem {ps : List (Bool × List Int)} {n c : Nat} : c ∈ keptOf ps n ↔ c < n ∧ (ps.getD c (false, [])).1 = false := by
  unfold keptOf; rw [List.mem_filter, List.mem_range]; simp
theorem filter_nodup (n : Nat) (q : Nat → Bool) : ((List.range n).filter q).Nodup := List.Pairwise.filter _ List.nodup_range
theorem getD_mem' {l : List Nat} {i : Nat} (h : i < l.length) : l.getD i 0 ∈ l := by
  have : l.getD i 0 = l[i] := by simp [List.getD, h]
  rw [this]; exact List.getElem_mem h
theorem nodup_getD {l : List Nat} (h : l.Nodup) {i j : Nat} (hi : i < l.length) (hj : j < l.length) (e : l.getD i 0 = l.getD j 0) : i = j := by
  have e1 : l.getD i 0 = l[i] := by simp [List.getD, hi]
  have e2 : l.getD j 0 = l[j] := by simp [List.getD, hj]
  rw [e1, e2] at e
  exact (List.getElem_inj h).1 e
theorem Pick.nodup {n : Nat} : ∀ {p : List Nat} {f : Nat}, Pick n f p → p.Nodup
  | [], _, _ => List.nodup_nil
  | x :: p, f, h => List.nodup_cons.2 ⟨fun hx => by have := (Pick.mem h.2.2 x hx).1; omega, Pick.nodup h.2.2⟩
theorem mapK_nodup {kept p : List Nat} (hk : kept.Nodup) {n : Nat} (hn : n = kept.length) (hp : Pick n 0 p) : (mapK kept p).Nodup := by
  unfold mapK
  refine List.pairwise_map.2 (List.Pairwise.imp_of_mem (fun {x y} hx hy hxy e => hxy ?_) hp.nodup)
  have h1 := (Pick.mem hp x hx).2
  have h2 := (Pick.mem hp y hy).2
  exact nodup_getD hk (by omega) (by omega) e
theorem mapK_mem {kept p : List Nat} (hp : Pick kept.length 0 p) : ∀ x ∈ mapK kept p, x ∈ kept := by
  intro x hx
  obtain ⟨i, hi, rfl⟩ := List.mem_map.1 hx
  exact getD_mem' (Pick.mem hp i hi).2
/-- The places of some of those that are kept. -/
def placesIn (kept : List Nat) (q : Nat → Bool) : List Nat := (List.range' 0 kept.length).filter fun i => q (kept.getD i 0)
theorem placesIn_pick (kept : List Nat) (q : Nat → Bool) : Pick kept.length 0 (placesIn kept q) := pick_filter _ _ _ _ (by omega)
theorem placesIn_map (kept : List Nat) (q : Nat → Bool) : mapK kept (placesIn kept q) = kept.filter q := by
  have e : kept = (List.range' 0 kept.length).map fun i => kept.getD i 0 := by
    apply List.ext_getElem
    · simp
    · intro i h1 h2
      simp [List.getD, h1]
  unfold mapK placesIn
  conv => rhs; rw [e]
  rw [List.filter_map]
  rfl

/-- What is tried first that fits. -/
def Found (kept : List Nat) (K : Nat) (fit : List Nat → Prop) (g : List Nat) : Prop :=
  ∃ (k j : Nat) (p : List Nat), k ≤ K ∧ (picks kept.length k)[j]? = some p ∧ g = mapK kept p ∧ fit g ∧ (∀ k', k' < k → ∀ p' ∈ picks kept.length k', ¬ fit (mapK kept p')) ∧
    (∀ j', j' < j → ∀ p', (picks kept.length k)[j']? = some p' → ¬ fit (mapK kept p'))
theorem picks_zero (n : Nat) : picks n 0 = [[]] := rfl
theorem Found.none {kept : List Nat} {K : Nat} {fit : List Nat → Prop} {g : List Nat} (h : Found kept K fit g) (h0 : fit []) : g = [] := by
  obtain ⟨k, j, p, hk, hp, rfl, hf, h1, h2⟩ := h
  cases k with
  | zero =>
    rw [picks_zero] at hp
    cases j with
    | zero => obtain rfl : [] = p := by simpa using hp
              rfl
    | succ j => simp at hp
  | succ k => exact absurd h0 (h1 0 (by omega) [] (by rw [picks_zero]; exact List.mem_singleton.2 rfl))
theorem Found.fits {kept : List Nat} {K : Nat} {fit : List Nat → Prop} {g : List Nat} (h : Found kept K fit g) : fit g := by
  obtain ⟨k, j, p, hk, hp, rfl, hf, _, _⟩ := h
  exact hf
theorem Found.len {kept : List Nat} {K : Nat} {fit : List Nat → Prop} {g : List Nat} (h : Found kept K fit g) (hn : kept.length ≤ 12) (hK : K ≤ 12) : g.length ≤ K := by
  obtain ⟨k, j, p, hk, hp, rfl, hf, _, _⟩ := h
  have := (picks_at hn (by omega) hp).2.1
  unfold mapK
  rw [List.length_map]; omega
/-- Columns that may be tried may be handed in. -/
theorem try_fit {b : Blk} {f : Nat → List Int} {ps : List (Bool × List Int)} {k : Nat} {p : List Nat} (hp : Pick (keptOf ps (b.p + b.m)).length 0 p) (hpl : p.length = k) (hk : (lostOf ps (b.p + b.m)).length + k ≤ b.p) (hf : ∀ c, c < b.p + b.m → (f c).length ≤ b.long) :
    b.Fit f (lostOf ps (b.p + b.m) ++ mapK (keptOf ps (b.p + b.m)) p) := by
  refine ⟨fun x hx => ?_, ?_, ?_, hf⟩
  · rcases List.mem_append.1 hx with h | h
    · exact (lostOf_mem.1 h).1
    · exact (keptOf_mem.1 (mapK_mem hp x h)).1
  · refine List.nodup_append.2 ⟨filter_nodup _ _, mapK_nodup (filter_nodup _ _) rfl hp, fun x hx y hy e => ?_⟩
    have h1 := (lostOf_mem.1 hx).2
    have h2 := (keptOf_mem.1 (mapK_mem hp y hy)).2
    rw [e, h2] at h1
    cases h1
  · rw [List.length_append]
    unfold mapK
    rw [List.length_map, hpl]; exact hk
end Go.Proofs.Ytkjaddiagembaaa
