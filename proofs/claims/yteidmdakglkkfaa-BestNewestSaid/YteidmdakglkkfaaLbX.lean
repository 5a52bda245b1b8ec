/- Labels and their sectors, plainly: what is read back, what a changed word does. No program here. -/
import Derived.Test.YteidmdakglkkfaaLbQ
import Derived.Test.YteidmdakglkkfaaFletR
namespace Go.Proofs.Yteidmdakglkkfaa
open Go.RowKit
set_option linter.unusedVariables false
set_option maxRecDepth 100000

theorem fld_skip (bs rest : List Int) (o s : Nat) (h : bs.length ≤ o) : fld (bs ++ rest) o s = fld rest (o - bs.length) s := by
  unfold fld
  rw [List.drop_append, List.drop_eq_nil_of_le h, List.nil_append]
theorem fld_head (bs rest : List Int) (s : Nat) (h : bs.length = s) : fld (bs ++ rest) 0 s = wrap64 (bw bs) := by
  subst h
  unfold fld
  rw [List.drop_zero, List.take_left]
theorem fld_only (bs : List Int) (s : Nat) (h : bs.length = s) : fld bs 0 s = wrap64 (bw bs) := by
  have := fld_head bs [] s h
  rwa [List.append_nil] at this
theorem w_four (n : Int) (h : 0 ≤ n ∧ n ≤ 4294967295) : wrap64 (bw (leB 4 n)) = n := by
  rw [bw_four n h]; exact wrap_same (by omega) (by omega)
/-- the numbers of four bytes are none too great -/
def Lab.fits (x : Lab) : Prop := ∀ v ∈ [x.pool, x.drive, x.drives, x.parity, x.time, x.addr, x.count, x.bytes, x.birth], 0 ≤ v ∧ v ≤ 4294967295
theorem Lab.fits_of {x : Lab} (h : x.may = true) : x.fits := by
  unfold Lab.may at h
  simp only [Bool.and_eq_true] at h
  obtain ⟨⟨⟨⟨⟨⟨⟨⟨h0, h1⟩, h2⟩, h3⟩, h4⟩, h5⟩, h6⟩, h7⟩, h8⟩ := h
  have h0 := inB_true h0
  have h1 := inB_true h1
  have h2 := inB_true h2
  have h3 := inB_true h3
  have h4 := inB_true h4
  have h5 := inB_true h5
  have h6 := inB_true h6
  have h7 := inB_true h7
  have h8 := inB_true h8
  intro v hv
  simp only [List.mem_cons, List.not_mem_nil, or_false] at hv
  rcases hv with rfl | rfl | rfl | rfl | rfl | rfl | rfl | rfl | rfl <;> omega
theorem four_ok (l : List Int) : (-9223372036854775808 ≤ (sumOf l).a ∧ (sumOf l).a ≤ 9223372036854775807) ∧ (-9223372036854775808 ≤ (sumOf l).b ∧ (sumOf l).b ≤ 9223372036854775807) ∧ (-9223372036854775808 ≤ (sumOf l).c ∧ (sumOf l).c ≤ 9223372036854775807) ∧ (-9223372036854775808 ≤ (sumOf l).d ∧ (sumOf l).d ≤ 9223372036854775807) := by
  unfold sumOf
  rw [zero_words]
  exact ⟨wrap64_ok _, wrap64_ok _, wrap64_ok _, wrap64_ok _⟩
theorem encB_form (x : Lab) : encB x = leB 4 x.pool ++ (leB 4 x.drive ++ (leB 4 x.drives ++ (leB 4 x.parity ++ (leB 4 x.time ++ (leB 4 x.addr ++ (leB 4 x.count ++ (leB 4 x.bytes ++ (leB 4 x.birth ++ (leB 8 x.a ++ (leB 8 x.b ++ (leB 8 x.c ++ (leB 8 x.d ++ (List.replicate 28 0 ++ (leB 8 (sumOf (lab96 x)).a ++ (leB 8 (sumOf (lab96 x)).b ++ (leB 8 (sumOf (lab96 x)).c ++ leB 8 (sumOf (lab96 x)).d)))))))))))))))) := by
  unfold encB
  generalize sumOf (lab96 x) = s
  unfold lab96 lab68 four32
  simp only [List.append_assoc, List.nil_append]
theorem encB_take (x : Lab) : (encB x).take 96 = lab96 x := by
  unfold encB
  rw [List.take_append_of_le_length (by rw [lab96_length]; omega), List.take_of_length_le (by rw [lab96_length]; omega)]
theorem labOf_enc (x : Lab) (hf : x.fits) (hok : x.ok) : labOf (encB x) = x := by
  rw [encB_form]
  generalize sumOf (lab96 x) = s
  unfold labOf
  repeat (first | rw [fld_head _ _ 4 (leB_length _ _)] | rw [fld_head _ _ 8 (leB_length _ _)] | (rw [fld_skip (leB 4 _) _ _ _ (by rw [leB_length]; omega)]; simp only [leB_length, Nat.reduceSub]) | (rw [fld_skip (leB 8 _) _ _ _ (by rw [leB_length]; omega)]; simp only [leB_length, Nat.reduceSub]))
  rw [w_four _ (hf x.pool (by simp)), w_four _ (hf x.drive (by simp)), w_four _ (hf x.drives (by simp)), w_four _ (hf x.parity (by simp)), w_four _ (hf x.time (by simp)), w_four _ (hf x.addr (by simp)), w_four _ (hf x.count (by simp)), w_four _ (hf x.bytes (by simp)), w_four _ (hf x.birth (by simp)), bw_eight _ (hok x.a (by simp)), bw_eight _ (hok x.b (by simp)), bw_eight _ (hok x.c (by simp)), bw_eight _ (hok x.d (by simp))]
theorem sealOf_drop (xs ys : List Int) (h : xs.drop 96 = ys.drop 96) : sealOf xs = sealOf ys := by
  have e : ∀ o s, fld xs (96 + o) s = fld ys (96 + o) s := fun o s => by unfold fld; rw [← List.drop_drop, ← List.drop_drop, h]
  unfold sealOf
  rw [show (96 : Nat) = 96 + 0 by omega, show (104 : Nat) = 96 + 8 by omega, show (112 : Nat) = 96 + 16 by omega, show (120 : Nat) = 96 + 24 by omega, e 0, e 8, e 16, e 24]
theorem sealOf_enc (x : Lab) : sealOf (encB x) = sumOf (lab96 x) := by
  obtain ⟨h1, h2, h3, h4⟩ := four_ok (lab96 x)
  have e : encB x = lab96 x ++ (leB 8 (sumOf (lab96 x)).a ++ (leB 8 (sumOf (lab96 x)).b ++ (leB 8 (sumOf (lab96 x)).c ++ leB 8 (sumOf (lab96 x)).d))) := by
    unfold encB four32; simp only [List.append_assoc]
  rw [e]
  have hl := lab96_length x
  generalize lab96 x = l at h1 h2 h3 h4 hl
  generalize sumOf l = s at h1 h2 h3 h4
  unfold sealOf
  rw [fld_skip l _ 96 _ (by omega), fld_skip l _ 104 _ (by omega), fld_skip l _ 112 _ (by omega), fld_skip l _ 120 _ (by omega), hl]
  simp only [Nat.reduceSub]
  repeat (first | rw [fld_head _ _ 8 (leB_length _ _)] | rw [fld_only _ 8 (leB_length _ _)] | (rw [fld_skip (leB 8 _) _ _ _ (by rw [leB_length]; omega)]; simp only [leB_length, Nat.reduceSub]))
  rw [bw_eight _ h1, bw_eight _ h2, bw_eight _ h3, bw_eight _ h4]
theorem dec_len (xs : List Int) (h : xs.length ≠ 128) : dec xs = (Lab.none, 1) := by unfold dec; rw [if_pos h]
theorem dec_enc (x : Lab) (hm : x.may = true) (hok : x.ok) : dec (encB x) = (x, 0) := by
  have h := labOf_enc x (Lab.fits_of hm) hok
  unfold dec
  rw [if_neg (by rw [encB_length]; omega), if_neg (by rw [encB_take, sealOf_enc]; simp), h, if_pos ⟨hm, rfl⟩]
theorem bw_inj : ∀ {l m : List Int}, l.length = m.length → Bytes l → Bytes m → bw l = bw m → l = m
  | [], [], _, _, _, _ => rfl
  | [], _ :: _, h, _, _, _ => by simp at h
  | _ :: _, [], h, _, _, _ => by simp at h
  | a :: l, b :: m, h, hl, hm, e => by
    have ha := hl a (by simp)
    have hb := hm b (by simp)
    have e' : a + 256 * bw l = b + 256 * bw m := e
    have e1 : bw l = bw m := by omega
    rw [show a = b by omega, bw_inj (by simpa using h) (fun x hx => hl x (by simp [hx])) (fun x hx => hm x (by simp [hx])) e1]
theorem bw_bd : ∀ (l : List Int), Bytes l → 0 ≤ bw l ∧ bw l < p256 l.length
  | [], _ => by show (0 : Int) ≤ 0 ∧ (0 : Int) < 1; omega
  | a :: l, h => by
    have ha := h a (by simp)
    have hl := bw_bd l (fun x hx => h x (by simp [hx]))
    show 0 ≤ a + 256 * bw l ∧ a + 256 * bw l < 256 * p256 l.length
    omega
theorem bw8 {l : List Int} (hl : l.length = 8) (h : Bytes l) : 0 ≤ bw l ∧ bw l < 18446744073709551616 := by
  have := bw_bd l h
  rw [hl] at this
  have e : p256 8 = 18446744073709551616 := by decide
  omega
theorem fld_inj {xs ys : List Int} (hx : Bytes xs) (hy : Bytes ys) (o : Nat) (h1 : o + 8 ≤ xs.length) (h2 : o + 8 ≤ ys.length) (h : fld xs o 8 = fld ys o 8) : (xs.drop o).take 8 = (ys.drop o).take 8 := by
  have bx : Bytes ((xs.drop o).take 8) := fun v hv => hx v (List.mem_of_mem_drop (List.mem_of_mem_take hv))
  have by_ : Bytes ((ys.drop o).take 8) := fun v hv => hy v (List.mem_of_mem_drop (List.mem_of_mem_take hv))
  have lx : ((xs.drop o).take 8).length = 8 := by rw [List.length_take, List.length_drop]; omega
  have ly : ((ys.drop o).take 8).length = 8 := by rw [List.length_take, List.length_drop]; omega
  have b1 := bw8 lx bx
  have b2 := bw8 ly by_
  exact bw_inj (by rw [lx, ly]) bx by_ (wrap_eq h (by omega) (by omega))
theorem drop_parts (l : List Int) (hl : l.length = 128) : l.drop 96 = (l.drop 96).take 8 ++ ((l.drop 104).take 8 ++ ((l.drop 112).take 8 ++ (l.drop 120).take 8)) := by
  have step : ∀ o, o + 8 ≤ 128 → l.drop o = (l.drop o).take 8 ++ l.drop (o + 8) := fun o _ => by
    conv => lhs; rw [← List.take_append_drop 8 (l.drop o)]
    rw [List.drop_drop]
  rw [step 96 (by omega), step 104 (by omega), step 112 (by omega), step 120 (by omega), List.drop_eq_nil_of_le (by omega : l.length ≤ 120 + 8)]
  simp only [List.append_nil]
  have t : ∀ (a b : List Int), a.length = 8 → (a ++ b).take 8 = a := fun a b h => by rw [List.take_append_of_le_length (by omega), List.take_of_length_le (by omega)]
  rw [t _ _ (by rw [List.length_take, List.length_drop]; omega), t _ _ (by rw [List.length_take, List.length_drop]; omega), t _ _ (by rw [List.length_take, List.length_drop]; omega)]
  congr 1
  rw [List.take_take]
  rfl
theorem seal_inj {xs ys : List Int} (lx : xs.length = 128) (ly : ys.length = 128) (hx : Bytes xs) (hy : Bytes ys) (h : sealOf xs = sealOf ys) : xs.drop 96 = ys.drop 96 := by
  unfold sealOf at h
  injection h with h1 h2 h3 h4
  rw [drop_parts xs lx, drop_parts ys ly, fld_inj hx hy 96 (by omega) (by omega) h1, fld_inj hx hy 104 (by omega) (by omega) h2, fld_inj hx hy 112 (by omega) (by omega) h3, fld_inj hx hy 120 (by omega) (by omega) h4]
theorem encB_Bytes (x : Lab) : Bytes (encB x) := encB_bytes x
/-- One word changed: the sums do not agree. -/
theorem dec_touched (x : Lab) (ys : List Int) (ly : ys.length = 128) (hy : Bytes ys) (k : Nat) (hk : k < 32) (hlo : ∀ j, j < 4 * k → (encB x).getD j 0 = ys.getD j 0) (hhi : ∀ j, 4 * k + 4 ≤ j → (encB x).getD j 0 = ys.getD j 0) (hne : encB x ≠ ys) : dec ys = (Lab.none, 11) := by
  have lx := encB_length x
  have hs : sumOf (ys.take 96) ≠ sealOf ys := by
    intro h
    by_cases h24 : k < 24
    · have hd : (encB x).drop 96 = ys.drop 96 := drop_of_getD 96 (by rw [lx, ly]) (fun j hj => hhi j (by omega))
      rw [← sealOf_drop _ _ hd, sealOf_enc, ← encB_take] at h
      have hxB : Bytes ((encB x).take 96) := fun v hv => encB_Bytes x v (List.mem_of_mem_take hv)
      have hyB : Bytes (ys.take 96) := fun v hv => hy v (List.mem_of_mem_take hv)
      have g : ∀ (l : List Int) (j : Nat), j < 96 → (l.take 96).getD j 0 = l.getD j 0 := fun l j hj => by simp [List.getD, hj]
      have g' : ∀ (l : List Int) (j : Nat), 96 ≤ j → (l.take 96).getD j 0 = 0 := fun l j hj => by simp [List.getD, List.getElem?_take, Nat.not_lt.2 hj]
      have := changed_a (X := (encB x).take 96) (Y := ys.take 96) (by simp [lx, ly]) (by rw [List.length_take, lx]; rfl) hxB hyB k (by rw [List.length_take, lx]; omega) (fun j hj => by rw [g _ _ (by omega), g _ _ (by omega)]; exact hlo j hj) (fun j hj => by
        by_cases h96 : j < 96
        · rw [g _ _ h96, g _ _ h96]; exact hhi j hj
        · rw [g' _ _ (by omega), g' _ _ (by omega)]) (congrArg Four.a h).symm
      apply hne
      rw [← List.take_append_drop 96 (encB x), ← List.take_append_drop 96 ys, this, hd]
    · have ht : (encB x).take 96 = ys.take 96 := take_of_getD 96 (by rw [lx, ly]) (fun j hj => hlo j (by omega))
      rw [← ht, encB_take, ← sealOf_enc] at h
      have hd := seal_inj lx ly (encB_Bytes x) hy h
      apply hne
      rw [← List.take_append_drop 96 (encB x), ← List.take_append_drop 96 ys, ht, hd]
  unfold dec
  rw [if_neg (by omega), if_pos hs]
end Go.Proofs.Yteidmdakglkkfaa
