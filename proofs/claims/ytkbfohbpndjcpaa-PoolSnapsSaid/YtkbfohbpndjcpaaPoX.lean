/- The walk of CommandOf. -/
import Derived.Test.YtkbfohbpndjcpaaPoW
namespace Go.Proofs.Ytkbfohbpndjcpaa
open Go.RowKit
set_option linter.unusedVariables false
set_option maxRecDepth 100000
set_option linter.unusedSimpArgs false

structure Od where
  kind : Int
  name : Int
  other : Int
  off : Int
  count : Int
  data : List Int
instance : Inhabited Od := ⟨⟨0, 0, 0, 0, 0, []⟩⟩
def odC (o : Od) : List Value := [.int .i64 o.kind, .int .i64 o.name, .int .i64 o.other, .int .i64 o.off, .int .i64 o.count]
def odL : Lay Od := Lay.map (Lay.pair (Lay.flat 5 (by decide) odC (fun _ => rfl) (fun x v hv => by
  unfold odC at hv
  simp only [List.mem_cons, List.mem_nil_iff, or_false] at hv
  rcases hv with rfl | rfl | rfl | rfl | rfl <;> rfl)) (Lay.int .u8).slice) (fun s => (s, s.data))
def kindP (o : Od) (ks : List Nat) : Nat := ks.getD (o.kind % (ks.length : Int)).toNat 0
def commandP (o : Od) (ks : List Nat) : Cm := ⟨kindP o ks, objN o.name, snapN o.other, (o.off % 1100).toNat, (o.count % 1100).toNat, if kindP o ks = 2 then blockP o.data 400 else []⟩
def commandsP (os : List Od) (n : Nat) (ks : List Nat) : List Cm := (os.take n).map fun o => commandP o ks
theorem commandsP_length (os : List Od) (n : Nat) (ks : List Nat) : (commandsP os n ks).length = min n os.length := by unfold commandsP; rw [List.length_map, List.length_take]
theorem commandsP_succ (os : List Od) (i : Nat) (ks : List Nat) (o : Od) (h : os[i]? = some o) : commandsP os (i + 1) ks = commandsP os i ks ++ [commandP o ks] := by
  have h' := List.getElem?_eq_some_iff.1 h
  unfold commandsP
  rw [List.take_succ_eq_append_getElem h'.1, h'.2, List.map_append]; rfl
theorem objN_len (n : Int) : (objN n).length ≤ 100 := by
  have h0 := Int.emod_nonneg n (b := 5) (by decide)
  have h1 := Int.emod_lt_of_pos n (b := 5) (by decide)
  have hk : n % 5 = 0 ∨ n % 5 = 1 ∨ n % 5 = 2 ∨ n % 5 = 3 ∨ n % 5 = 4 := by omega
  unfold objN
  rcases hk with hk | hk | hk | hk | hk <;> rw [hk] <;> decide
theorem snapN_len (n : Int) : (snapN n).length ≤ 100 := by
  have h0 := Int.emod_nonneg n (b := 4) (by decide)
  have h1 := Int.emod_lt_of_pos n (b := 4) (by decide)
  have hk : n % 4 = 0 ∨ n % 4 = 1 ∨ n % 4 = 2 ∨ n % 4 = 3 := by omega
  unfold snapN
  rcases hk with hk | hk | hk | hk <;> rw [hk] <;> decide
theorem commandP_ok (o : Od) (ks : List Nat) (h0 : 0 < ks.length) (h : ∀ k ∈ ks, 1 ≤ k ∧ k ≤ 12) : (commandP o ks).Ok := by
  have hk : kindP o ks ∈ ks := by
    unfold kindP
    have h1 := Int.emod_nonneg o.kind (b := (ks.length : Int)) (by omega)
    have h2 := Int.emod_lt_of_pos o.kind (b := (ks.length : Int)) (by omega)
    rw [List.getD_eq_getElem?_getD, List.getElem?_eq_getElem (by omega)]
    exact List.getElem_mem _
  have h3 := Int.emod_lt_of_pos o.off (b := 1100) (by decide)
  have h4 := Int.emod_lt_of_pos o.count (b := 1100) (by decide)
  refine ⟨(h _ hk).1, (h _ hk).2, ?_, ?_, fun e => ?_, objN_len _, snapN_len _⟩
  · show (o.off % 1100).toNat ≤ 2000; omega
  · show (o.count % 1100).toNat ≤ 2000; omega
  · have e' : kindP o ks = 2 := e
    show 1 ≤ (if kindP o ks = 2 then blockP o.data 400 else []).length ∧ (if kindP o ks = 2 then blockP o.data 400 else []).length ≤ 400
    rw [if_pos e']
    exact blockP_len _ _ (by decide)
theorem commandsP_ok (os : List Od) (n : Nat) (ks : List Nat) (h0 : 0 < ks.length) (h : ∀ k ∈ ks, 1 ≤ k ∧ k ≤ 12) : ∀ c ∈ commandsP os n ks, c.Ok := by
  intro c hc
  obtain ⟨o, _, rfl⟩ := List.mem_map.1 hc
  exact commandP_ok o ks h0 h
theorem set8_below {w0 w : World} (h : Below w0.heap.size w0 w) (g : Nat) (ha : w0.heap.size ≤ g) (v0 v1 v2 v3 v4 v5 v6 v7 : Value) : Below w0.heap.size w0 ((((((((w.setCell ⟨g, 0, none⟩ v0).setCell ⟨g, 1, none⟩ v1).setCell ⟨g, 2, none⟩ v2).setCell ⟨g, 3, none⟩ v3).setCell ⟨g, 4, none⟩ v4).setCell ⟨g, 5, none⟩ v5).setCell ⟨g, 6, none⟩ v6).setCell ⟨g, 7, none⟩ v7) := by
  have st : ∀ {w : World} (j : Nat) (v : Value), Below w0.heap.size w0 w → Below w0.heap.size w0 (w.setCell ⟨g, j, none⟩ v) := fun {w} j v h => (Mv.setCell (S := fun b => b = g) v rfl).toBelow h h.size (fun b hb e => by omega)
  exact st 7 v7 (st 6 v6 (st 5 v5 (st 4 v4 (st 3 v3 (st 2 v2 (st 1 v1 (st 0 v0 h)))))))
theorem set8_box {w : World} {g : Nat} {x0 x1 x2 x3 x4 x5 x6 x7 : Value} {t : TypeId} (h : Box w g #[x0, x1, x2, x3, x4, x5, x6, x7] t) (v0 v1 v2 v3 v4 v5 v6 v7 : Value) : Box ((((((((w.setCell ⟨g, 0, none⟩ v0).setCell ⟨g, 1, none⟩ v1).setCell ⟨g, 2, none⟩ v2).setCell ⟨g, 3, none⟩ v3).setCell ⟨g, 4, none⟩ v4).setCell ⟨g, 5, none⟩ v5).setCell ⟨g, 6, none⟩ v6).setCell ⟨g, 7, none⟩ v7) g #[v0, v1, v2, v3, v4, v5, v6, v7] t := by
  have t0 : Box _ g #[v0, x1, x2, x3, x4, x5, x6, x7] t := Box.set h 0 v0
  have t1 : Box _ g #[v0, v1, x2, x3, x4, x5, x6, x7] t := Box.set t0 1 v1
  have t2 : Box _ g #[v0, v1, v2, x3, x4, x5, x6, x7] t := Box.set t1 2 v2
  have t3 : Box _ g #[v0, v1, v2, v3, x4, x5, x6, x7] t := Box.set t2 3 v3
  have t4 : Box _ g #[v0, v1, v2, v3, v4, x5, x6, x7] t := Box.set t3 4 v4
  have t5 : Box _ g #[v0, v1, v2, v3, v4, v5, x6, x7] t := Box.set t4 5 v5
  have t6 : Box _ g #[v0, v1, v2, v3, v4, v5, v6, x7] t := Box.set t5 6 v6
  exact Box.set t6 7 v7
theorem newB_set {w w2 w3 : World} {a : Option Addr} {l c : Nat} {xs : List Int} {g : Nat} (h : NewB w w2 a l c xs) (hg : w2.grownBy w3 (some g)) (h1 : w.heap.size ≤ g) (hne : ∀ x, a = some x → x.block ≠ g) : NewB w w3 a l c xs := by
  refine ⟨?_, fun x hx => ⟨(h.new x hx).1, Nat.lt_of_lt_of_le (h.new x hx).2 hg.size⟩, h.below.grown hg h.below.size (fun k hk => by injection hk with hk; omega)⟩
  refine VRow.toRow (h.row.toV.keep (fun b o e _ hlt => hg.block b hlt (fun e' => ?_))) h.row.hwf
  injection e' with e'
  exact hne _ e e'
theorem newB_mono {w W w2 : World} {a : Option Addr} {l c : Nat} {xs : List Int} (h : NewB W w2 a l c xs) (hb : Below w.heap.size w W) : NewB w w2 a l c xs :=
  ⟨h.row, fun x hx => ⟨Nat.le_trans hb.size (h.new x hx).1, (h.new x hx).2⟩, hb.trans (h.below.mono hb.size)⟩
theorem grown_set (w : World) (g j : Nat) (v : Value) : w.grownBy (w.setCell ⟨g, j, none⟩ v) (some g) :=
  ⟨rfl, rfl, rfl, by simp [World.setCell], fun k _ hk => Below.heap_setCell _ _ _ _ (fun e => hk (by rw [e]))⟩
def odV (o : Od) (ad : Option Addr) (ld cd : Nat) : Array Value := #[.int .i64 o.kind, .int .i64 o.name, .int .i64 o.other, .int .i64 o.off, .int .i64 o.count, .slice ad ld cd]
set_option maxHeartbeats 8000000 in
theorem commandOfW (o : Od) (ad : Option Addr) (ld cd : Nat) (bk ok lk ck : Nat) (ks : List Nat) (w : World) (hd : Row .u8 w ad ld cd o.data) (hk : Row .i64 w (some ⟨bk, ok, none⟩) lk ck (ks.map (fun n : Nat => (n : Int)))) (h0 : 0 < lk) (h1 : lk ≤ 100) :
    Calls Try.prog 10 #[.agg (odV o ad ld cd), .slice (some ⟨bk, ok, none⟩) lk ck] w fun e w' => ∃ a' l' c', e = .returned (.agg (cmV (commandP o ks) a' l' c')) ∧ Hid (NewB w w' a' l' c' (commandP o ks).data) := by
  have hle := hk.hle
  have hmx := hk.hmax
  unfold maxLen at hmx
  have hkl : ks.length = lk := by have := hk.hlen; rwa [List.length_map] at this
  have hm0 := Int.emod_nonneg o.kind (b := (lk : Int)) (by omega)
  have hm1 := Int.emod_lt_of_pos o.kind (b := (lk : Int)) (by omega)
  obtain ⟨P, hP⟩ : ∃ P : Nat, o.kind % (lk : Int) = P := ⟨(o.kind % (lk : Int)).toNat, by omega⟩
  have hPl : P < lk := by omega
  obtain ⟨K, hK⟩ : ∃ K, Hid (kindP o ks = K) := ⟨_, rfl⟩
  have hcK : w.cell? ⟨bk, ok + P, none⟩ = some (.int .i64 (K : Int)) := by
    rcases hk.hat with h2 | ⟨b, off, e, hc⟩
    · omega
    · obtain ⟨rfl, rfl⟩ : b = bk ∧ off = ok := by simpa using e.symm
      rw [hc P hPl, ← hK.out]
      unfold kindP
      rw [hkl, hP]
      simp only [List.getD_eq_getElem?_getD, List.getElem?_map, Int.toNat_natCast]
      rw [List.getElem?_eq_getElem (by omega)]; rfl
  obtain ⟨N1, hN1⟩ : ∃ N1, Hid (objN o.name = N1) := ⟨_, rfl⟩
  obtain ⟨N2, hN2⟩ : ∃ N2, Hid (snapN o.other = N2) := ⟨_, rfl⟩
  obtain ⟨A, hA⟩ : ∃ A : Nat, Hid ((o.off % 1100).toNat = A) := ⟨_, rfl⟩
  obtain ⟨C, hC⟩ : ∃ C : Nat, Hid ((o.count % 1100).toNat = C) := ⟨_, rfl⟩
  have HP1 : Hid (∀ W, Calls Try.prog 15 #[.int .i64 o.kind, .int .i64 (lk : Int)] W fun e w' => e = .returned (.int .i64 (P : Int)) ∧ W = w') := fun W => by
    refine (picked o.kind (lk : Int) W (by omega) (by omega)).mono ?_
    rintro e w' ⟨r, hr, _, _, rfl, rfl⟩
    have := hr.out; rw [hP] at this; subst this; exact ⟨rfl, rfl⟩
  have HP2 : Hid (∀ W, Calls Try.prog 15 #[.int .i64 o.off, .int .i64 1100] W fun e w' => e = .returned (.int .i64 (A : Int)) ∧ W = w') := fun W => by
    refine (picked o.off 1100 W (by omega) (by omega)).mono ?_
    rintro e w' ⟨r, hr, h2, _, rfl, rfl⟩
    have := hr.out; have := hA.out; obtain rfl : r = (A : Int) := by omega
    exact ⟨rfl, rfl⟩
  have HP3 : Hid (∀ W, Calls Try.prog 15 #[.int .i64 o.count, .int .i64 1100] W fun e w' => e = .returned (.int .i64 (C : Int)) ∧ W = w') := fun W => by
    refine (picked o.count 1100 W (by omega) (by omega)).mono ?_
    rintro e w' ⟨r, hr, h2, _, rfl, rfl⟩
    have := hr.out; have := hC.out; obtain rfl : r = (C : Int) := by omega
    exact ⟨rfl, rfl⟩
  have HO : Hid (∀ W, Calls Try.prog 9 #[.int .i64 o.name] W fun e w' => e = .returned (encStr N1) ∧ Hid (Below W.heap.size W w')) := fun W => by rw [← hN1.out]; exact objectNameW _ W
  have HQ : Hid (∀ W, Calls Try.prog 16 #[.int .i64 o.other] W fun e w' => e = .returned (encStr N2) ∧ Hid (Below W.heap.size W w')) := fun W => by rw [← hN2.out]; exact snapNameW _ W
  have HD := Lib.hid hd
  have hbk : bk < w.heap.size := World.block_lt_of_cell? _ _ hcK
  have HCK := Lib.hid hcK
  have HKL := Lib.hid hkl
  obtain ⟨okind, oname, oother, ooff, ocount, odata⟩ := o
  simp only at HP1 HP2 HP3 HO HQ HD hP
  have hP0 : (0 : Int) ≤ (P : Int) := by omega
  have hPli : (P : Int) < (lk : Int) := by omega
  clear hd hk hm0 hm1 hP hcK hkl
  obtain ⟨W, hW⟩ : ∃ W, W = (w.alloc (.cells #[.int .i64 okind, .int .i64 oname, .int .i64 oother, .int .i64 ooff, .int .i64 ocount, .slice ad ld cd] 33)).alloc (.cells #[.int .i64 0, .string ⟨#[]⟩, .string ⟨#[]⟩, .int .i64 0, .int .i64 0, .int .i64 0, .int .i64 0, .slice none 0 0] 30) := ⟨_, rfl⟩
  have hB : Hid (Below w.heap.size w W) := by rw [hW]; exact Below_alloc2 _ _
  have hBox : Hid (Box W (w.heap.size + 1) #[.int .i64 0, .string ⟨#[]⟩, .string ⟨#[]⟩, .int .i64 0, .int .i64 0, .int .i64 0, .int .i64 0, .slice none 0 0] 30) := by rw [hW]; exact Box.new (by simp)
  have hBoc : Hid (Box W w.heap.size #[.int .i64 okind, .int .i64 oname, .int .i64 oother, .int .i64 ooff, .int .i64 ocount, .slice ad ld cd] 33) := by rw [hW]; exact Box.alloc (Box.new rfl) _
  have hsz : Hid (W.heap.size = w.heap.size + 2) := by rw [hW]; show _ = _; simp
  have HKS : Hid (∀ w', Below W.heap.size W w' → Below W.heap.size W w' ∧ w'.cell? ⟨w.heap.size, 0, none⟩ = some (.int .i64 okind) ∧ w'.cell? ⟨w.heap.size, 1, none⟩ = some (.int .i64 oname) ∧ w'.cell? ⟨w.heap.size, 2, none⟩ = some (.int .i64 oother) ∧ w'.cell? ⟨w.heap.size, 3, none⟩ = some (.int .i64 ooff) ∧ w'.cell? ⟨w.heap.size, 4, none⟩ = some (.int .i64 ocount) ∧ w'.cell? ⟨bk, ok + P, none⟩ = some (.int .i64 (K : Int))) := fun w' h => by
    have hb := hBoc.out.below h (by have := hsz.out; omega)
    exact ⟨h, hb.cell 0, hb.cell 1, hb.cell 2, hb.cell 3, hb.cell 4, (h.cell (p := ⟨bk, ok + P, none⟩) (by have := hsz.out; show bk < _; omega)).trans ((hB.out.cell (p := ⟨bk, ok + P, none⟩) hbk).trans HCK.out)⟩
  unfold odV
  go_enter Try.func10, Try.ntmps10
  go_wp2_with fail
  rw [← hW]
  clear hW
  go_upto_region 1 with fail
  go_cut [5] from 6 to 26 (fun v5 wx => ∃ g, v5 = .pointer (some ⟨g, 0, none⟩) ∧ Hid (Box wx g #[.int .i64 (K : Int), encStr N1, encStr N2, .int .i64 (A : Int), .int .i64 (C : Int), .int .i64 0, .int .i64 0, .slice none 0 0] 30) ∧ Hid (Below W.heap.size W wx) ∧ W.heap.size ≤ g)
  case first =>
    have HS0 := Lib.hid (HKS.out W.drew ((Below.refl _ _).drew))
    have hBA : Hid (Below W.heap.size W (W.alloc (.cells #[.int .i64 0, .string ⟨#[]⟩, .string ⟨#[]⟩, .int .i64 0, .int .i64 0, .int .i64 0, .int .i64 0, .slice none 0 0] 30)).drew) := (Below_alloc1 _).drew
    have HSA := Lib.hid (HKS.out _ hBA.out)
    have hbk2 : Hid (bk < W.heap.size ∧ w.heap.size < W.heap.size) := ⟨by have := hsz.out; omega, by have := hsz.out; omega⟩
    go_region_held3 (fun w' => Below W.heap.size W w' ∧ w'.cell? ⟨w.heap.size, 0, none⟩ = some (.int .i64 okind) ∧ w'.cell? ⟨w.heap.size, 1, none⟩ = some (.int .i64 oname) ∧ w'.cell? ⟨w.heap.size, 2, none⟩ = some (.int .i64 oother) ∧ w'.cell? ⟨w.heap.size, 3, none⟩ = some (.int .i64 ooff) ∧ w'.cell? ⟨w.heap.size, 4, none⟩ = some (.int .i64 ocount) ∧ w'.cell? ⟨bk, ok + P, none⟩ = some (.int .i64 (K : Int)))
      (first | with_reducible exact HS0.out | with_reducible exact HSA.out | with_reducible exact HKS.out _ hbS5.out | with_reducible exact HKS.out _ hbS6.out | with_reducible exact HKS.out _ (hbS5.out.alloc hbS5.out.size _) | with_reducible exact HKS.out _ (hbS6.out.alloc hbS6.out.size _) | with_reducible exact HKS.out _ (set8_below hbS6.out _ (Nat.le_refl _) _ _ _ _ _ _ _ _) | with_reducible exact HKS.out _ (set8_below hbS6.out _ hbS5.out.size _ _ _ _ _ _ _ _) | (go_keep; done))
      (first
        | (go_at_call 15; (first | (with_reducible refine (HP1.out _).mono ?_) | (with_reducible refine (HP2.out _).mono ?_) | (with_reducible refine (HP3.out _).mono ?_)); rintro e w' ⟨rfl, rfl⟩)
        | (go_at_call 9; (with_reducible refine (HO.out W.drew).mono ?_); rintro e w5 ⟨rfl, hb5⟩; have hbS5 : Hid (Below W.heap.size W w5) := ((Below.refl _ _).drew).trans hb5.out)
        | (go_at_call 9; (with_reducible refine (HO.out (W.alloc (.cells #[.int .i64 0, .string ⟨#[]⟩, .string ⟨#[]⟩, .int .i64 0, .int .i64 0, .int .i64 0, .int .i64 0, .slice none 0 0] 30)).drew).mono ?_); rintro e w5 ⟨rfl, hb5⟩; have hbS5 : Hid (Below W.heap.size W w5) := hBA.out.trans (hb5.out.mono (by simp)); have hBX5 : Hid (Box w5 W.heap.size #[.int .i64 0, .string ⟨#[]⟩, .string ⟨#[]⟩, .int .i64 0, .int .i64 0, .int .i64 0, .int .i64 0, .slice none 0 0] 30) := Box.below (w := (W.alloc (.cells #[.int .i64 0, .string ⟨#[]⟩, .string ⟨#[]⟩, .int .i64 0, .int .i64 0, .int .i64 0, .int .i64 0, .slice none 0 0] 30)).drew) (Box.drew (Box.new rfl)) hb5.out (by show W.heap.size < (W.alloc _).heap.size; simp); have za0 : w5.cell? ⟨W.heap.size, 0, none⟩ = some (.int .i64 0) := hBX5.out.cell 0; have ya0 : w5.frozen? ⟨W.heap.size, 0, none⟩ = false := hBX5.out.free 0; have za1 : w5.cell? ⟨W.heap.size, 1, none⟩ = some (.string ⟨#[]⟩) := hBX5.out.cell 1; have ya1 : w5.frozen? ⟨W.heap.size, 1, none⟩ = false := hBX5.out.free 1; have za2 : w5.cell? ⟨W.heap.size, 2, none⟩ = some (.string ⟨#[]⟩) := hBX5.out.cell 2; have ya2 : w5.frozen? ⟨W.heap.size, 2, none⟩ = false := hBX5.out.free 2; have za3 : w5.cell? ⟨W.heap.size, 3, none⟩ = some (.int .i64 0) := hBX5.out.cell 3; have ya3 : w5.frozen? ⟨W.heap.size, 3, none⟩ = false := hBX5.out.free 3; have za4 : w5.cell? ⟨W.heap.size, 4, none⟩ = some (.int .i64 0) := hBX5.out.cell 4; have ya4 : w5.frozen? ⟨W.heap.size, 4, none⟩ = false := hBX5.out.free 4; have za5 : w5.cell? ⟨W.heap.size, 5, none⟩ = some (.int .i64 0) := hBX5.out.cell 5; have ya5 : w5.frozen? ⟨W.heap.size, 5, none⟩ = false := hBX5.out.free 5; have za6 : w5.cell? ⟨W.heap.size, 6, none⟩ = some (.int .i64 0) := hBX5.out.cell 6; have ya6 : w5.frozen? ⟨W.heap.size, 6, none⟩ = false := hBX5.out.free 6; have za7 : w5.cell? ⟨W.heap.size, 7, none⟩ = some (.slice none 0 0) := hBX5.out.cell 7; have ya7 : w5.frozen? ⟨W.heap.size, 7, none⟩ = false := hBX5.out.free 7)
        | (go_at_call 16; (with_reducible refine (HQ.out w5).mono ?_); rintro e w6 ⟨rfl, hb6⟩; have hBX6 : Hid (Box w6 W.heap.size #[.int .i64 0, .string ⟨#[]⟩, .string ⟨#[]⟩, .int .i64 0, .int .i64 0, .int .i64 0, .int .i64 0, .slice none 0 0] 30) := Box.below hBX5.out hb6.out hBX5.out.lt; have hbS6 : Hid (Below W.heap.size W w6) := hbS5.out.trans (hb6.out.mono hbS5.out.size); have zb0 : w6.cell? ⟨W.heap.size, 0, none⟩ = some (.int .i64 0) := hBX6.out.cell 0; have yb0 : w6.frozen? ⟨W.heap.size, 0, none⟩ = false := hBX6.out.free 0; have zb1 : w6.cell? ⟨W.heap.size, 1, none⟩ = some (.string ⟨#[]⟩) := hBX6.out.cell 1; have yb1 : w6.frozen? ⟨W.heap.size, 1, none⟩ = false := hBX6.out.free 1; have zb2 : w6.cell? ⟨W.heap.size, 2, none⟩ = some (.string ⟨#[]⟩) := hBX6.out.cell 2; have yb2 : w6.frozen? ⟨W.heap.size, 2, none⟩ = false := hBX6.out.free 2; have zb3 : w6.cell? ⟨W.heap.size, 3, none⟩ = some (.int .i64 0) := hBX6.out.cell 3; have yb3 : w6.frozen? ⟨W.heap.size, 3, none⟩ = false := hBX6.out.free 3; have zb4 : w6.cell? ⟨W.heap.size, 4, none⟩ = some (.int .i64 0) := hBX6.out.cell 4; have yb4 : w6.frozen? ⟨W.heap.size, 4, none⟩ = false := hBX6.out.free 4; have zb5 : w6.cell? ⟨W.heap.size, 5, none⟩ = some (.int .i64 0) := hBX6.out.cell 5; have yb5 : w6.frozen? ⟨W.heap.size, 5, none⟩ = false := hBX6.out.free 5; have zb6 : w6.cell? ⟨W.heap.size, 6, none⟩ = some (.int .i64 0) := hBX6.out.cell 6; have yb6 : w6.frozen? ⟨W.heap.size, 6, none⟩ = false := hBX6.out.free 6; have zb7 : w6.cell? ⟨W.heap.size, 7, none⟩ = some (.slice none 0 0) := hBX6.out.cell 7; have yb7 : w6.frozen? ⟨W.heap.size, 7, none⟩ = false := hBX6.out.free 7)
        | (go_at_call 16; (with_reducible refine (HQ.out w5).mono ?_); rintro e w6 ⟨rfl, hb6⟩; have hbS6 : Hid (Below W.heap.size W w6) := hbS5.out.trans (hb6.out.mono hbS5.out.size))
        | (go_at_call 16; (with_reducible refine (HQ.out (w5.alloc (.cells #[.int .i64 0, .string ⟨#[]⟩, .string ⟨#[]⟩, .int .i64 0, .int .i64 0, .int .i64 0, .int .i64 0, .slice none 0 0] 30))).mono ?_); rintro e w6 ⟨rfl, hb6⟩; have hBX6 : Hid (Box w6 w5.heap.size #[.int .i64 0, .string ⟨#[]⟩, .string ⟨#[]⟩, .int .i64 0, .int .i64 0, .int .i64 0, .int .i64 0, .slice none 0 0] 30) := Box.below (w := w5.alloc (.cells #[.int .i64 0, .string ⟨#[]⟩, .string ⟨#[]⟩, .int .i64 0, .int .i64 0, .int .i64 0, .int .i64 0, .slice none 0 0] 30)) (Box.new rfl) hb6.out (by simp); have hbS6 : Hid (Below W.heap.size W w6) := hbS5.out.trans ((Below_alloc1 _).trans (hb6.out.mono (by simp))|>.mono hbS5.out.size); have zb0 : w6.cell? ⟨w5.heap.size, 0, none⟩ = some (.int .i64 0) := hBX6.out.cell 0; have yb0 : w6.frozen? ⟨w5.heap.size, 0, none⟩ = false := hBX6.out.free 0; have zb1 : w6.cell? ⟨w5.heap.size, 1, none⟩ = some (.string ⟨#[]⟩) := hBX6.out.cell 1; have yb1 : w6.frozen? ⟨w5.heap.size, 1, none⟩ = false := hBX6.out.free 1; have zb2 : w6.cell? ⟨w5.heap.size, 2, none⟩ = some (.string ⟨#[]⟩) := hBX6.out.cell 2; have yb2 : w6.frozen? ⟨w5.heap.size, 2, none⟩ = false := hBX6.out.free 2; have zb3 : w6.cell? ⟨w5.heap.size, 3, none⟩ = some (.int .i64 0) := hBX6.out.cell 3; have yb3 : w6.frozen? ⟨w5.heap.size, 3, none⟩ = false := hBX6.out.free 3; have zb4 : w6.cell? ⟨w5.heap.size, 4, none⟩ = some (.int .i64 0) := hBX6.out.cell 4; have yb4 : w6.frozen? ⟨w5.heap.size, 4, none⟩ = false := hBX6.out.free 4; have zb5 : w6.cell? ⟨w5.heap.size, 5, none⟩ = some (.int .i64 0) := hBX6.out.cell 5; have yb5 : w6.frozen? ⟨w5.heap.size, 5, none⟩ = false := hBX6.out.free 5; have zb6 : w6.cell? ⟨w5.heap.size, 6, none⟩ = some (.int .i64 0) := hBX6.out.cell 6; have yb6 : w6.frozen? ⟨w5.heap.size, 6, none⟩ = false := hBX6.out.free 6; have zb7 : w6.cell? ⟨w5.heap.size, 7, none⟩ = some (.slice none 0 0) := hBX6.out.cell 7; have yb7 : w6.frozen? ⟨w5.heap.size, 7, none⟩ = false := hBX6.out.free 7)
        | fail)
    all_goals
      go_wp2_with fail
      go_meet
      refine ⟨_, rfl, ?_, ?_, ?_⟩
      · show Box _ _ _ _
        first | (with_reducible exact Box.new rfl) | (with_reducible exact set8_box hBX6.out _ _ _ _ _ _ _ _)
      · show Below _ _ _
        first | (with_reducible exact hbS6.out.alloc hbS6.out.size _) | (with_reducible exact set8_below hbS6.out _ hbS5.out.size _ _ _ _ _ _ _ _) | (with_reducible exact set8_below hbS6.out _ (Nat.le_refl _) _ _ _ _ _ _ _ _)
      · first | (with_reducible exact hbS6.out.size) | (with_reducible exact hbS5.out.size) | (with_reducible exact Nat.le_refl _)
  case rest =>
    obtain ⟨g, rfl, hBX, hBW, hg⟩ := hcut
    refine ‹∀ (a : Act) (w : World), Code.wp _ _ _ a w → _› _ _ ?_
    have HBF : Hid (Box wc (w.heap.size + 1) #[.int .i64 0, .string ⟨#[]⟩, .string ⟨#[]⟩, .int .i64 0, .int .i64 0, .int .i64 0, .int .i64 0, .slice none 0 0] 30) := hBox.out.below hBW.out (by have := hsz.out; omega)
    have HBO : Hid (Box wc w.heap.size #[.int .i64 okind, .int .i64 oname, .int .i64 oother, .int .i64 ooff, .int .i64 ocount, .slice ad ld cd] 33) := hBoc.out.below hBW.out (by have := hsz.out; omega)
    have HBw : Hid (Below w.heap.size w wc) := hB.out.trans (hBW.out.mono hB.out.size)
    have HDc : Hid (Row .u8 wc ad ld cd odata) := HD.out.below HBw.out
    have c5 : wc.cell? ⟨w.heap.size, 5, none⟩ = some (.slice ad ld cd) := HBO.out.cell 5
    have c7 : wc.cell? ⟨g, 7, none⟩ = some (.slice none 0 0) := hBX.out.cell 7
    have f7 : wc.frozen? ⟨g, 7, none⟩ = false := hBX.out.free 7
    have hgn : g ≠ w.heap.size + 1 := by have := hsz.out; omega
    have hW2 := hsz.out
    by_cases hk2 : K = 2
    · subst hk2
      have c0 : wc.cell? ⟨g, 0, none⟩ = some (.int .i64 2) := hBX.out.cell 0
      have HBL := Lib.hid (blockW ad ld cd odata 400 wc HDc.out (by decide) (by decide))
      have hcm : Hid (commandP ⟨okind, oname, oother, ooff, ocount, odata⟩ ks = ⟨2, N1, N2, A, C, blockP odata 400⟩) := by
        show _ = _
        unfold commandP
        rw [hK.out, hN1.out, hN2.out, hA.out, hC.out]; rfl
      clear HD HCK HKL HP1 HP2 HP3 HO HQ HKS
      go_wp2_with (first
        | (go_at_call 14; refine HBL.out.mono ?_; rintro e w5 ⟨ag, lg, cg, rfl, hN⟩; have HX5 := Lib.hid (hBX.out.below hN.out.below hBX.out.lt); have HF5 := Lib.hid (HBF.out.below hN.out.below HBF.out.lt); have x7 : w5.cell? ⟨g, 7, none⟩ = some (.slice none 0 0) := HX5.out.cell 7; have e7 : w5.frozen? ⟨g, 7, none⟩ = false := HX5.out.free 7; have HXs : Hid (Box (w5.setCell ⟨g, 7, none⟩ (.slice ag lg cg)) g #[.int .i64 2, encStr N1, encStr N2, .int .i64 (A : Int), .int .i64 (C : Int), .int .i64 0, .int .i64 0, .slice ag lg cg] 30) := HX5.out.set 7 _; have HFs : Hid (Box (w5.setCell ⟨g, 7, none⟩ (.slice ag lg cg)) (w.heap.size + 1) #[.int .i64 0, .string ⟨#[]⟩, .string ⟨#[]⟩, .int .i64 0, .int .i64 0, .int .i64 0, .int .i64 0, .slice none 0 0] 30) := HF5.out.other ⟨g, 7, none⟩ hgn _)
        | (refine wpList_load_box rfl 30 (.tmp 5) rfl g rfl 30 _ HXs.out _ Try.underlying30 rfl (by kernel_rfl) ?_)
        | (refine wpList_store_box rfl 30 (.tmp 4) (.tmp 34) rfl (w.heap.size + 1) _ rfl rfl 30 _ HFs.out (by kernel_rfl) rfl (by rfl) ?_; intro w6 hb6 hg6; have HB6 := Lib.hid hb6; have HG6 := Lib.hid hg6; clear hb6 hg6)
        | fail)
      refine bodyPost_ret (results_boxP Try.results10 _ _ (w.heap.size + 1) _ _ HB6.out _ rfl Try.underlying30 rfl (by kernel_rfl)) rfl ?_
      refine ⟨ag, lg, cg, by rw [hcm.out]; rfl, ?_⟩
      rw [hcm.out]
      have hlt := hBX.out.lt
      have hlf := HBF.out.lt
      have hnw := hN.out.new
      exact newB_set (newB_set (newB_mono hN.out HBw.out) (grown_set w5 g 7 _) (by omega) (fun x hx => by have := (hnw x hx).1; omega)) HG6.out (by omega) (fun x hx => by have := (hnw x hx).1; omega)
    · have HK2 := Lib.hid hk2
      have hcm : Hid (commandP ⟨okind, oname, oother, ooff, ocount, odata⟩ ks = ⟨K, N1, N2, A, C, []⟩) := by
        show _ = _
        unfold commandP
        rw [hK.out, hN1.out, hN2.out, hA.out, hC.out, if_neg hk2]
      have c0 : wc.cell? ⟨g, 0, none⟩ = some (.int .i64 (K : Int)) := hBX.out.cell 0
      have hkq : ((K : Int) == 2) = false := by simp; omega
      clear HD HCK HKL HP1 HP2 HP3 HO HQ HKS hk2
      go_wp2_with (first
        | (refine wpList_load_box rfl 30 (.tmp 5) rfl g rfl 30 _ hBX.out _ Try.underlying30 rfl (by kernel_rfl) ?_)
        | (refine wpList_store_box rfl 30 (.tmp 4) (.tmp 34) rfl (w.heap.size + 1) _ rfl rfl 30 _ HBF.out (by kernel_rfl) rfl (by rfl) ?_; intro w6 hb6 hg6; have HB6 := Lib.hid hb6; have HG6 := Lib.hid hg6; clear hb6 hg6)
        | fail)
      refine bodyPost_ret (results_boxP Try.results10 _ _ (w.heap.size + 1) _ _ HB6.out _ rfl Try.underlying30 rfl (by kernel_rfl)) rfl ?_
      refine ⟨none, 0, 0, by rw [hcm.out]; rfl, ?_⟩
      rw [hcm.out]
      exact newB_set (newB_mono (NewB.nil wc) HBw.out) HG6.out (by omega) (fun x hx => by cases hx)
end Go.Proofs.Ytkbfohbpndjcpaa
