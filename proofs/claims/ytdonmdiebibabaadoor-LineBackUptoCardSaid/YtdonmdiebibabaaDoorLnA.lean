/- The walks of Tell's odd, slices.ContainsFunc, number. -/
import Derived.Test.YtdonmdiebibabaaDoorLnP
import Derived.Test.YtdonmdiebibabaaDoorLnSh
import Derived.Test.YtdonmdiebibabaaDoorLay2
import Derived.Test.YtdonmdiebibabaaDoorSameB
import Derived.Lib.LaidTab
import Derived.Lib.SmallJoins
namespace Go.Proofs.YtdonmdiebibabaaDoor
open Go.RowKit Go.Sort
set_option linter.unusedVariables false
set_option maxRecDepth 100000
set_option linter.unusedSimpArgs false

/-- What the library's functions ask of the world: the variables' blocks. -/
structure Env (w : World) : Prop where
  sh : w.ShapedOpen Tryd.prog
  tab : Lib.TabIs Tryd.prog w "internal/strconv.uint64pow10" .u64 Lib.pow10Tab
theorem var_below {w w' : World} {name : String} {cs : Array Value} (h : w.var? Tryd.prog name = some cs) (hb : Below w.heap.size w w') : w'.var? Tryd.prog name = some cs := by
  unfold World.var? at h ⊢
  cases hg : Tryd.prog.globalNamed name with
  | none => rw [hg] at h; cases h
  | some g =>
    rw [hg] at h
    simp only [Option.bind_some] at h ⊢
    have hl : g < w.heap.size := by
      rcases Nat.lt_or_ge g w.heap.size with h' | h'
      · exact h'
      · rw [Array.getElem?_eq_none h'] at h; cases h
    rw [hb.block g hl]; exact h
theorem shaped_below {w w' : World} (h : w.ShapedOpen Tryd.prog) (hb : Below w.heap.size w w') : w'.ShapedOpen Tryd.prog := by
  have lt_of_some : ∀ {i : Nat} {o : Obj}, w.heap[i]? = some o → i < w.heap.size := by
    intro i o ho
    rcases Nat.lt_or_ge i w.heap.size with h' | h'
    · exact h'
    · rw [Array.getElem?_eq_none h'] at ho; cases ho
  have hsh : ∀ b x, w.shape? b = some x → w'.shape? b = some x := fun b x hx => by
    have hl : b < w.heap.size := by
      rcases Nat.lt_or_ge b w.heap.size with h' | h'
      · exact h'
      · simp [World.shape?, Array.getElem?_eq_none h'] at hx
    unfold World.shape? at hx ⊢
    rw [hb.block b hl]; exact hx
  refine ⟨fun g zero t hg hz => ?_, fun k hk1 hk2 => ?_⟩
  · obtain ⟨cs, h1, h2, h3⟩ := h.1 g zero t hg hz
    exact ⟨cs, (hb.block g (lt_of_some h1)).trans h1, h2, fun hb' => Row.ok_of_shape (fun b x => hsh b x) (h3 hb')⟩
  · obtain ⟨o, o₀, h1, h2, h3⟩ := h.2 k hk1 hk2
    exact ⟨o, o₀, (hb.block k (lt_of_some h1)).trans h1, h2, h3⟩
theorem Env.below {w w' : World} (h : Env w) (hb : Below w.heap.size w w') : Env w' := ⟨shaped_below h.sh hb, var_below h.tab hb⟩

def strL : Lay Nm := Lay.flat 1 (by decide) (fun s => [encStr s]) (fun _ => rfl) (fun x v hv => by obtain rfl := List.mem_singleton.1 hv; rfl)
theorem nmAt {w : World} {F : Nat → Prop} {a : Option Addr} {len cap : Nat} {xs : List Nm} (h : SRow strL w F a len cap xs) (i : Nat) (hi : i < len) :
    ∃ b off x, a = some ⟨b, off, none⟩ ∧ xs[i]? = some x ∧ w.cell? ⟨b, off + i, none⟩ = some (encStr x) := by
  obtain ⟨b, off, vs, ha, _, hb, hx, hc⟩ := h.get i hi
  have hm := List.getElem?_eq_getElem (show i < xs.length by rw [h.1]; exact hi)
  have hv : vs = [encStr (xs[i]'(by rw [h.1]; exact hi))] := hx _ hm
  refine ⟨b, off, _, ha, hm, ?_⟩
  have := hc 0 (by decide)
  rw [hv] at this
  have e : i * strL.size + 0 = i := by show i * 1 + 0 = i; omega
  rw [e] at this
  exact this
def doneN : Nm := [100, 111, 110, 101]
def oddP (n : Nm) : Bool := !nameOk n || n == doneN
set_option maxHeartbeats 4000000 in
theorem oddW (n : Nm) (w : World) (h : n.length ≤ 100) : Calls Tryd.prog 16 #[encStr n] w fun e w' => e = .returned (.bool (oddP n)) ∧ Hid (Below w.heap.size w w') := by
  have HN := Lib.hid (nameW n w h)
  cases hk : nameOk n with
  | false =>
    have ho : Hid (oddP n = true) := by show _ = _; unfold oddP; rw [hk]; rfl
    have HN2 := HN.out
    rw [hk] at HN2
    have HN3 := Lib.hid HN2
    clear hk HN HN2
    go_enter Tryd.func16, Tryd.ntmps16
    go_wp2_with (go_at_call 17; refine HN3.out.mono ?_; rintro e w' ⟨rfl, hb⟩; have HB := Lib.hid hb; clear hb)
    go_ret
    exact ⟨by rw [ho.out]; rfl, HB.out⟩
  | true =>
    have HN2 := HN.out
    rw [hk] at HN2
    have HN3 := Lib.hid HN2
    by_cases hd : n = doneN
    · subst hd
      have ho : Hid (oddP doneN = true) := by show _ = _; unfold oddP; simp
      clear hk HN HN2
      unfold doneN at *
      go_enter Tryd.func16, Tryd.ntmps16
      go_wp2_with (go_at_call 17; refine HN3.out.mono ?_; rintro e w' ⟨rfl, hb⟩; have HB := Lib.hid hb; clear hb)
      go_ret
      exact ⟨by rw [ho.out]; rfl, HB.out⟩
    · have ho : Hid (oddP n = false) := by show _ = _; unfold oddP; rw [hk]; simp [hd]
      clear hk HN HN2
      go_enter Tryd.func16, Tryd.ntmps16
      go_wp2_with (go_at_call 17; refine HN3.out.mono ?_; rintro e w' ⟨rfl, hb⟩; have HB := Lib.hid hb; clear hb)
      go_ret
      have hd' : (n == [100, 111, 110, 101]) = false := by unfold doneN at hd; simpa using hd
      exact ⟨by rw [ho.out, ← hd']; rfl, HB.out⟩
/-- Does something odd stand among the names? IndexFunc's answer. -/
def IdxOdd (xs : List Nm) (w : World) (e : Ending) (w' : World) : Prop := ∃ k : Int, Hid (decide (0 ≤ k) = xs.any oddP) ∧ -1 ≤ k ∧ e = .returned (.int .i64 k) ∧ Hid (Below w.heap.size w w')
set_option maxHeartbeats 4000000 in
theorem indexOdd (F : Nat → Prop) (a : Option Addr) (len cap : Nat) (xs : List Nm) (w : World) (ha : SRow strL w F a len cap xs) (hx : ∀ x ∈ xs, x.length ≤ 100) :
    Calls Tryd.prog 31 #[.slice a len cap, .func (.func 16) #[] #[]] w (IdxOdd xs w) := by
  have HA := Lib.hid ha
  have HX := Lib.hid hx
  have h1 := ha.hle
  have h2 := ha.hmax
  unfold maxLen at h2
  have HL : Hid (xs.length = len) := ha.1
  clear ha hx
  go_enter Tryd.func31, Tryd.ntmps31
  go_wp2_with fail
  go_loopw [8] (fun iv wr => ∃ i : Nat, i ≤ len ∧ iv = .int .i64 i ∧ Hid ((xs.take i).any oddP = false) ∧ Hid (Below w.heap.size w wr)) (fun iv _ => len - (intOf iv).toNat)
  case atStart => exact ⟨0, by omega, rfl, rfl, Below.refl _ _⟩
  case round =>
    obtain ⟨i, hi, rfl, hno, hB⟩ := hrel
    by_cases hlt : i < len
    · have il : (i : Int) < len := by omega
      obtain ⟨b, off, x, rfl, hxi, c0⟩ := nmAt (HA.out.below hB.out) i hlt
      have hxl : x.length ≤ 100 := HX.out x (List.mem_of_getElem? hxi)
      obtain ⟨h3, h4⟩ := List.getElem?_eq_some_iff.1 hxi
      have HO := Lib.hid (oddW x wr hxl)
      have hts : (xs.take (i + 1)).any oddP = oddP x := by
        rw [List.take_succ_eq_append_getElem h3, h4, List.any_append, hno.out]; simp
      cases ho : oddP x with
      | true =>
        have hall : Hid (xs.any oddP = true) := List.any_eq_true.2 ⟨x, List.mem_of_getElem? hxi, ho⟩
        have HO2 := HO.out
        rw [ho] at HO2
        have HO3 := Lib.hid HO2
        clear ho hts HO HO2 hno hxi h3 h4 hxl
        go_wp2_with (go_at_call 16; refine HO3.out.mono ?_; rintro e w2 ⟨rfl, hb⟩)
        go_ret
        exact ⟨(i : Int), by show decide _ = _; rw [hall.out]; exact decide_eq_true (by omega), by omega, rfl, hB.out.trans (hb.out.mono hB.out.size)⟩
      | false =>
        have HO2 := HO.out
        rw [ho] at HO2 hts
        have HO3 := Lib.hid HO2
        have HTS := Lib.hid hts
        clear ho hts HO HO2 hno hxi h3 h4 hxl
        go_wp2_with (go_at_call 16; refine HO3.out.mono ?_; rintro e w2 ⟨rfl, hb⟩)
        go_roundw
        case rel => exact ⟨i + 1, by omega, by go_num, HTS, hB.out.trans (hb.out.mono hB.out.size)⟩
        case measure => (simp [intOf]; try omega)
    · obtain rfl : i = len := by omega
      have hall : Hid (xs.any oddP = false) := by have := hno.out; rwa [List.take_of_length_le (by have := HL.out; omega)] at this
      go_wp2_with fail
      go_ret
      exact ⟨-1, by show decide _ = _; rw [hall.out]; rfl, by omega, rfl, hB⟩
set_option maxHeartbeats 4000000 in
theorem containsOdd (F : Nat → Prop) (a : Option Addr) (len cap : Nat) (xs : List Nm) (w : World) (ha : SRow strL w F a len cap xs) (hx : ∀ x ∈ xs, x.length ≤ 100) :
    Calls Tryd.prog 18 #[.slice a len cap, .func (.func 16) #[] #[]] w fun e w' => e = .returned (.bool (xs.any oddP)) ∧ Hid (Below w.heap.size w w') := by
  have HI := Lib.hid (indexOdd F a len cap xs w ha hx)
  clear ha hx
  go_enter Tryd.func18, Tryd.ntmps18
  go_wp2_with (go_at_call 31; refine HI.out.mono ?_; rintro e w' ⟨k, hk, hk1, rfl, hb⟩)
  go_ret
  exact ⟨by rw [← hk.out]; rfl, hb⟩

/-! number -/
theorem below_growN (w : World) (k : Nat) (os : Array Obj) : Below w.heap.size w (grow (w.drewN k) os) :=
  ⟨rfl, rfl, rfl, by simp [grow, World.drewN], fun j hj => by
    show ((w.drewN k).heap ++ os)[j]? = _
    rw [Array.getElem?_append, if_pos (by exact hj)]; rfl⟩
set_option maxHeartbeats 4000000 in
theorem numberItoa (n : Int) (w : World) (h0 : -9223372036854775808 ≤ n) (h1 : n ≤ 9223372036854775807) (hE : Env w) :
    Calls Tryd.prog 23 #[encStr (Lib.itoa n)] w fun e w' => e = .returned (.tuple #[.int .i64 n, .bool true]) ∧ Hid (Below w.heap.size w w') := by
  have HE := Lib.hid hE
  have HL := Lib.hid (itoa_len n h0 h1)
  have hA := strconv_Atoi_ok ⟨(Lib.itoa n).toArray⟩ (by have := itoa_len n h0 h1; show (Lib.itoa n).length ≤ _; omega) n (atoi_itoa n h0 h1) w
  have HA : Hid (Calls Tryd.prog 38 #[encStr (Lib.itoa n)] w fun e w' => e = .returned (.tuple #[.int .i64 n, .nilIface]) ∧ Hid (Below w.heap.size w w')) := hA.mono fun e w' ⟨h, hw⟩ => ⟨h, by
    rcases hw with rfl | ⟨t, rfl⟩
    · exact Below.refl _ _
    · exact Joins.below_bytesWorld _ w _ t (Nat.le_refl _)⟩
  have HI : Hid (∀ W, Env W → Calls Tryd.prog 19 #[.int .i64 n] W fun e w' => e = .returned (encStr (Lib.itoa n)) ∧ Hid (Below W.heap.size W w')) := fun W hE => (strconv_Itoa n h0 h1 W hE.tab).mono fun e w' ⟨h, k, os, hw⟩ => ⟨h, by
    subst hw
    exact below_growN W k os⟩
  obtain ⟨s, hs⟩ : ∃ s, Hid (Lib.itoa n = s) := ⟨_, rfl⟩
  rw [hs.out] at HA HI ⊢
  clear hA hE
  go_enter Tryd.func23, Tryd.ntmps23
  go_wp2_with (first
    | (go_at_call 38; refine HA.out.mono ?_; rintro e w1 ⟨rfl, hb1⟩; have HE1 := Lib.hid (HE.out.below hb1.out))
    | (go_at_call 19; refine (HI.out w1 HE1.out).mono ?_; rintro e w2 ⟨rfl, hb2⟩)
    | fail)
  exact bodyPost_ret (results_tmp2 Tryd.results23 _ _ _) rfl ⟨rfl, hb1.out.trans (hb2.out.mono hb1.out.size)⟩
end Go.Proofs.YtdonmdiebibabaaDoor
