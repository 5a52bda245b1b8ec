/- The drive laws' own functions: gets. -/
import Derived.Test.YteidmdakglkkfaaDrA
namespace Go.Proofs.Yteidmdakglkkfaa
open Go.RowKit
set_option linter.unusedVariables false
set_option maxRecDepth 100000

/-- A list of jobs that one reads: its data lie in blocks of bytes. -/
def JRow (w : World) (a : Option Addr) (len cap : Nat) (js : List JobV) : Prop := ∃ uss : List (List Value), VRow w 4 a len cap uss.flatten ∧ Pt jobL w (Kind w 5) js uss ∧ js.length = len
theorem JRow.below {w w' : World} {a : Option Addr} {len cap : Nat} {js : List JobV} (h : JRow w a len cap js) (hb : Below w.heap.size w w') : JRow w' a len cap js := by
  obtain ⟨uss, h1, h2, h3⟩ := h
  exact ⟨uss, h1.below hb, h2.keep (fun b hk => (Keeps.below [5] hb).kind (by simp) hk) (fun b hk hlt => hb.block b hlt), h3⟩
theorem SOwn.jrow {w : World} {base : Nat} {e : TypeId} {a : Option Addr} {len cap : Nat} {js : List JobV} (h : SOwn jobL w base e (Kind w 5) a len cap js) : JRow w a len cap js := by
  obtain ⟨hl, vss, F, ho, hp, hF⟩ := h
  exact ⟨vss, ho.row, hp.keep (fun b hb => (hF b hb).1) (fun _ _ _ => rfl), hl⟩
theorem JRow.srow {w : World} {a : Option Addr} {len cap : Nat} {js : List JobV} (h : JRow w a len cap js) : SRow jobL w (fun _ => True) a len cap js := by
  obtain ⟨uss, h1, h2, h3⟩ := h
  exact ⟨h3, fun _ _ _ => trivial, uss, h1, h2.keep (fun _ _ => trivial) (fun _ _ _ => rfl)⟩
def getJ (i : Nat) : JobV := ⟨2, i, 0, none⟩
def clean (s : DS) : Prop := s.dead = false ∧ ∀ i, (s.plate.getD i default).broken = false
def dataD (s : DS) (i : Nat) : List Int := (lookD s i).2.getD []
theorem lookD_clean {s : DS} (h : clean s) (i : Nat) : lookD s i = (0, some (dataD s i)) := by
  have hb := h.2 i
  unfold dataD
  unfold lookD
  split
  · rfl
  · rw [if_neg (by rw [hb]; decide)]
    split <;> rfl
theorem stepD_get {s : DS} (h : s.dead = false) (i : Nat) : stepD s (getJ i) = (lookD s i, s) := by
  unfold stepD
  rw [if_neg (by rw [h]; simp), if_neg (show ¬ (getJ i).kind = 1 from (by decide : ¬ (2 : Int) = 1)), if_pos (show (getJ i).kind = 2 from rfl)]
  rfl
theorem runS_gets {s : DS} (h : s.dead = false) : ∀ l : List Nat, runS s (l.map getJ) = s
  | [] => rfl
  | i :: l => by
    rw [List.map_cons, runS_cons, stepD_get h]
    exact runS_gets h l
theorem runR_gets {s : DS} (h : s.dead = false) : ∀ l : List Nat, runR s (l.map getJ) = l.map (lookD s)
  | [] => rfl
  | i :: l => by
    show (stepD s (getJ i)).1 :: runR (stepD s (getJ i)).2 (l.map getJ) = _
    rw [stepD_get h, runR_gets h l]; rfl
def getsJ (n : Nat) : List JobV := (List.range n).map getJ
theorem getsJ_succ (n : Nat) : getsJ (n + 1) = getsJ n ++ [getJ n] := by simp [getsJ, List.range_succ]
theorem getJ_ok {i : Nat} (h : i < 8) : (getJ i).ok := ⟨(by decide : (1 : Int) ≤ 2), (by decide : (2 : Int) ≤ 8), h, fun h => by
  rcases h with h | h
  · exact absurd (show (2 : Int) = 1 from h) (by decide)
  · exact absurd (show (2 : Int) = 6 from h) (by decide)⟩
theorem runR_at (js : List JobV) (h : (runS DS.new js).dead = false) (i : Nat) (hi : i < 8) : (runR DS.new (js ++ getsJ 8))[js.length + i]? = some (lookD (runS DS.new js) i) := by
  rw [runR_append, List.getElem?_append_right (by rw [runR_length]; omega), runR_length, Nat.add_sub_cancel_left]
  unfold getsJ
  rw [runR_gets h, List.getElem?_map, List.getElem?_range hi]; rfl
def viewN (s : DS) (n : Nat) : List (List Int) := (List.range n).map (dataD s)
theorem viewN_succ (s : DS) (n : Nat) : viewN s (n + 1) = viewN s n ++ [dataD s n] := by simp [viewN, List.range_succ]
theorem info_bytes : (Try.prog.info? 59).map (fun i => (i.zero, i.size, i.bytes)) = some (some (.slice none 0 0), 1, 24) := by kernel_rfl
def Gotten (X : List (List Int)) (w : World) (e : Ending) (w' : World) : Prop := ∃ ao co, e = .returned (.tuple #[.slice ao 8 co, .bool true]) ∧ SOwn (Lay.int .u8).slice w' w.heap.size 59 (Kind w' 5) ao 8 co X ∧ Below w.heap.size w w'
set_option maxHeartbeats 4000000 in
theorem getsD (a : Option Addr) (len cap : Nat) (js : List JobV) (w : World) (h : JRow w a len cap js) (hlen : len ≤ 290) (hok : ∀ j ∈ js, j.ok) (hcl : clean (runS DS.new js)) :
    Calls Try.prog 31 #[.slice a len cap] w (Gotten (viewN (runS DS.new js) 8) w) := by
  obtain ⟨B, hB⟩ : ∃ B, Hid (w.heap.size = B) := ⟨_, rfl⟩
  obtain ⟨uss, hv, hp, hjl⟩ := h
  have hle := hv.hle
  have hmx := hv.hmax
  have HV := Lib.hid hv
  have HP := Lib.hid hp
  have HOK := Lib.hid hok
  have HCL := Lib.hid hcl
  clear hv hp hok hcl
  go_enter Try.func31, Try.ntmps31
  go_wp2_with (at_builtin; refine wpList_append_data (L := jobL) rfl (.const (.slice none 0 0)) (.tmp 11) 75 rfl B 78 _ 48 Try.underlying75 info_job rfl (Kind w 5) none 0 0 [] rfl (SOwn.nil ..) a len cap js uss rfl HV.out (Kind w 5) HP.out hjl (fun b hb => ⟨hb, hb.lt, by simp [Value.ownBlock]⟩) (by unfold maxLen; omega) (by omega) (Nat.le_of_eq hB.out.symm) ?_)
  intro a1 c1 w1 hown1 hg1
  have LB : Below w.heap.size w w1 := (SOwn.nil jobL w B 78 (Kind w 5)).grown (Below.refl _ _) (Nat.le_of_eq hB.out) (Nat.le_refl _) hg1
  have O1 : Hid (SOwn jobL w1 B 78 (Kind w1 5) a1 len c1 js) := hown1.mono (Nat.le_refl _) (fun b hb => (Keeps.below [5] LB).kind (by simp) hb)
  have L1 : Hid (Below B w w1) := by show Below _ _ _; rw [← hB.out]; exact LB
  clear hown1 hg1 LB HV HP
  go_wp2_with fail
  go_loopw [4, 5] (fun ov iv wr => ∃ (i : Nat) (ao : Option Addr) (co : Nat), i ≤ 8 ∧ iv = .int .i64 i ∧ ov = .slice ao (len + i) co ∧ Hid (SOwn jobL wr B 78 (Kind wr 5) ao (len + i) co (js ++ getsJ i)) ∧ Hid (Below B w wr)) (fun _ iv _ => 8 - (intOf iv).toNat)
  case atStart => exact ⟨0, a1, c1, by omega, rfl, rfl, by rw [show getsJ 0 = [] from rfl, List.append_nil]; exact O1, L1⟩
  case round =>
    obtain ⟨i, ao, co, hi, rfl, rfl, hO, hL⟩ := hrel
    have hBr : B ≤ wr.heap.size := by have := hL.out.size; have := hB.out; omega
    by_cases hlt : i < 8
    · have i8 : (i : Int) < 8 := by omega
      go_wp2_with (at_builtin; refine wpList_append_one (L := jobL) (wr := wr) rfl (.tmp 17) (.tmp 20) 75 rfl B 78 _ 48 Try.underlying75 info_job rfl (Kind wr 5) ao (len + i) co _ rfl hO.out #[.int .i64 2, .int .i64 (i : Int), .int .i64 0, .slice none 0 0] (getJ i) rfl (Kind wr 5) ⟨_, _, _, rfl, .inl ⟨rfl, rfl, rfl, rfl⟩⟩ (fun b hb => ⟨hb, hb.lt, fun e => absurd (hb.ne (hO.out.kind b e)) (by decide)⟩) (by unfold maxLen; omega) (by omega) hBr ?_)
      intro a5 c5 w5 hown5 hg5
      have K5 : ∀ ts : List TypeId, 78 ∉ ts → Keeps ts wr w5 := fun ts hts => Keeps.grown hg5 (fun k hk t ht hkk => hts (by rw [← hkk.ne (hO.out.kind k hk)]; exact ht))
      have L5 := Lib.hid (hO.out.grown hL.out (Nat.le_refl _) hBr hg5)
      have O5 := Lib.hid (hown5.mono (Nat.le_refl _) (fun b hb => (K5 [5] (by decide)).kind (by simp) hb))
      clear K5 hown5 hg5 hO hL
      go_wp2_with fail
      go_roundw
      case rel => exact ⟨i + 1, a5, c5, by omega, by go_num, by rw [Nat.add_assoc], by have h := O5.out; rw [← getsJ_succ] at h; exact h, L5⟩
      case measure => simp [intOf]; omega
    · obtain rfl : i = 8 := by omega
      have hBr2 := hBr
      have hal : (js ++ getsJ 8).length = len + 8 := hO.out.1
      go_wp2_with fail
      refine (playD ao (len + 8) co (js ++ getsJ 8) wr hO.out.sRow (by omega) (fun j hj => by
        rcases List.mem_append.1 hj with h | h
        · exact HOK.out j h
        · simp only [getsJ, List.mem_map, List.mem_range] at h
          obtain ⟨i, hi, rfl⟩ := h
          exact getJ_ok hi)).mono ?_
      rintro e w2 ⟨ar, cr, rfl, hR, hb2⟩
      have L2 := Lib.hid (hL.out.trans (hb2.mono hBr))
      have HR := Lib.hid (hR.mono hBr (fun _ h => h))
      have hmr := hR.hmax
      have hlr := hR.hle
      unfold maxLen at hmr
      clear hR hb2 hO hL
      go_wp2_with fail
      go_loopw [8, 9] (fun ov iv wx => ∃ (i : Nat) (av : Option Addr) (cv : Nat), i ≤ 8 ∧ iv = .int .i64 i ∧ ov = .slice av i cv ∧ Hid (SOwn (Lay.int .u8).slice wx B 59 (Kind wx 5) av i cv (viewN (runS DS.new js) i)) ∧ Hid (SOwn repL wx B 90 (Kind wx 5) ar (len + 8) cr (runR DS.new (js ++ getsJ 8))) ∧ Hid (Below B w wx)) (fun _ iv _ => 8 - (intOf iv).toNat)
      case atStart => exact ⟨0, none, 0, by omega, rfl, rfl, SOwn.nil .., HR, L2⟩
      case round =>
        obtain ⟨i, av, cv, hi, rfl, rfl, hV, hR, hL⟩ := hrel
        have hBx : B ≤ wr.heap.size := by have := hL.out.size; have := hB.out; omega
        by_cases hlt : i < 8
        · obtain ⟨gr, vs, rfl, hBg, hgl, ⟨x, hx, hxa⟩, hc⟩ := hR.out.get (len + i) (by omega)
          have hx2 := runR_at js HCL.out.1 i hlt
          rw [hjl, hx, lookD_clean HCL.out] at hx2
          obtain rfl : x = (0, some (dataD (runS DS.new js) i)) := by injection hx2
          obtain ⟨ax, lx, cx, rfl, hdat⟩ := hxa
          obtain ⟨rfl, hd128, hrow⟩ : lx = 128 ∧ (dataD (runS DS.new js) i).length = 128 ∧ SRow (Lay.int .u8) wr (Kind wr 5) ax lx cx (dataD (runS DS.new js) i) := by
            rcases hdat with ⟨h, _⟩ | ⟨d, h, h1, h2, h3⟩
            · cases h
            · injection h with h; subst h; exact ⟨h1, h2, h3⟩
          have i8 : (i : Int) < 8 := by omega
          have s1 : IntKind.i64.wrap ((len : Int) + (i : Int)) = ((len + i : Nat) : Int) := by rw [IntWalk.i64_in _ (by omega)]; omega
          have s2 : (0 : Int) ≤ ((len + i : Nat) : Int) := by omega
          have s3 : ((len + i : Nat) : Int) < ((len + 8 : Nat) : Int) := by omega
          have e0 : wr.cell? ⟨gr, (len + i) * 2, none⟩ = some (.int .i64 0) := hc 0 (by decide)
          have e1 : wr.cell? ⟨gr, (len + i) * 2 + 1, none⟩ = some (.slice ax 128 cx) := hc 1 (by decide)
          have HRW := Lib.hid hrow
          clear hc hdat hrow hx hx2
          obtain ⟨W1, hW1⟩ : ∃ W, W = wr.alloc (.cells #[.int .i64 0, .slice ax 128 cx] 90) := ⟨_, rfl⟩
          have LA : Below wr.heap.size wr W1 := by rw [hW1]; exact Below_alloc1 _
          have V1 := Lib.hid (hV.out.keeps (Keeps.below [5, 59] LA) (by simp) (by simp))
          have R1 := Lib.hid (hR.out.keeps (Keeps.below [5, 90] LA) (by simp) (by simp))
          have L1 := Lib.hid (hL.out.trans (LA.mono hBx))
          have X1 := Lib.hid (HRW.out.keep (G := Kind W1 5) (fun b hb => (Keeps.below [5] LA).kind (by simp) hb) (fun b _ hlt => LA.block b hlt))
          have hB1 : B ≤ W1.heap.size := by have := LA.size; omega
          have HW1 := Lib.hid hW1
          clear hW1 hV hR hL HR HRW LA
          go_wp2_with (at_builtin; refine wpList_append_one (L := (Lay.int .u8).slice) (wr := wr.alloc (.cells #[.int .i64 0, .slice ax 128 cx] 90)) rfl (.tmp 56) (.tmp 59) 70 rfl B 59 _ 24 Try.underlying70 info_bytes rfl (Kind W1 5) av i cv _ rfl (by rw [← HW1.out]; exact V1.out) #[.slice ax 128 cx] (dataD (runS DS.new js) i) (by simp [Act.eval]) (Kind W1 5) (by rw [← HW1.out]; exact ⟨_, _, _, rfl, X1.out⟩) (fun b hb => ⟨hb, by rw [← HW1.out]; exact hb.lt, fun e => absurd (hb.ne (V1.out.kind b e)) (by decide)⟩) (by unfold maxLen; omega) (by omega) (by rw [← HW1.out]; exact hB1) ?_)
          intro a5 c5 w5 hown5 hg5
          rw [← HW1.out] at hg5
          have K5 : ∀ ts : List TypeId, 59 ∉ ts → Keeps ts W1 w5 := fun ts hts => Keeps.grown hg5 (fun k hk t ht hkk => hts (by rw [← hkk.ne (V1.out.kind k hk)]; exact ht))
          have L5 := Lib.hid (V1.out.grown L1.out (Nat.le_refl _) hB1 hg5)
          have O5 := Lib.hid (hown5.mono (Nat.le_refl _) (fun b hb => (K5 [5] (by decide)).kind (by simp) hb))
          have R5 := Lib.hid (R1.out.keeps (K5 [5, 90] (by decide)) (by simp) (by simp))
          clear K5 hown5 hg5 V1 R1 L1 X1 HW1 e0 e1
          go_wp2_with fail
          go_roundw
          case rel => exact ⟨i + 1, a5, c5, by omega, by go_num, rfl, by rw [viewN_succ]; exact O5, R5, L5⟩
          case measure => simp [intOf]; omega
        · obtain rfl : i = 8 := by omega
          go_wp2_with fail
          go_ret2
          exact ⟨_, _, rfl, by rw [hB.out]; exact hV.out, by rw [hB.out]; exact hL.out⟩
end Go.Proofs.Yteidmdakglkkfaa
