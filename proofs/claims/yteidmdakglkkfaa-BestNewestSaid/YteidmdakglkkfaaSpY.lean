/- The walk of Play. -/
import Derived.Test.YteidmdakglkkfaaSpD
import Derived.Test.YteidmdakglkkfaaOwnMake
namespace Go.Proofs.Yteidmdakglkkfaa
open Go.RowKit
set_option linter.unusedVariables false

theorem info_u8' : (Try.prog.info? 5).map (fun i => (i.zero, i.size, i.bytes)) = some (some (.int .u8 0), 1, 1) := by kernel_rfl
theorem info_found : (Try.prog.info? 34).map (fun i => (i.zero, i.size, i.bytes)) = some (some (.agg #[.int .i64 0, .int .i64 0, .int .i64 0]), 3, 24) := by kernel_rfl
theorem SOwn.apart {α : Type} {L : Lay α} {w : World} {base : Nat} {e : TypeId} {G : Nat → Prop} {a : Option Addr} {len cap : Nat} {xs : List α} (ho : SOwn L w base e G a len cap xs) {b : Nat} {vs : Array Value} {t : TypeId} (hb : Box w b vs t) (ht : t ≠ e) : some b ≠ (Value.slice a len cap).ownBlock := by
  intro he
  obtain ⟨_, vss, F, hown, _⟩ := ho
  rcases hown.form with ⟨rfl, _⟩ | ⟨g', cur, rfl, _, hh, _⟩
  · cases he
  · have e' : b = g' := by simpa [Value.ownBlock] using he
    exact (hb.ne hh ht) e'
theorem Spc.apart {B g gu : Nat} {w w' : World} {s : Sp} {a : Option Addr} {l c : Nat} (hs : Spc B w g gu s a l c) {α : Type} {L : Lay α} {base : Nat} {e : TypeId} {G : Nat → Prop} {ao : Option Addr} {len cap : Nat} {xs : List α} (ho : SOwn L w base e G ao len cap xs)
    (h1 : 99 ≠ e) (h2 : 5 ≠ e) (h3 : 106 ≠ e) (hg : w.grownBy w' (Value.slice ao len cap).ownBlock) : Spc B w' g gu s a l c :=
  ⟨hs.hb.grown hg (ho.apart hs.hb h1), hs.hu.grown hg (ho.apart hs.hu h2), hs.ho.flat_keep hg.size (fun g' cur hh => (hg.block g' (Array.getElem?_eq_some_iff.1 hh).1 (ho.apart hh h3)).trans hh), hs.h1, hs.h2⟩
theorem play_take (s : Sp) (ds : List Deed) (k : Nat) (h : k < ds.length) : s.play (ds.take (k + 1)) = (((s.play (ds.take k)).1.step ds[k]).1, (s.play (ds.take k)).2 ++ [((s.play (ds.take k)).1.step ds[k]).2]) := by
  rw [List.take_succ_eq_append_getElem h, play_snoc]
/-- What Play comes to. -/
def Plays (n : Nat) (ds : List Deed) (len : Nat) (w : World) (e : Ending) (w' : World) : Prop :=
  ∃ (a1 : Option Addr) (c1 : Nat) (a2 : Option Addr) (l2 c2 : Nat), e = .returned (.tuple #[.slice a1 len c1, .slice a2 l2 c2, .int .i64 0]) ∧
    Hid (SOwn foundL w' w.heap.size 34 (fun _ => False) a1 len c1 ((Sp.new n).play ds).2) ∧ Hid (SOwn recL w' w.heap.size 106 (fun _ => False) a2 l2 c2 ((Sp.new n).play ds).1.log) ∧ Below w.heap.size w w'
set_option maxRecDepth 100000 in
set_option maxHeartbeats 8000000 in
theorem sp_play (n : Nat) (F : Nat → Prop) (a : Option Addr) (len cap : Nat) (ds : List Deed) (w : World) (ha : SRow deedL w F a len cap ds) (hds : ∀ d ∈ ds, DeedOk d) (hn1 : 1 ≤ n) (hn : n ≤ 4096) (hl : len ≤ 300) :
    Calls Try.prog 17 #[.int .i64 n, .slice a len cap] w (Plays n ds len w) := by
  have hle := ha.hle
  have hmx := ha.hmax
  unfold maxLen at hmx
  have hdl : ds.length = len := ha.1
  have HDL := Lib.hid hdl
  have HDS := Lib.hid hds
  clear hdl hds
  have b1 : decide ((1 : Int) ≤ (n : Int)) = true := by simp; omega
  have b2 : decide ((n : Int) ≤ 4096) = true := by simp; omega
  have b3 : decide ((300 : Int) < (len : Int)) = false := by simp; omega
  go_enter Try.func17, Try.ntmps17
  go_wp2_with (first | (go_at_call 35; go_in) | (at_make; refine wpList_make_zeros rfl (.tmp 18) (.tmp 18) 59 rfl 5 (.int .u8 0) 1 Try.underlying59 info_u8' rfl .i64 .i64 (n : Int) (n : Int) n rfl rfl rfl rfl (by omega) (by unfold maxLen; omega) ?_))
  intro w1 hoz hb1
  have hu1 : Box w1 w.heap.size (us8 (Sp.new n).us) 5 := by
    have := hoz.box
    rwa [show (List.replicate n (Value.int .u8 0)).toArray = us8 (Sp.new n).us by simp [us8, Sp.new]] at this
  obtain ⟨gu, hgu⟩ : ∃ gu, Hid (w.heap.size = gu) := ⟨_, rfl⟩
  obtain ⟨B, hBB⟩ : ∃ B, Hid (w.heap.size = B) := ⟨_, rfl⟩
  rw [hgu.out] at hu1
  rw [hgu.out]
  have HU1 := Lib.hid hu1
  clear hoz hu1 b1 b2 b3
  go_wp2_with fail
  obtain ⟨W, hW⟩ : ∃ W, W = w1.alloc (.cells #[.slice (some ⟨gu, 0, none⟩) n n, .int .i64 (n : Int), .slice none 0 0] 99) := ⟨_, rfl⟩
  rw [← hW]
  have hsn : (Sp.new n).us.length = n := by simp [Sp.new]
  have SW : Spc B W w1.heap.size gu (Sp.new n) none 0 0 := by
    rw [hW]
    exact ⟨by rw [hsn]; exact Box.new rfl, HU1.out.alloc _, SOwn.nil .., by have := hb1.size; have := hBB.out; omega, by have := hgu.out; have := hBB.out; omega⟩
  have hbW : Below B w W := by rw [hW, ← hBB.out]; exact hb1.alloc hb1.size _
  obtain ⟨g, hg⟩ : ∃ g, Hid (w1.heap.size = g) := ⟨_, rfl⟩
  rw [hg.out] at SW
  rw [hg.out]
  have HSW := Lib.hid SW
  have HBW := Lib.hid hbW
  clear hW SW hbW hsn HU1 hb1
  go_loopw [8, 25] (fun ov iv wr => ∃ (k : Nat) (ao : Option Addr) (co : Nat) (a' : Option Addr) (l' c' : Nat), k ≤ len ∧ iv = .int .i64 k ∧ ov = .slice ao k co ∧ Hid (Spc B wr g gu ((Sp.new n).play (ds.take k)).1 a' l' c') ∧ Hid (SOwn foundL wr B 34 (fun _ => False) ao k co ((Sp.new n).play (ds.take k)).2) ∧ Hid (Below B w wr)) (fun _ iv _ => len - (intOf iv).toNat)
  case atStart => exact ⟨0, none, 0, none, 0, 0, by omega, rfl, rfl, HSW.out, SOwn.nil .., HBW.out⟩
  case round =>
    obtain ⟨k, ao, co, a', l', c', hk, rfl, rfl, hsp, hout, hbl⟩ := hrel
    have hok := Sp.Ok.play (ds.take k) (Sp.Ok.new n)
    have hlg := play_log (ds.take k) (Sp.Ok.new n)
    have hco := hout.out.hle
    have hcm := hout.out.hmax
    unfold maxLen at hcm
    by_cases hlt : k < len
    · have hkd : k < ds.length := by have := HDL.out; omega
      obtain ⟨b, off, vs, rfl, _, hbw, hat, hcell⟩ := ha.get k hlt
      have hd := HDS.out ds[k] (List.getElem_mem hkd)
      have hvs := hat ds[k] (List.getElem?_eq_getElem hkd)
      have hnext := play_take (Sp.new n) ds k hkd
      obtain ⟨s, hs⟩ : ∃ s, Hid ((Sp.new n).play (ds.take k) = s) := ⟨_, rfl⟩
      obtain ⟨d, hdd⟩ : ∃ d : Deed, Hid (ds[k] = d) := ⟨ds[k], rfl⟩
      rw [hs.out] at hsp hout hok hlg hnext
      rw [hdd.out] at hd hvs hnext
      obtain ⟨s, fo⟩ := s
      simp only at hsp hout hok hlg hnext
      obtain ⟨dk, df, dc⟩ := d
      have hvs' : vs = [.int .i64 dk, .int .i64 df, .int .i64 dc] := hvs
      subst hvs'
      have hlg2 : s.log.length ≤ 9000000 := by
        have h1 : (Sp.new n).log.length = 0 := rfl
        have h2 : (ds.take k).length ≤ 300 := by rw [List.length_take]; omega
        have h3 : (ds.take k).length * (n + 1) ≤ 300 * 4097 := Nat.mul_le_mul h2 (by omega)
        omega
      have hbB : b < B := by have := hBB.out; omega
      have e0 : wr.cell? ⟨b, off + k * 3, none⟩ = some (.int .i64 dk) := (hbl.out.cell (p := ⟨b, off + k * 3, none⟩) hbB).trans (hcell 0 (by decide))
      have e1 : wr.cell? ⟨b, off + k * 3 + 1, none⟩ = some (.int .i64 df) := (hbl.out.cell (p := ⟨b, off + k * 3 + 1, none⟩) hbB).trans (hcell 1 (by decide))
      have e2 : wr.cell? ⟨b, off + k * 3 + 2, none⟩ = some (.int .i64 dc) := (hbl.out.cell (p := ⟨b, off + k * 3 + 2, none⟩) hbB).trans (hcell 2 (by decide))
      have HN := Lib.hid hnext
      have HOK := Lib.hid hok
      have HD := Lib.hid hd
      have HLG2 := Lib.hid hlg2
      have S0 := Lib.hid (hsp.out.alloc (.cells #[.int .i64 dk, .int .i64 df, .int .i64 dc] 31))
      clear hcell hat hvs hnext hd hok hlg hlg2
      go_wp2_with fail
      refine (sp_do B g gu n s a' l' c' _ S0.out HOK.out (by omega) ⟨dk, df, dc⟩ HD.out HLG2.out).mono ?_
      rintro e w2 ⟨code, fr, a1, l1, c1, rfl, hcode, hfr, S2, K2⟩
      obtain ⟨cN, hcN⟩ : ∃ cN : Nat, Hid ((s.do_ ⟨dk, df, dc⟩).2.1 = cN) := ⟨_, rfl⟩
      obtain ⟨fN, hfN⟩ : ∃ fN : Nat, Hid ((s.do_ ⟨dk, df, dc⟩).2.2 = fN) := ⟨_, rfl⟩
      rw [hcN.out] at hcode
      rw [hfN.out] at hfr
      obtain rfl : code = (cN : Int) := hcode.out
      obtain rfl : fr = (fN : Int) := hfr.out
      have O2 := Lib.hid (K2.out.flat (hout.out.alloc (.cells #[.int .i64 dk, .int .i64 df, .int .i64 dc] 31)) (by decide) S0.out.hb S0.out.hu (by decide) (by decide))
      have hBwr : B ≤ wr.heap.size := by have := hsp.out.h1; have := hsp.out.hb.lt; omega
      have L2 := Lib.hid ((hbl.out.alloc hBwr (.cells #[.int .i64 dk, .int .i64 df, .int .i64 dc] 31)).trans K2.out.below)
      obtain ⟨s', hs'⟩ : ∃ s', Hid ((s.do_ ⟨dk, df, dc⟩).1 = s') := ⟨_, rfl⟩
      rw [hs'.out] at S2
      have HN2 : Hid ((Sp.new n).play (ds.take (k + 1)) = (s', fo ++ [⟨cN, fN, s'.left⟩])) := by
        show _ = _
        rw [HN.out]
        show (_, fo ++ [Found.mk _ _ _]) = _
        rw [hcN.out, hfN.out, hs'.out]
        show (Prod.fst _, _) = _
        rw [show (s.step ⟨dk, df, dc⟩).1 = s' from hs'.out]
      have c1' : w2.cell? ⟨g, 1, none⟩ = some (.int .i64 s'.left) := S2.out.hb.cell 1
      have hgl2 : g < w2.heap.size := S2.out.hb.lt
      have hB2 : B ≤ w2.heap.size := by have := S2.out.h1; omega
      clear e0 e1 e2 hcode hfr hcN hfN HN hs' S0 K2 hsp hout HOK HD HLG2 hbl
      go_wp2_with (at_builtin; refine wpList_append_one (L := foundL) (wr := w2.alloc (.cells #[.int .i64 cN, .int .i64 fN, .int .i64 s'.left] 34)) rfl (.tmp 37) (.tmp 39) 25 rfl B 34 _ 24 Try.underlying25 info_found rfl (fun _ => False) ao k co fo rfl (O2.out.alloc _) #[.int .i64 cN, .int .i64 fN, .int .i64 s'.left] ⟨cN, fN, s'.left⟩ ?hx1 (fun _ => False) rfl (fun b h => h.elim) (by unfold maxLen; omega) (by omega) ?hb1 ?_)
      case hx1 => simp [Act.eval]
      case hb1 => simp; omega
      intro a5 c5 w5 hown5 hg5
      have S5 := Lib.hid ((S2.out.alloc (.cells #[.int .i64 cN, .int .i64 fN, .int .i64 s'.left] 34)).apart (O2.out.alloc _) (by decide) (by decide) (by decide) hg5)
      have L5 := Lib.hid ((O2.out.alloc (.cells #[.int .i64 cN, .int .i64 fN, .int .i64 s'.left] 34)).grown (L2.out.alloc hB2 _) (Nat.le_refl _) (by simp; omega) hg5)
      have O5 := Lib.hid hown5
      clear hown5 hg5
      go_wp2_with fail
      go_roundw
      case rel => exact ⟨k + 1, a5, c5, a1, l1, c1, by omega, by go_num, rfl, by rw [HN2.out]; exact S5.out, by rw [HN2.out]; exact O5.out, L5.out⟩
      case measure => (simp [intOf]; try omega)
    · obtain rfl : k = len := by omega
      have htk : ds.take k = ds := List.take_of_length_le (by have := HDL.out; omega)
      rw [htk] at hsp hout
      have c2 : wr.cell? ⟨g, 2, none⟩ = some (.slice a' l' c') := hsp.out.hb.cell 2
      have hbf : Hid (Below w.heap.size w wr) := by rw [hBB.out]; exact hbl.out
      have O9 : Hid (SOwn foundL wr w.heap.size 34 (fun _ => False) ao k co ((Sp.new n).play ds).2) := by rw [hBB.out]; exact hout.out
      have L9 : Hid (SOwn recL wr w.heap.size 106 (fun _ => False) a' l' c' ((Sp.new n).play ds).1.log) := by rw [hBB.out]; exact hsp.out.ho
      clear htk hlg hok hsp hout hbl
      go_wp2_with fail
      go_quiet (fail)
      go_wp2_with fail
      go_ret3
      exact ⟨ao, co, a', l', c', rfl, O9.out.below (below_drewN (Below.refl _ _) _), L9.out.below (below_drewN (Below.refl _ _) _), below_drewN hbf.out _⟩
end Go.Proofs.Yteidmdakglkkfaa
