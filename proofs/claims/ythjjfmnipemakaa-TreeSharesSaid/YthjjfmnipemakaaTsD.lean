/- The walk of bytesOf. -/
import Derived.Test.YthjjfmnipemakaaTsC
namespace Go.Proofs.Ythjjfmnipemakaa
open Go.RowKit
set_option linter.unusedVariables false
set_option maxRecDepth 100000

theorem thRow_srow {α : Type} {L : Lay α} {B : Nat} {e : TypeId} {G : Nat → Prop} {a : Option Addr} {len cap : Nat} {xs : List α} {w : World} (h : (thRow L B e G a len cap xs).holds w) : SRow L w (fun b => b < w.heap.size) a len cap xs := by
  obtain ⟨⟨hl, vss, F, ho, hp, hF⟩, hG⟩ := h
  exact ⟨hl, fun x hx _ => (World.ownsRow.lt ho x.block (by rw [hx]; rfl)).2, vss, ho.row, hp.keep (fun b hb => (hF b hb).2.1) (fun _ _ _ => rfl)⟩
theorem shnAt {w : World} {F : Nat → Prop} {a : Option Addr} {len cap : Nat} {xs : List Shn} (h : SRow shnL w F a len cap xs) (i : Nat) (hi : i < len) (s : Shn) (hs : xs[i]? = some s) :
    ∃ b off ad ld cd, a = some ⟨b, off, none⟩ ∧ b < w.heap.size ∧ SRow (Lay.int .u8) w F ad ld cd s.data ∧ w.cell? ⟨b, off + i * 4, none⟩ = some (.int .i64 s.code) ∧ w.cell? ⟨b, off + i * 4 + 1, none⟩ = some (.int .i64 s.version) ∧ w.cell? ⟨b, off + i * 4 + 2, none⟩ = some (.int .i64 s.size) ∧
      w.cell? ⟨b, off + i * 4 + 3, none⟩ = some (.slice ad ld cd) := by
  obtain ⟨b, off, vs, ha, _, hb, hx, hc⟩ := h.get i hi
  obtain ⟨us, ws, rfl, h1, ad, ld, cd, h2, h3⟩ := hx _ hs
  have e1 : us = three s := h1
  subst e1 h2
  exact ⟨b, off, ad, ld, cd, ha, hb, h3, hc 0 (by decide), hc 1 (by decide), hc 2 (by decide), hc 3 (by decide)⟩
theorem read_at (w : World) (F : Nat → Prop) (ver : Nat) : stL.at_ w F (readS ver) #[.int .i64 3, .int .i64 (ver : Int), .int .i64 0, .int .i64 4096, .slice none 0 0].toList :=
  ⟨four (readS ver), [.slice none 0 0], rfl, rfl, none, 0, 0, rfl, SRow.nil ..⟩
set_option maxHeartbeats 8000000 in
theorem bytesOfW (a : Option Addr) (len cap : Nat) (ss : List St) (ver : Nat) (w : World) (ha : SRow stL w (fun b => b < w.heap.size) a len cap ss) (hok : fo0.Okays ss) (hv : ver < (fo0.fin ss).vers.length) (hn : len ≤ 150) :
    Calls Try.prog 13 #[.slice a len cap, .int .i64 ver] w fun e w' => ∃ a' l' c', e = .returned (.tuple #[.slice a' l' c', .bool true]) ∧ Hid (SRow (Lay.int .u8) w' (fun _ => True) a' l' c' (bytesV (verAt ss ver))) ∧ Below w.heap.size w w' := by
  obtain ⟨uss, hvr, hp, hl⟩ := ha.whole
  have HV := Lib.hid hvr
  have HP := Lib.hid hp
  have HL := Lib.hid hl
  obtain ⟨hok2, houts⟩ := outs_read ss hok ver hv
  have HOK := Lib.hid hok2
  have HOUT := Lib.hid houts
  have hg := verAt_good ss hok ver
  obtain ⟨v, hve⟩ : ∃ v, verAt ss ver = v := ⟨_, rfl⟩
  rw [hve] at HOUT hg ⊢
  have hvb := hg.small
  have hol : Hid ((fo0.outs ss).length = len) := by show _ = _; rw [Fo.outs_length]; exact hl
  have hbl : Hid ((bytesV v).length = v.size) := bytesV_length v
  obtain ⟨N, hN⟩ : ∃ N, Hid (w.heap.size = N) := ⟨_, rfl⟩
  have S0 : Hid (SOwn stL w N 29 (fun b => b < N) none 0 0 []) := SOwn.nil ..
  have hF2 : Hid (∀ b, b < w.heap.size → b < N ∧ b < w.heap.size ∧ (Value.slice none 0 0).ownBlock ≠ some b) := fun b hb => ⟨by have := hN.out; omega, hb, fun e => by cases (show (none : Option Nat) = some b from e)⟩
  have hNw : N ≤ w.heap.size := by have := hN.out; omega
  have wl : IntKind.i64.wrap ((len : Int) + 1) = (len : Int) + 1 := IntWalk.i64_in _ (by omega)
  clear ha hok hv hvr hp hl hok2 houts hve hg
  go_enter Try.func13, Try.ntmps13
  go_wp2_with (first
    | (at_builtin; refine wpList_append_data (L := stL) rfl (.const (.slice none 0 0)) (.tmp 10) 24 rfl N 29 _ 56 Try.underlying24 info_step rfl (fun b => b < N) none 0 0 [] rfl S0.out a len cap ss uss rfl HV.out (fun b => b < w.heap.size) HP.out HL.out hF2.out (by unfold maxLen; omega) (by omega) hNw ?_; intro a2 c2 w2 hown2 hg2; rw [Nat.zero_add] at hown2; have HO2 := Lib.hid hown2; have HB2 : Hid (Below w.heap.size w w2) := (Below.refl _ _).grown hg2 (Nat.le_refl _) (fun k hk => by cases hk); have hNw2 : N ≤ w2.heap.size := (by have := HB2.out.size; omega); clear hown2 hg2)
    | (at_builtin; refine wpList_append_one (L := stL) (wr := w2) rfl (.tmp 11) (.tmp 14) 24 rfl N 29 _ 56 Try.underlying24 info_step rfl (fun b => b < N) a2 len c2 ([] ++ ss) (by first | rfl | simp) HO2.out #[.int .i64 3, .int .i64 (ver : Int), .int .i64 0, .int .i64 4096, .slice none 0 0] (readS ver) rfl (fun _ => False) (read_at _ _ ver) (fun b hb => hb.elim) (by unfold maxLen; omega) (by omega) hNw2 ?_; intro a3 c3 w3 hown3 hg3; have HO3 := Lib.hid (show SOwn stL w3 N 29 (fun b => b < N) a3 (len + 1) c3 (ss ++ [readS ver]) from hown3); have HB3 : Hid (Below w.heap.size w w3) := Own.grown HO2.out.2.choose_spec.choose_spec.1 HB2.out (by have := hN.out; omega) HB2.out.size hg3; clear hown3 hg3))
  refine (playTop (fun _ => True) a3 (len + 1) c3 (ss ++ [readS ver]) w3 (SOwn.sRow HO3.out) HOK.out (by omega)).mono ?_
  rintro e w4 ⟨a4, c4, rfl, hr4, hb4⟩
  rw [HOUT.out] at hr4
  have HB4 := Lib.hid (HB3.out.trans (hb4.mono HB3.out.size))
  obtain ⟨b, off, ad, ld, cd, rfl, hbl4, hdr, c0, c1, c2', c3'⟩ := shnAt hr4.out len (by omega) ⟨0, 0, v.size, bytesV v⟩ (by rw [List.getElem?_append_right (by rw [hol.out]; omega), hol.out, Nat.sub_self]; rfl)
  have hld : (ld : Int) = (v.size : Int) := by have h1 := hdr.1; have h2 := hbl.out; simp only at h1; omega
  have HDR := Lib.hid hdr
  obtain ⟨sz, hsz⟩ : ∃ sz, Hid (v.size = sz) := ⟨_, rfl⟩
  simp only at c0 c1 c2'
  rw [hsz.out] at c2' hld
  have e0 : ((len : Int) + 1 == (len : Int) + 1) = true := by simp
  have HLD := Lib.hid (show ld = sz by omega)
  obtain rfl := HLD.out
  have HAL := Lib.hid (fun o : Obj => HB4.out.trans ((Below_alloc1 (wr := w4) o).mono HB4.out.size))
  have HDA := Lib.hid (fun o : Obj => SRow.below (w' := w4.alloc o) HDR.out (Below_alloc1 o))
  clear hb4 hdr hld hvb hF2 HV HP HB3 HO2 HO3 hNw hNw2
  go_wp2_with fail
  go_quiet (fail)
  go_wp2_with fail
  exact bodyPost_ret (results_tmp2 Try.results13 _ _ _) rfl ⟨ad, ld, cd, rfl, SRow.drewN (HDA.out _) _, below_drewN (HAL.out _) _⟩
end Go.Proofs.Ythjjfmnipemakaa
