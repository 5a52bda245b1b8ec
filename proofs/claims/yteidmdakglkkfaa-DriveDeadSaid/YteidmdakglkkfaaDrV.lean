/- The drive: what jobs leave, in plain words. -/
import Derived.Test.YteidmdakglkkfaaDrT
namespace Go.Proofs.Yteidmdakglkkfaa
open Go.RowKit
set_option linter.unusedVariables false

def zero128 : List Int := List.replicate 128 0
/-- What a sector of the plate has. -/
def vp (pl : List Sec) (i : Nat) : List Int := ((pl.getD i default).data).getD zero128
theorem dataD_nil {pl : List Sec} {d : Bool} (h : clean ⟨pl, [], d⟩) (i : Nat) : dataD ⟨pl, [], d⟩ i = vp pl i := by
  unfold dataD lookD vp
  simp only [List.reverse_nil, List.find?_nil]
  rw [if_neg (by rw [h.2 i]; decide)]
  cases (pl.getD i default).data <;> rfl
theorem dataD_snoc (pl : List Sec) (ws : List Put) (x : Put) (d : Bool) (i : Nat) : dataD ⟨pl, ws ++ [x], d⟩ i = if x.at_ = i then x.data else dataD ⟨pl, ws, d⟩ i := by
  unfold dataD lookD
  simp only [List.reverse_append, List.reverse_cons, List.reverse_nil, List.nil_append, List.singleton_append, List.find?_cons]
  by_cases h : x.at_ = i
  · simp [h]
  · simp [h]
theorem putOn_length (pl : List Sec) (x : Put) : (putOn pl x).length = pl.length := by simp [putOn]
theorem putOn_at (pl : List Sec) (x : Put) (i : Nat) (hx : x.at_ < pl.length) : (putOn pl x).getD i default = if x.at_ = i then ⟨some x.data, false⟩ else pl.getD i default := by
  unfold putOn
  rw [List.getD, List.getElem?_set]
  by_cases h : x.at_ = i
  · rw [if_pos h, if_pos h, if_pos (h ▸ hx)]; rfl
  · rw [if_neg h, if_neg h]; rfl
theorem vp_put (pl : List Sec) (x : Put) (i : Nat) (hx : x.at_ < pl.length) : vp (putOn pl x) i = if x.at_ = i then x.data else vp pl i := by
  unfold vp
  rw [putOn_at pl x i hx]
  split <;> rfl
/-- What holds of a drive on which nothing was broken. -/
structure Sound (s : DS) : Prop where
  cl : clean s
  len : s.plate.length = 8
  waits : ∀ x ∈ s.waits, x.at_ < 8
theorem settleN_sound {f : Nat → Bool} {pl : List Sec} {ws : List Put} (hl : pl.length = 8) (hb : ∀ i, (pl.getD i default).broken = false) (hw : ∀ x ∈ ws, x.at_ < 8) : ∀ n, n ≤ ws.length → ∀ i, ((settleN f pl ws n).getD i default).broken = false
  | 0, _, i => hb i
  | n + 1, hn, i => by
    unfold settleN
    split
    · have hx : ws.getD n default ∈ ws := by
        have : n < ws.length := by omega
        simp [List.getD, this]
      rw [putOn_at _ _ _ (by rw [settleN_length, hl]; exact hw _ hx)]
      split
      · rfl
      · exact settleN_sound hl hb hw n (by omega) i
    · exact settleN_sound hl hb hw n (by omega) i
theorem settle_sound {f : Nat → Bool} {s : DS} (h : Sound s) : Sound ⟨settleN f s.plate s.waits s.waits.length, [], s.dead⟩ :=
  ⟨⟨h.cl.1, settleN_sound h.len h.cl.2 h.waits _ (Nat.le_refl _)⟩, by show (settleN f s.plate s.waits s.waits.length).length = 8; rw [settleN_length, h.len], fun x hx => by cases hx⟩
theorem take_snoc (ws : List Put) (n : Nat) (h : n < ws.length) : ws.take (n + 1) = ws.take n ++ [ws.getD n default] := by
  rw [List.take_add_one]
  simp [List.getD, h]
/-- A flush changes nothing that one sees. -/
theorem flush_view {s : DS} (h : Sound s) (i : Nat) : ∀ n, n ≤ s.waits.length → vp (settleN (fun _ => true) s.plate s.waits n) i = dataD ⟨s.plate, s.waits.take n, s.dead⟩ i
  | 0, _ => by rw [List.take_zero, dataD_nil ⟨h.cl.1, h.cl.2⟩]; rfl
  | n + 1, hn => by
    have hx : s.waits.getD n default ∈ s.waits := by
      have : n < s.waits.length := by omega
      simp [List.getD, this]
    rw [take_snoc _ _ (by omega), dataD_snoc]
    show vp (putOn _ _) i = _
    rw [vp_put _ _ _ (by rw [settleN_length, h.len]; exact h.waits _ hx), flush_view h i n (by omega)]
theorem flush_data {s : DS} (h : Sound s) (i : Nat) : dataD ⟨settleN (fun _ => true) s.plate s.waits s.waits.length, [], s.dead⟩ i = dataD s i := by
  rw [dataD_nil (settle_sound h).cl, flush_view h i _ (Nat.le_refl _), List.take_length]
theorem settleN_congr {f g : Nat → Bool} (pl : List Sec) (ws : List Put) : ∀ n, (∀ k, k < n → f k = g k) → settleN f pl ws n = settleN g pl ws n
  | 0, _ => rfl
  | n + 1, h => by unfold settleN; rw [settleN_congr pl ws n (fun k hk => h k (by omega)), h n (by omega)]
theorem settleN_none (pl : List Sec) (ws : List Put) : ∀ n, settleN (fun _ => false) pl ws n = pl
  | 0 => rfl
  | n + 1 => by unfold settleN; exact settleN_none pl ws n
/-- A loss of power leaves what was there, or something that waited. -/
theorem crash_view {f : Nat → Bool} {s : DS} (h : Sound s) (i : Nat) : ∀ n, n ≤ s.waits.length → vp (settleN f s.plate s.waits n) i = vp s.plate i ∨ ∃ x ∈ s.waits, x.at_ = i ∧ vp (settleN f s.plate s.waits n) i = x.data
  | 0, _ => .inl rfl
  | n + 1, hn => by
    have hx : s.waits.getD n default ∈ s.waits := by
      have : n < s.waits.length := by omega
      simp [List.getD, this]
    unfold settleN
    split
    · rw [vp_put _ _ _ (by rw [settleN_length, h.len]; exact h.waits _ hx)]
      split
      · rename_i e
        exact .inr ⟨_, hx, e, rfl⟩
      · exact crash_view h i n (by omega)
    · exact crash_view h i n (by omega)
theorem new_sound : Sound DS.new := by
  refine ⟨⟨rfl, fun i => ?_⟩, rfl, fun x hx => by cases hx⟩
  unfold DS.new
  simp only
  rw [List.getD, List.getElem?_replicate]
  split <;> rfl
theorem dataD_new (i : Nat) : dataD DS.new i = zero128 := by
  have h := dataD_nil (pl := DS.new.plate) (d := false) new_sound.cl i
  rw [show dataD DS.new i = dataD ⟨DS.new.plate, [], false⟩ i from rfl, h]
  unfold vp DS.new
  simp only
  rw [List.getD, List.getElem?_replicate]
  split <;> rfl
/-- Jobs that break nothing. -/
def Mild (j : JobV) : Prop := j.ok ∧ (j.kind = 1 ∨ j.kind = 2 ∨ j.kind = 3 ∨ j.kind = 4 ∨ j.kind = 6)
theorem step_put {s : DS} (h : s.dead = false) {j : JobV} (hk : j.kind = 1) : stepD s j = ((0, none), { s with waits := s.waits ++ [⟨j.at_, j.data.getD []⟩] }) := by
  unfold stepD
  rw [if_neg (by rw [h]; simp), if_pos hk]
theorem step_get {s : DS} (h : s.dead = false) {j : JobV} (hk : j.kind = 2) : stepD s j = (lookD s j.at_, s) := by
  unfold stepD
  rw [if_neg (by rw [h]; simp), if_neg (by omega), if_pos hk]
theorem step_flush {s : DS} (h : s.dead = false) {j : JobV} (hk : j.kind = 3) : stepD s j = ((0, none), ⟨settleN (fun _ => true) s.plate s.waits s.waits.length, [], s.dead⟩) := by
  unfold stepD
  rw [if_neg (by rw [h]; simp), if_neg (by omega), if_neg (by omega), if_pos hk]
theorem step_crash {s : DS} (h : s.dead = false) {j : JobV} (hk : j.kind = 4) : stepD s j = ((0, none), ⟨settleN (bitSet j.keep) s.plate s.waits s.waits.length, [], s.dead⟩) := by
  unfold stepD
  rw [if_neg (by rw [h]; simp), if_neg (by omega), if_neg (by omega), if_neg (by omega), if_pos hk]
theorem step_break {s : DS} (h : s.dead = false) {j : JobV} (hk : j.kind = 5) : stepD s j = ((0, none), { s with plate := s.plate.set j.at_ ⟨(s.plate.getD j.at_ default).data, true⟩ }) := by
  unfold stepD
  rw [if_neg (by rw [h]; simp), if_neg (by omega), if_neg (by omega), if_neg (by omega), if_neg (by omega), if_pos hk]
theorem step_rot {s : DS} (h : s.dead = false) {j : JobV} (hk : j.kind = 6) : stepD s j = ((0, none), { s with plate := s.plate.set j.at_ ⟨some (j.data.getD []), false⟩ }) := by
  unfold stepD
  rw [if_neg (by rw [h]; simp), if_neg (by omega), if_neg (by omega), if_neg (by omega), if_neg (by omega), if_neg (by omega), if_pos hk]
theorem step_sound {s : DS} (h : Sound s) {j : JobV} (hj : Mild j) : Sound (stepD s j).2 := by
  obtain ⟨⟨_, _, ha, _⟩, hk⟩ := hj
  rcases hk with hk | hk | hk | hk | hk
  · rw [step_put h.cl.1 hk]
    refine ⟨⟨h.cl.1, h.cl.2⟩, h.len, fun x hx => ?_⟩
    rcases List.mem_append.1 hx with hx | hx
    · exact h.waits x hx
    · obtain rfl := List.mem_singleton.1 hx; exact ha
  · rw [step_get h.cl.1 hk]; exact h
  · rw [step_flush h.cl.1 hk]; exact settle_sound h
  · rw [step_crash h.cl.1 hk]; exact settle_sound h
  · rw [step_rot h.cl.1 hk]
    refine ⟨⟨h.cl.1, fun i => ?_⟩, by show (List.set _ _ _).length = 8; rw [List.length_set, h.len], h.waits⟩
    have := putOn_at s.plate ⟨j.at_, j.data.getD []⟩ i (by rw [h.len]; exact ha)
    show ((putOn s.plate ⟨j.at_, j.data.getD []⟩).getD i default).broken = false
    rw [this]
    split
    · rfl
    · exact h.cl.2 i
theorem run_sound {s : DS} (h : Sound s) : ∀ js : List JobV, (∀ j ∈ js, Mild j) → Sound (runS s js)
  | [], _ => h
  | j :: js, hj => by
    rw [runS_cons]
    exact run_sound (step_sound h (hj j (List.mem_cons_self ..))) js (fun k hk => hj k (List.mem_cons_of_mem _ hk))
/-- What was put last at a place. -/
def lastPut (i : Nat) (z : List Int) (js : List JobV) : List Int := js.foldl (fun z j => if j.kind = 1 ∧ j.at_ = i then j.data.getD [] else z) z
theorem lastPut_snoc (i : Nat) (z : List Int) (js : List JobV) (j : JobV) : lastPut i z (js ++ [j]) = if j.kind = 1 ∧ j.at_ = i then j.data.getD [] else lastPut i z js := by
  unfold lastPut; rw [List.foldl_append]; rfl
theorem last_view {s : DS} (h : Sound s) (i : Nat) : ∀ js : List JobV, (∀ j ∈ js, j.ok ∧ (j.kind = 1 ∨ j.kind = 2 ∨ j.kind = 3)) → dataD (runS s js) i = lastPut i (dataD s i) js := by
  intro js
  induction js generalizing s with
  | nil => intro _; rfl
  | cons j js ih =>
    intro hj
    obtain ⟨hok, hk⟩ := hj j (List.mem_cons_self ..)
    have hs := step_sound h ⟨hok, by omega⟩
    rw [runS_cons, ih hs (fun k hk => hj k (List.mem_cons_of_mem _ hk))]
    show _ = lastPut i (if j.kind = 1 ∧ j.at_ = i then j.data.getD [] else dataD s i) js
    congr 1
    rcases hk with hk | hk | hk
    · rw [step_put h.cl.1 hk]
      show dataD ⟨s.plate, s.waits ++ [⟨j.at_, j.data.getD []⟩], s.dead⟩ i = _
      rw [dataD_snoc]
      by_cases e : j.at_ = i
      · rw [if_pos e, if_pos ⟨hk, e⟩]
      · rw [if_neg e, if_neg (fun h => e h.2)]
    · rw [step_get h.cl.1 hk, if_neg (by omega)]
    · rw [step_flush h.cl.1 hk, if_neg (by omega)]
      exact flush_data h i
theorem bit_all (k : Nat) : bitSet (-1) k = true := by
  unfold bitSet
  have h : (-1 : Int) / 2 ^ (k % 62) = -1 := by
    have hp : (0 : Int) < 2 ^ (k % 62) := Int.pow_pos (by decide)
    exact Int.ediv_eq_neg_one_of_neg_of_le (by decide) (by omega)
  rw [h]
  decide
theorem bit_none (k : Nat) : bitSet 0 k = false := by
  unfold bitSet
  rw [Int.zero_ediv]
  decide
/-- Behind a flush nothing waits; puts and gets do not touch the plate. -/
theorem puts_run {s : DS} (h : Sound s) : ∀ js : List JobV, (∀ j ∈ js, j.ok ∧ (j.kind = 1 ∨ j.kind = 2)) → (runS s js).plate = s.plate ∧ (runS s js).waits = s.waits ++ (js.filter (fun j => j.kind = 1)).map (fun j => ⟨j.at_, j.data.getD []⟩) := by
  intro js
  induction js generalizing s with
  | nil => intro _; exact ⟨rfl, by simp [runS]⟩
  | cons j js ih =>
    intro hj
    obtain ⟨hok, hk⟩ := hj j (List.mem_cons_self ..)
    have hs := step_sound h ⟨hok, by omega⟩
    obtain ⟨h1, h2⟩ := ih hs (fun k hk => hj k (List.mem_cons_of_mem _ hk))
    rw [runS_cons]
    rcases hk with hk | hk
    · rw [step_put h.cl.1 hk] at h1 h2
      rw [step_put h.cl.1 hk]
      refine ⟨h1, ?_⟩
      rw [h2]
      simp [hk]
    · rw [step_get h.cl.1 hk] at h1 h2
      rw [step_get h.cl.1 hk]
      refine ⟨h1, ?_⟩
      rw [h2]
      simp [hk]
end Go.Proofs.Yteidmdakglkkfaa
