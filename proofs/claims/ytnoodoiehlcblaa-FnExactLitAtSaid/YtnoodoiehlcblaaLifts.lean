/- The lifts of a show at a tick. -/
import Derived.Test.YtnoodoiehlcblaaRig2
import Derived.Test.YtnoodoiehlcblaaShare
import Derived.Test.YtnoodoiehlcblaaShow
set_option linter.unusedVariables false
set_option linter.unusedSimpArgs false
set_option maxRecDepth 100000
namespace Ev
open Go
/-! ### Valid shows -/
noncomputable def scB (l : List Cue) : Bool := ((G78 (l, ())).map fun x => x.1).getD false
noncomputable def wdB (l : List Gust) : Bool := ((G79 (l, ())).map fun x => x.1).getD false
theorem scI_is (l : List Cue) (hn : NamesOK l) (hl : l.length ≤ 1048576) : G78 (l, ()) = some (scB l, ()) := by
  obtain ⟨b, h, _⟩ := score_ok l hn hl
  have h : G78 (l, ()) = some (b, ()) := h
  unfold scB; rw [h]; rfl
theorem scS_is (l : List Cue) (hn : NamesOK l) (hl : l.length ≤ 1048576) : G68 (l, ()) = some (scB l, ()) := (score_same l hn).trans (scI_is l hn hl)
theorem wdI_is (l : List Gust) (hl : l.length ≤ 1048576) : G79 (l, ()) = some (wdB l, ()) := by
  obtain ⟨b, h⟩ := wind_some l hl
  have h : G79 (l, ()) = some (b, ()) := h
  unfold wdB; rw [h]; rfl
theorem wdS_is (l : List Gust) (hl : l.length ≤ 1048576) : G69 (l, ()) = some (wdB l, ()) := by
  have e : G69 = G79 := wind_same
  rw [e]; exact wdI_is l hl
noncomputable def showB (s : ShowT) : Bool := rigB s.1 && (scB s.2.1 && (wdB s.2.2.1 && wi s.2.2.2.1 0 64))
theorem showI_is (s : ShowT) (h : ShowOK s) : G43 (s, ()) = some (showB s, ()) := by
  unfold G43 F43 showB
  dsimp only
  rw [rigI_is s.1 h.rig h.devs]
  simp only [Option.bind_some]
  cases rigB s.1
  · rfl
  · simp only [cond_true, Bool.true_and]
    rw [scI_is s.2.1 h.names h.score]
    simp only [Option.bind_some]
    cases scB s.2.1
    · rfl
    · simp only [cond_true, Bool.true_and]
      rw [wdI_is s.2.2.1 h.wind]
      simp only [Option.bind_some]
      cases wdB s.2.2.1
      · rfl
      · simp only [cond_true, Bool.true_and]
        rw [show G44 (s.2.2.2.1, 0, 64, ()) = some (wi s.2.2.2.1 0 64, ()) from within_is _ _ _]; rfl
theorem showS_is (s : ShowT) (h : ShowOK s) : G38 (s, ()) = some (showB s, ()) := by
  unfold G38 F38 showB
  dsimp only
  rw [rigS_is s.1 h.rig h.devs]
  simp only [Option.bind_some]
  cases rigB s.1
  · rfl
  · simp only [cond_true, Bool.true_and]
    rw [scS_is s.2.1 h.names h.score]
    simp only [Option.bind_some]
    cases scB s.2.1
    · rfl
    · simp only [cond_true, Bool.true_and]
      rw [wdS_is s.2.2.1 h.wind]
      simp only [Option.bind_some]
      cases wdB s.2.2.1
      · rfl
      · simp only [cond_true, Bool.true_and]
        rw [show G70 (s.2.2.2.1, 0, 64, ()) = some (wi s.2.2.2.1 0 64, ()) from in_is _ _ _]; rfl
structure ShowV (s : ShowT) : Prop where
  ok : ShowOK s
  rig : RigP s.1
  score : scB s.2.1 = true
  wind : wdB s.2.2.1 = true
  tick : 0 ≤ s.2.2.2.1 ∧ s.2.2.2.1 ≤ 64
theorem showV_of {s : ShowT} (h : ShowOK s) (hb : showB s = true) : ShowV s := by
  unfold showB at hb
  simp only [Bool.and_eq_true] at hb
  exact ⟨h, (rigB_iff _).1 hb.1, hb.2.1, hb.2.2.1, wi_true.1 hb.2.2.2⟩
theorem showB_of {s : ShowT} (h : ShowV s) : showB s = true := by
  unfold showB
  rw [(rigB_iff _).2 h.rig, h.score, h.wind, wi_of h.tick.1 h.tick.2]; rfl
/-! ### Levels -/
theorem lev_eq {l : List Cue} (hn : NamesOK l) (hl : l.length ≤ 1048576) (hv : scB l = true) (name : Str) {t : Int} (ht : 0 ≤ t) : G72 (l, name, t, ()) = G45 (l, name, t, ()) := by
  unfold G72 F72 G45 F45
  dsimp only
  rw [scI_is l hn hl, hv]
  simp only [Option.bind_some, Bool.not_true, Bool.not_false, cond_true]
  rw [cond_false_dec (by omega)]
  have e : s72_0 G100 = s45_0 G78 G80 := by
    have : G100 = G80 := ramp_same
    rw [this]; rfl
  have e2 : G100 = G80 := ramp_same
  rw [e, e2]
noncomputable def lvl (l : List Cue) (name : Str) (t : Int) : Int := ((G45 (l, name, t, ())).map fun x => x.1).getD 0
theorem lvlI_is {l : List Cue} (hn : NamesOK l) (hl : l.length ≤ 1048576) (name : Str) (t : Int) : G45 (l, name, t, ()) = some (lvl l name t, ()) := by
  obtain ⟨v, h⟩ := lev_some l hn hl name t
  have h : G45 (l, name, t, ()) = some (v, ()) := h
  unfold lvl; rw [h]; rfl
theorem lvlS_is {l : List Cue} (hn : NamesOK l) (hl : l.length ≤ 1048576) (hv : scB l = true) (name : Str) {t : Int} (ht : 0 ≤ t) : G72 (l, name, t, ()) = some (lvl l name t, ()) := (lev_eq hn hl hv name ht).trans (lvlI_is hn hl name t)
/-! ### Who hangs on a line -/
def pickB (f : Device → Bool) (r : List Device) (i : Nat) : Bool := match r[i]? with
  | some d => f d
  | none => false
def pickL (f : Device → Bool) (r : List Device) (n : Nat) : List Nat := (List.range n).filter (pickB f r)
theorem pickL_succ (f : Device → Bool) (r : List Device) (i : Nat) (h : i < r.length) : pickL f r (i + 1) = pickL f r i ++ (if f r[i] = true then [i] else []) := by
  unfold pickL
  rw [List.range_succ, List.filter_append]
  congr 1
  have hx : r[i]? = some r[i] := by simp
  simp only [List.filter_cons, List.filter_nil, pickB, hx]
theorem pickL_mem {f : Device → Bool} {r : List Device} {n i : Nat} (h : i ∈ pickL f r n) : ∃ d, r[i]? = some d ∧ f d = true := by
  unfold pickL at h
  have h := (List.mem_filter.mp h).2
  unfold pickB at h
  cases hd : r[i]? with
  | none => rw [hd] at h; cases h
  | some d => rw [hd] at h; exact ⟨d, rfl, h⟩
theorem pickL_len (f : Device → Bool) (r : List Device) (n : Nat) : (pickL f r n).length ≤ n := by
  unfold pickL
  exact Nat.le_trans (List.length_filter_le _ _) (by simp)
theorem pickL_congr {f g : Device → Bool} {r : List Device} (h : ∀ d ∈ r, f d = g d) (n : Nat) : pickL f r n = pickL g r n := by
  unfold pickL
  refine List.filter_congr fun i _ => ?_
  unfold pickB
  cases hd : r[i]? with
  | none => rfl
  | some d => exact h d (List.mem_iff_getElem?.mpr ⟨i, hd⟩)
theorem pickL_nil {f : Device → Bool} {r : List Device} (h : ∀ d ∈ r, f d = false) (n : Nat) : pickL f r n = [] := by
  rw [pickL_congr h n]
  unfold pickL
  rw [List.filter_eq_nil_iff]
  intro i _
  unfold pickB
  cases r[i]? <;> simp
/-- What a device asks for. -/
noncomputable def dem (sc : List Cue) (t : Int) (d : Device) : Int := mn (lvl sc d.Name t) d.Most
noncomputable def demAt (sc : List Cue) (t : Int) (r : List Device) (i : Nat) : Int := ((r[i]?).map (dem sc t)).getD 0
theorem demAt_is {sc : List Cue} {t : Int} {r : List Device} {i : Nat} {d : Device} (h : r[i]? = some d) : demAt sc t r i = dem sc t d := by
  unfold demAt; rw [h]; rfl
def onI (p : Device) (d : Device) : Bool := decide (d.Line = p.Name)
def onS (p : Device) (b : Bool) (d : Device) : Bool := decide (d.Kind = 2) && (decide (d.Line = p.Name) && b)
section
variable {s : ShowT} (h : ShowV s) (t : Int)
include h
theorem pickS_is (p : Device) (out : List Int) (rng : List Device) (n i0 : Int) (ht : wi t 0 (w64 (s.2.2.2.1 - 1)) = true → 0 ≤ t) (K : Int × (List Device × List Cue × List Gust × Int × Unit) × List Int × Device × List Int × List Int × List Device × Int × Int × List Device × Int × Int × Unit → Option (List Int × Unit)) :
    iterF (s39_2 G70 G72 G71 G73) fuel (t, s, out, p, ([] : List Int), ([] : List Int), rng, n, i0, s.1, Int.ofNat s.1.length, 0, ()) K =
      K (t, s, out, p, (pickL (onS p (wi t 0 (w64 (s.2.2.2.1 - 1)))) s.1 s.1.length).map (demAt s.2.1 t s.1), (pickL (onS p (wi t 0 (w64 (s.2.2.2.1 - 1)))) s.1 s.1.length).map Int.ofNat, rng, n, i0, s.1, Int.ofNat s.1.length, Int.ofNat s.1.length, ()) := by
  have hlen := h.rig.len
  refine iterF_for (f := s39_2 G70 G72 G71 G73) (K := K) (fun i => (t, s, out, p, (pickL (onS p (wi t 0 (w64 (s.2.2.2.1 - 1)))) s.1 i).map (demAt s.2.1 t s.1), (pickL (onS p (wi t 0 (w64 (s.2.2.2.1 - 1)))) s.1 i).map Int.ofNat, rng, n, i0, s.1, Int.ofNat s.1.length, (i : Int), ())) s.1.length (by omega) ?_ ?_
  · intro i hi rec K
    have hx : s.1[i]? = some s.1[i] := by simp
    have e1 : w64 ((i : Int) + 1) = ((i + 1 : Nat) : Int) := w64_id (by omega) (by omega)
    have hl1 := pickL_len (onS p (wi t 0 (w64 (s.2.2.2.1 - 1)))) s.1 i
    rw [pickL_succ _ _ i hi]
    simp only [s39_2]
    rw [cond_true_dec (by simp; omega), rdL_at hx, e1, show G70 (t, 0, w64 (s.2.2.2.1 - 1), ()) = some (wi t 0 (w64 (s.2.2.2.1 - 1)), ()) from in_is _ _ _]
    simp only [Option.bind_some]
    by_cases k2 : s.1[i].Kind = 2
    · rw [cond_true_dec k2]
      by_cases kl : s.1[i].Line = p.Name
      · rw [cond_true_dec kl]
        cases hw : wi t 0 (w64 (s.2.2.2.1 - 1))
        · rw [if_neg (by simp [onS])]
          simp
        · rw [if_pos (by simp [onS, k2, kl]), lvlS_is h.ok.names h.ok.score h.score _ (ht hw)]
          simp only [Option.bind_some, cond_true]
          rw [show G71 (lvl s.2.1 s.1[i].Name t, s.1[i].Most, ()) = some (mn (lvl s.2.1 s.1[i].Name t) s.1[i].Most, ()) from min_is _ _]
          simp only [Option.bind_some]
          rw [hw] at hl1
          rw [capK_le (by simp; omega), capK_le (by simp; omega), List.map_append, List.map_append]
          simp only [List.map_cons, List.map_nil, demAt_is hx]
          rfl
      · rw [cond_false_dec kl, if_neg (by simp [onS, kl])]
        simp
    · rw [cond_false_dec k2, if_neg (by simp [onS, k2])]
      simp
  · intro rec K
    simp only [s39_2]
    rw [cond_false_dec (by simp)]
theorem pickI_is (p : Device) (out : List Int) (rng : List Device) (n i0 : Int) (K : Int × (List Device × List Cue × List Gust × Int × Unit) × List Int × Device × List Int × List Int × List Device × Int × Int × List Device × Int × Int × Unit → Option (List Int × Unit)) :
    iterF (s13_2 G43 G44 G45 G46) fuel (t, s, out, p, ([] : List Int), ([] : List Int), rng, n, i0, s.1, Int.ofNat s.1.length, 0, ()) K =
      K (t, s, out, p, (pickL (onI p) s.1 s.1.length).map Int.ofNat, (pickL (onI p) s.1 s.1.length).map (demAt s.2.1 t s.1), rng, n, i0, s.1, Int.ofNat s.1.length, Int.ofNat s.1.length, ()) := by
  have hlen := h.rig.len
  refine iterF_for (f := s13_2 G43 G44 G45 G46) (K := K) (fun i => (t, s, out, p, (pickL (onI p) s.1 i).map Int.ofNat, (pickL (onI p) s.1 i).map (demAt s.2.1 t s.1), rng, n, i0, s.1, Int.ofNat s.1.length, (i : Int), ())) s.1.length (by omega) ?_ ?_
  · intro i hi rec K
    have hx : s.1[i]? = some s.1[i] := by simp
    have e1 : w64 ((i : Int) + 1) = ((i + 1 : Nat) : Int) := w64_id (by omega) (by omega)
    have hl1 := pickL_len (onI p) s.1 i
    rw [pickL_succ _ _ i hi]
    simp only [s13_2]
    rw [cond_true_dec (by simp; omega), rdL_at hx, e1]
    by_cases kl : s.1[i].Line = p.Name
    · rw [cond_true_dec kl, if_pos (by simp [onI, kl]), capK_le (by simp; omega), lvlI_is h.ok.names h.ok.score]
      simp only [Option.bind_some]
      rw [capK_le (by simp; omega), List.map_append, List.map_append]
      simp only [List.map_cons, List.map_nil, demAt_is hx]
      rfl
    · rw [cond_false_dec kl, if_neg (by simp [onI, kl])]
      simp
  · intro rec K
    simp only [s13_2]
    rw [cond_false_dec (by simp)]
end
/-! ### What each gets -/
def asg (out : List Int) (ws : List Nat) (xs : List Int) : List Int := (ws.zip xs).foldl (fun o p => o.set p.1 p.2) out
theorem asg_snoc (out : List Int) (ws : List Nat) (xs : List Int) (w : Nat) (x : Int) (h : ws.length = xs.length) : asg out (ws ++ [w]) (xs ++ [x]) = (asg out ws xs).set w x := by
  unfold asg
  rw [List.zip_append h, List.foldl_append]; rfl
theorem foldset_len : ∀ (ps : List (Nat × Int)) (out : List Int), (ps.foldl (fun o p => o.set p.1 p.2) out).length = out.length
  | [], out => rfl
  | p :: ps, out => by rw [List.foldl_cons, foldset_len ps]; simp
theorem asg_len (out : List Int) (ws : List Nat) (xs : List Int) : (asg out ws xs).length = out.length := foldset_len _ _
theorem asg_nil (out : List Int) (xs : List Int) : asg out [] xs = out := by simp [asg]
theorem asg_nil' (out : List Int) (ws : List Nat) : asg out ws [] = out := by simp [asg]
theorem foldset_at : ∀ (ps : List (Nat × Int)) (out : List Int) (i : Nat) (x : Int), (ps.foldl (fun o p => o.set p.1 p.2) out)[i]? = some x → out[i]? = some x ∨ (i, x) ∈ ps
  | [], out, i, x, h => .inl h
  | p :: ps, out, i, x, h => by
    rw [List.foldl_cons] at h
    rcases foldset_at ps _ i x h with h | h
    · rw [List.getElem?_set] at h
      by_cases hp : p.1 = i
      · rw [if_pos hp] at h
        by_cases hl : p.1 < out.length
        · rw [if_pos (by omega)] at h
          cases h
          exact .inr (by rw [← hp]; simp)
        · rw [if_neg (by omega)] at h; cases h
      · rw [if_neg hp] at h; exact .inl h
    · exact .inr (by simp [h])
theorem asg_at {out : List Int} {ws : List Nat} {xs : List Int} {i : Nat} {x : Int} (h : (asg out ws xs)[i]? = some x) : out[i]? = some x ∨ ∃ k : Nat, ws[k]? = some i ∧ xs[k]? = some x := by
  rcases foldset_at _ _ i x h with h | h
  · exact .inl h
  · obtain ⟨k, hk⟩ := List.mem_iff_getElem?.mp h
    rw [List.getElem?_zip_eq_some] at hk
    exact .inr ⟨k, hk⟩
theorem asg_loop (s : ShowT) (t : Int) (out : List Int) (ws : List Nat) (rng : List Device) (n i0 : Int) (R : List Int) (hR : R.length ≤ ws.length) (hw : ∀ w ∈ ws, w < out.length) (hl : ws.length ≤ 1048576) (K : Int × (List Device × List Cue × List Gust × Int × Unit) × List Int × List Int × List Device × Int × Int × List Int × Int × Int × Unit → Option (List Int × Unit)) :
    iterF (s13_4 G43 G44 G45 G46) fuel (t, s, out, ws.map Int.ofNat, rng, n, i0, R, Int.ofNat R.length, 0, ()) K =
      K (t, s, asg out ws R, ws.map Int.ofNat, rng, n, i0, R, Int.ofNat R.length, Int.ofNat R.length, ()) := by
  have e := iterF_for (f := s13_4 G43 G44 G45 G46) (K := K) (fun k => (t, s, asg out (ws.take k) (R.take k), ws.map Int.ofNat, rng, n, i0, R, Int.ofNat R.length, (k : Int), ())) R.length (by omega)
    (by
      intro k hk rec K
      have hx : R[k]? = some R[k] := by simp
      have hkw : k < ws.length := by omega
      have hy : (ws.map Int.ofNat)[k]? = some ((ws[k] : Nat) : Int) := by rw [List.getElem?_map, List.getElem?_eq_getElem hkw]; rfl
      have e1 : w64 ((k : Int) + 1) = ((k + 1 : Nat) : Int) := w64_id (by omega) (by omega)
      have hlt : ws[k] < (asg out (ws.take k) (R.take k)).length := by rw [asg_len]; exact hw _ (by simp)
      have hz : (asg out (ws.take k) (R.take k))[ws[k]]? = some (asg out (ws.take k) (R.take k))[ws[k]] := by simp
      have hx' := fun (K : Int → Option (List Int × Unit)) => rdL_at (K := K) hx
      have hy' := fun (K : Int → Option (List Int × Unit)) => rdL_at (K := K) hy
      have hz' := fun (K : Int → Option (List Int × Unit)) => rdL_at (K := K) hz
      rw [take_snocG ws k hkw, take_snocG R k hk, asg_snoc _ _ _ _ _ (by simp; omega)]
      simp only [s13_4]
      rw [cond_true_dec (by simp; omega)]
      simp only [hx', hx, hy', hy, hz', hz, Int.toNat_natCast, Option.bind_some, e1])
    (by
      intro rec K
      simp only [s13_4]
      rw [cond_false_dec (by simp)])
  have e0 : asg out (ws.take 0) (R.take 0) = out := by simp [asg]
  have e2 : asg out (ws.take R.length) (R.take R.length) = asg out ws R := by
    unfold asg
    rw [List.take_length]
    congr 1
    conv => rhs; rw [List.zip_eq_zip_take_min]
    rw [Nat.min_eq_right hR, List.take_length]
  simp only [e2] at e
  rw [e0] at e
  exact e
noncomputable def shr (m : Int) (l : List Int) : List Int := ((G46 (m, l, ())).map fun x => x.1).getD []
theorem shr_is (m : Int) (l : List Int) (hl : l.length ≤ 1048576) : G73 (m, l, ()) = some (shr m l, ()) ∧ G46 (m, l, ()) = some (shr m l, ()) ∧ ((shr m l = [] ∧ (demB l && wi m 0 512) = false) ∨ ((demB l && wi m 0 512) = true ∧ SharesP m l (shr m l))) := by
  obtain ⟨R, h1, h2, h3⟩ := share_ok m l hl
  have : shr m l = R := by unfold shr; rw [h2]; rfl
  rw [this]
  exact ⟨h1, h2, h3⟩
theorem shr_len (m : Int) (l : List Int) (hl : l.length ≤ 1048576) : (shr m l).length ≤ l.length := by
  obtain ⟨_, _, ⟨e, _⟩ | ⟨_, h⟩⟩ := shr_is m l hl
  · rw [e]; simp
  · rw [h.len]; exact Nat.le_refl _
noncomputable def wantL (s : ShowT) (t : Int) (p : Device) : List Int := (pickL (onI p) s.1 s.1.length).map (demAt s.2.1 t s.1)
noncomputable def stepL (s : ShowT) (t : Int) (out : List Int) (p : Device) : List Int := if p.Kind = 1 then asg out (pickL (onI p) s.1 s.1.length) (shr p.Most (wantL s t p)) else out
noncomputable def liftsN (s : ShowT) (t : Int) (i : Nat) : List Int := (s.1.take i).foldl (stepL s t) (List.replicate s.1.length 0)
noncomputable def liftsL (s : ShowT) (t : Int) : List Int := if wi t 0 (s.2.2.2.1 - 1) = true then liftsN s t s.1.length else List.replicate s.1.length 0
theorem stepL_len (s : ShowT) (t : Int) (out : List Int) (p : Device) : (stepL s t out p).length = out.length := by
  unfold stepL; split
  · exact asg_len _ _ _
  · rfl
theorem liftsN_succ (s : ShowT) (t : Int) (i : Nat) (h : i < s.1.length) : liftsN s t (i + 1) = stepL s t (liftsN s t i) s.1[i] := by
  unfold liftsN
  rw [take_snocG s.1 i h, List.foldl_append]; rfl
theorem liftsN_len (s : ShowT) (t : Int) : ∀ i, i ≤ s.1.length → (liftsN s t i).length = s.1.length
  | 0, _ => by simp [liftsN]
  | i + 1, h => by rw [liftsN_succ s t i h, stepL_len, liftsN_len s t i (by omega)]
theorem liftsL_len (s : ShowT) (t : Int) : (liftsL s t).length = s.1.length := by
  unfold liftsL; split
  · exact liftsN_len s t _ (Nat.le_refl _)
  · simp
theorem pickL_lt {f : Device → Bool} {r : List Device} {n : Nat} : ∀ w ∈ pickL f r n, w < r.length := fun w hw => by
  obtain ⟨d, hd, _⟩ := pickL_mem hw
  exact (List.getElem?_eq_some_iff.mp hd).1
/-- Who hangs on whom. -/
theorem name_pos {d : Device} (h : devB d = true) : 1 ≤ d.Name.length := by
  unfold devB isNm at h
  simp only [Bool.and_eq_true] at h
  have := (wi_true.1 h.1.2).1
  simp at this; omega
theorem pump_line {d : Device} (h : devB d = true) (hk : d.Kind = 1) : d.Line = [] := by
  unfold devB at h
  rw [if_pos hk] at h
  simp only [Bool.and_eq_true, decide_eq_true_eq] at h
  exact h.2.1
theorem on_kind {r : List Device} (h : RigP r) {p d : Device} (hp : p ∈ r) (hd : d ∈ r) (hl : d.Line = p.Name) : p.Kind = d.Kind - 1 ∧ d.Kind ≠ 1 := by
  have hk : d.Kind ≠ 1 := fun hk => by
    have h1 := pump_line (h.dev d hd) hk
    have h2 := name_pos (h.dev p hp)
    rw [← hl, h1] at h2
    simp at h2
  obtain ⟨k, x, _, h1, h2, h3⟩ := rig_line h hd hk
  obtain ⟨j, hj⟩ := List.mem_iff_getElem?.mp hp
  have : k = j := rig_uniq h h1 hj (h2.trans hl)
  subst this
  rw [hj] at h1
  cases h1
  exact ⟨h3, hk⟩
section
variable {s : ShowT} (h : ShowV s) (t : Int)
include h
theorem wantL_len (p : Device) : (wantL s t p).length ≤ 8 := by
  have := pickL_len (onI p) s.1 s.1.length
  have := h.rig.len
  simp [wantL]; omega
theorem liftsI_is : G13 (s, t, ()) = some (liftsL s t, ()) := by
  have hlen := h.rig.len
  have es : (s.1, s.2.1, s.2.2.1, s.2.2.2.1, ()) = s := rfl
  have ew : w64 (s.2.2.2.1 - 1) = s.2.2.2.1 - 1 := w64_id (by have := h.tick; omega) (by have := h.tick; omega)
  unfold G13 F13 liftsL
  dsimp only
  simp only [es]
  rw [showI_is s h.ok, showB_of h]
  simp only [Option.bind_some, Bool.not_true, cond_false]
  rw [okIf_pos (by simp), capK_le (by simp; omega), ew, show G44 (t, 0, s.2.2.2.1 - 1, ()) = some (wi t 0 (s.2.2.2.1 - 1), ()) from within_is _ _ _]
  simp only [Option.bind_some]
  have ez : List.replicate (Int.toNat (Int.ofNat s.1.length)) (Ty.zero .int) = List.replicate s.1.length (0 : Int) := rfl
  rw [ez]
  cases hw : wi t 0 (s.2.2.2.1 - 1)
  · rfl
  · simp only [Bool.not_true, cond_false, if_true]
    refine (iterF_for (f := s13_0 G43 G44 G45 G46) (K := fun t15 => some (t15.2.2.1, ())) (fun i => (t, s, liftsN s t i, s.1, Int.ofNat s.1.length, (i : Int), ())) s.1.length (by omega) ?_ ?_)
    · intro i hi rec K
      have hx : s.1[i]? = some s.1[i] := by simp
      have e1 : w64 ((i : Int) + 1) = ((i + 1 : Nat) : Int) := w64_id (by omega) (by omega)
      rw [liftsN_succ s t i hi]
      unfold stepL
      simp only [s13_0, es]
      rw [cond_true_dec (by simp; omega), rdL_at hx]
      by_cases k1 : s.1[i].Kind = 1
      · rw [decide_eq_true k1, if_pos k1]
        simp only [Bool.not_true, cond_false]
        rw [pickI_is h]
        simp only [es]
        have hq := shr_is s.1[i].Most (wantL s t s.1[i]) (by have := wantL_len h t s.1[i]; omega)
        have hq2 := hq.2.1
        unfold wantL at hq2
        rw [hq2]
        simp only [Option.bind_some]
        rw [asg_loop _ _ _ _ _ _ _ _ (by have := shr_len s.1[i].Most (wantL s t s.1[i]) (by have := wantL_len h t s.1[i]; omega); simpa [wantL] using this) (by rw [liftsN_len s t i (by omega)]; exact pickL_lt) (by have := pickL_len (onI s.1[i]) s.1 s.1.length; omega)]
        simp only [es, e1]
        rfl
      · rw [decide_eq_false k1, if_neg k1]
        simp only [Bool.not_false, cond_true, e1]
    · intro rec K
      simp only [s13_0]
      rw [cond_false_dec (by simp)]
theorem liftsS_is : G39 (s, t, ()) = some (liftsL s t, ()) := by
  have hlen := h.rig.len
  have es : (s.1, s.2.1, s.2.2.1, s.2.2.2.1, ()) = s := rfl
  have ew : w64 (s.2.2.2.1 - 1) = s.2.2.2.1 - 1 := w64_id (by have := h.tick; omega) (by have := h.tick; omega)
  unfold G39 F39
  dsimp only
  simp only [es]
  rw [okIf_pos (by simp), capK_le (by simp; omega)]
  have ez : List.replicate (Int.toNat (Int.ofNat s.1.length)) (Ty.zero .int) = List.replicate s.1.length (0 : Int) := rfl
  have e0 : List.replicate s.1.length (0 : Int) = if wi t 0 (s.2.2.2.1 - 1) = true then liftsN s t 0 else List.replicate s.1.length 0 := by split <;> rfl
  rw [ez, e0]
  refine (iterF_for (f := s39_0 G70 G72 G71 G73) (K := fun t15 => some (t15.2.2.1, ())) (fun i => (t, s, if wi t 0 (s.2.2.2.1 - 1) = true then liftsN s t i else List.replicate s.1.length 0, s.1, Int.ofNat s.1.length, (i : Int), ())) s.1.length (by omega) ?_ ?_).trans ?_
  · intro i hi rec K
    have hx : s.1[i]? = some s.1[i] := by simp
    have hm : s.1[i] ∈ s.1 := by simp
    have e1 : w64 ((i : Int) + 1) = ((i + 1 : Nat) : Int) := w64_id (by omega) (by omega)
    rw [liftsN_succ s t i hi]
    unfold stepL
    simp only [s39_0, es]
    rw [cond_true_dec (by simp; omega), rdL_at hx, pickS_is h t _ _ _ _ _ (fun hw => (wi_true.1 hw).1), ew]
    simp only [es]
    cases hw : wi t 0 (s.2.2.2.1 - 1)
    · have en : pickL (onS s.1[i] false) s.1 s.1.length = [] := pickL_nil (fun d _ => by simp [onS]) _
      rw [en]
      simp only [List.map_nil, List.length_nil]
      rw [cond_false_dec (by simp), e1]
      rfl
    · simp only [if_true]
      by_cases k1 : s.1[i].Kind = 1
      · have ec : pickL (onS s.1[i] true) s.1 s.1.length = pickL (onI s.1[i]) s.1 s.1.length := pickL_congr (fun d hd => by
          unfold onS onI
          by_cases hl : d.Line = s.1[i].Name
          · have := (on_kind h.rig hm hd hl).1
            rw [decide_eq_true hl, decide_eq_true (show d.Kind = 2 by omega)]; rfl
          · rw [decide_eq_false hl]; simp) _
        rw [ec, if_pos k1]
        by_cases hz : pickL (onI s.1[i]) s.1 s.1.length = []
        · rw [hz]
          simp only [List.map_nil, List.length_nil]
          rw [cond_false_dec (by simp), e1, asg_nil]
        · rw [cond_true_dec (by simp [List.length_pos_iff, hz])]
          have hq := shr_is s.1[i].Most (wantL s t s.1[i]) (by have := wantL_len h t s.1[i]; omega)
          have hq1 := hq.1
          unfold wantL at hq1
          rw [hq1]
          simp only [Option.bind_some]
          have e4 : s39_4 G70 G72 G71 G73 = s13_4 G43 G44 G45 G46 := rfl
          rw [e4]
          rw [asg_loop _ _ _ _ _ _ _ _ (by have := shr_len s.1[i].Most (wantL s t s.1[i]) (by have := wantL_len h t s.1[i]; omega); simpa [wantL] using this) (by rw [liftsN_len s t i (by omega)]; exact pickL_lt) (by have := pickL_len (onI s.1[i]) s.1 s.1.length; omega)]
          simp only [es, e1]
          rfl
      · have en : pickL (onS s.1[i] true) s.1 s.1.length = [] := pickL_nil (fun d hd => by
          unfold onS
          by_cases hl : d.Line = s.1[i].Name
          · have := (on_kind h.rig hm hd hl).1
            rw [decide_eq_false (show ¬ d.Kind = 2 by omega)]; rfl
          · rw [decide_eq_false hl]; simp) _
        rw [en, if_neg k1]
        simp only [List.map_nil, List.length_nil]
        rw [cond_false_dec (by simp), e1]
  · intro rec K
    simp only [s39_0]
    rw [cond_false_dec (by simp)]
  · rfl
/-- Only nozzles have lifts, and none above what it throws at most. -/
theorem liftsN_at : ∀ (n : Nat), n ≤ s.1.length → ∀ (i : Nat) (x : Int) (d : Device), (liftsN s t n)[i]? = some x → s.1[i]? = some d → x = 0 ∨ (d.Kind = 2 ∧ 0 ≤ x ∧ x ≤ d.Most)
  | 0, _, i, x, d, hx, hd => by
    unfold liftsN at hx
    simp only [List.take_zero, List.foldl_nil] at hx
    rw [List.getElem?_replicate] at hx
    split at hx
    · cases hx; exact .inl rfl
    · cases hx
  | n + 1, hn, i, x, d, hx, hd => by
    rw [liftsN_succ s t n hn] at hx
    unfold stepL at hx
    by_cases k1 : s.1[n].Kind = 1
    · rw [if_pos k1] at hx
      rcases asg_at hx with hx | ⟨k, h1, h2⟩
      · exact liftsN_at n (by omega) i x d hx hd
      · right
        obtain ⟨e, he, hon⟩ := pickL_mem (List.mem_iff_getElem?.mpr ⟨k, h1⟩)
        rw [hd] at he; cases he
        have hl : d.Line = s.1[n].Name := by simpa [onI] using hon
        have hk := (on_kind h.rig (by simp : s.1[n] ∈ s.1) (List.mem_iff_getElem?.mpr ⟨i, hd⟩) hl).1
        have hw : (wantL s t s.1[n])[k]? = some (dem s.2.1 t d) := by
          unfold wantL
          rw [List.getElem?_map, h1]
          simp [demAt_is hd]
        obtain ⟨_, _, ⟨e, _⟩ | ⟨hb, hS⟩⟩ := shr_is s.1[n].Most (wantL s t s.1[n]) (by have := wantL_len h t s.1[n]; omega)
        · rw [e] at h2; simp at h2
        · have := shares_le hS (by revert hb; cases demB (wantL s t s.1[n]) <;> simp) h2 hw
          have hm := mn_le (lvl s.2.1 d.Name t) d.Most
          unfold dem at this
          exact ⟨by omega, by omega, by omega⟩
    · rw [if_neg k1] at hx
      exact liftsN_at n (by omega) i x d hx hd
theorem liftsL_at {i : Nat} {x : Int} {d : Device} (hx : (liftsL s t)[i]? = some x) (hd : s.1[i]? = some d) : x = 0 ∨ (d.Kind = 2 ∧ 0 ≤ x ∧ x ≤ d.Most) := by
  unfold liftsL at hx
  split at hx
  · exact liftsN_at h t _ (Nat.le_refl _) i x d hx hd
  · rw [List.getElem?_replicate] at hx
    split at hx
    · cases hx; exact .inl rfl
    · cases hx
end
/-- What the program and the reference say of the lifts of any show. -/
theorem lifts_any (s : ShowT) (h : ShowOK s) (t : Int) : ∃ L, G11 (s, t, ()) = some (L, ()) ∧ G13 (s, t, ()) = some (L, ()) ∧ L.length ≤ 8 := by
  have es : (s.1, s.2.1, s.2.2.1, s.2.2.2.1, ()) = s := rfl
  cases hb : showB s
  · refine ⟨[], ?_, ?_, by simp⟩
    · unfold G11 F11
      simp only [es]
      rw [showS_is s h, hb]; rfl
    · unfold G13 F13
      simp only [es]
      rw [showI_is s h, hb]; rfl
  · have hv := showV_of h hb
    refine ⟨liftsL s t, ?_, liftsI_is hv t, by rw [liftsL_len]; exact hv.rig.len⟩
    unfold G11 F11
    simp only [es]
    rw [showS_is s h, hb]
    simp only [Option.bind_some, Bool.not_true, cond_false]
    rw [liftsS_is hv t]; rfl
end Ev
