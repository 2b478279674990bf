/- Scores: cues, ramps, levels. -/
import Derived.Test.YtlifghlhbfjdmaaFn3
import Derived.Test.YtlifghlhbfjdmaaName
set_option linter.unusedVariables false
set_option linter.unusedSimpArgs false
set_option maxRecDepth 100000
namespace Ev
open Go
def NamesOK (l : List Cue) : Prop := ∀ c ∈ l, c.Name.length ≤ 1048576
def isCue (c : Cue) : Bool := wi c.Tick 0 64 && (isNm c.Name && (wi c.Level 0 32 && wi c.Ramp 0 16))
noncomputable abbrev gCueS := F152 gIn gNmS
noncomputable abbrev gCue := F142 gW gNm
theorem cueS (c : Cue) (h : c.Name.length ≤ 1048576) : gCueS (c, ()) = some (isCue c, ()) := by
  unfold gCueS F152 isCue
  simp only [in_is, nameS c.Name h, Option.bind_some]
  cases wi c.Tick 0 64 <;> cases isNm c.Name <;> cases wi c.Level 0 32 <;> rfl
theorem cueI (c : Cue) (h : c.Name.length ≤ 1048576) : gCue (c, ()) = some (isCue c, ()) := by
  unfold gCue F142 isCue
  simp only [within_is, nameI c.Name h, Option.bind_some]
  cases wi c.Tick 0 64 <;> cases isNm c.Name <;> cases wi c.Level 0 32 <;> rfl
def cmpS (a b : Str) : Int := if Op.bytesLess a b = true then -1 else if a = b then 0 else 1
def cmpC (p q : Cue) : Int := if cmpI p.Tick q.Tick = 0 then cmpS p.Name q.Name else cmpI p.Tick q.Tick
noncomputable abbrev gCmpS := F182 F195
theorem cmpS_is (a b : Str) : gCmpS (a, b, ()) = some (cmpS a b, ()) := by
  unfold gCmpS F182 F195 cmpS
  simp only [decide_true, Bool.not_true, Option.bind_some, cond_false]
  cases h1 : Op.bytesLess a b
  · by_cases h2 : a = b <;> simp [h2]
  · rfl
noncomputable abbrev gCmpC := F143 gCmp gCmpS F171
theorem cmpCI (p q : Cue) : gCmpC (p, q, ()) = some (cmpC p q, ()) := by
  unfold gCmpC F143 cmpC
  simp only [cmpI_is, cmpS_is, or_is, Option.bind_some]
theorem cmpCS (p q : Cue) : F153 (p, q, ()) = some (cmpC p q, ()) := by
  unfold F153 cmpC cmpI cmpS
  by_cases h1 : p.Tick < q.Tick
  · simp [h1]
  · by_cases h2 : p.Tick = q.Tick
    · simp only [h2]
      cases h3 : Op.bytesLess p.Name q.Name
      · by_cases h4 : p.Name = q.Name <;> simp [h4]
      · simp
    · have : p.Tick > q.Tick := by omega
      simp [h1, h2, this]
noncomputable abbrev gScoreS := F98 gCueS F153
noncomputable abbrev gScore := F85 gCue gCmpC
theorem rdL_congr {R α : Type} {l : List α} {i : Int} {K K' : α → Option R} (h : ∀ x ∈ l, K x = K' x) : rdL l i K = rdL l i K' := by
  unfold rdL
  split
  · cases hx : l[i.toNat]? with
    | none => rfl
    | some x => exact h x (List.mem_of_getElem? hx)
  · rfl
theorem score_same (l : List Cue) (hn : NamesOK l) : gScoreS (l, ()) = gScore (l, ()) := by
  unfold gScoreS gScore F98 F85
  refine iterF_congr (fun t => t.1 = l ∧ t.2.1 = l) ?_ fuel _ ⟨rfl, rfl⟩
  rintro ⟨a, b, c, d, u⟩ rec rec' ⟨h1, h2⟩ hr
  simp only at h1 h2
  subst h1; subst h2
  simp only [s98_0, s85_0, cmpCS, cmpCI]
  cases hd : decide (d < c)
  · rfl
  · simp only [cond_true]
    refine rdL_congr fun x hx => ?_
    rw [cueS x (hn x hx), cueI x (hn x hx)]
    simp only [Option.bind_some]
    rw [hr _ ⟨rfl, rfl⟩]
theorem score_ok (l : List Cue) (hn : NamesOK l) (hl : l.length ≤ 1048576) : ∃ b, gScore (l, ()) = some (b, ()) ∧ (b = true → l.length ≤ 12 ∧ ∀ c ∈ l, isCue c = true) := by
  unfold gScore F85
  rcases iterF_rule (f := s85_0 gCue gCmpC) (K := fun t6 => some (decide (Int.ofNat (List.length t6.1) ≤ 12), ())) (t := (l, l, Int.ofNat l.length, 0, ())) l.length
    (fun i t => t = (l, l, Int.ofNat l.length, (i : Int), ()) ∧ ∀ p ∈ l.take i, isCue p = true) (fun x => x = some (false, ())) (fun t => t.1 = l ∧ ∀ p ∈ l, isCue p = true) (by omega) ⟨rfl, by simp⟩
    (by
      rintro i _ hi ⟨rfl, hall⟩
      have hx : l[i]? = some l[i] := by simp
      have hb := hn l[i] (by simp)
      have grow : isCue l[i] = true → ∀ p ∈ l.take (i + 1), isCue p = true := fun hd p hp => by
        rw [List.take_add_one, hx] at hp
        rcases List.mem_append.mp hp with h | h
        · exact hall p h
        · simp at h; subst h; exact hd
      have e1 : w64 ((i : Int) + 1) = ((i + 1 : Nat) : Int) := w64_id (by omega) (by omega)
      cases hd : isCue l[i]
      · refine .inr (.inl ⟨_, rfl, fun rec K => ?_⟩)
        simp only [s85_0]
        rw [cond_true_dec (by simp; omega), rdL_at hx, cueI _ hb, hd]
        rfl
      · by_cases hz : (i : Int) > 0
        · obtain ⟨j, rfl⟩ : ∃ j, i = j + 1 := ⟨i - 1, by omega⟩
          have hy : l[j]? = some l[j] := by simp
          have e2 : w64 (((j + 1 : Nat) : Int) - 1) = (j : Int) := by rw [w64_id (by omega) (by omega)]; omega
          by_cases hc : cmpC l[j] l[j + 1] ≥ 0
          · refine .inr (.inl ⟨_, rfl, fun rec K => ?_⟩)
            simp only [s85_0]
            rw [cond_true_dec (by simp; omega), rdL_at hx, cueI _ hb, hd]
            simp only [Option.bind_some, Bool.not_true, Bool.not_false, cond_true]
            rw [cond_true_dec hz, e2, rdL_at hy]
            simp only [cmpCI, Option.bind_some]
            rw [cond_true_dec hc]
          · refine .inl ⟨_, ⟨rfl, grow hd⟩, fun rec K => ?_⟩
            simp only [s85_0]
            rw [cond_true_dec (by simp; omega), rdL_at hx, cueI _ hb, hd]
            simp only [Option.bind_some, Bool.not_true, Bool.not_false, cond_true]
            rw [cond_true_dec hz, e2, rdL_at hy]
            simp only [cmpCI, Option.bind_some]
            rw [cond_false_dec hc, e1]
        · refine .inl ⟨_, ⟨rfl, grow hd⟩, fun rec K => ?_⟩
          simp only [s85_0]
          rw [cond_true_dec (by simp; omega), rdL_at hx, cueI _ hb, hd]
          simp only [Option.bind_some, Bool.not_true, Bool.not_false, cond_true]
          rw [cond_false_dec hz, e1])
    (by
      rintro _ ⟨rfl, hall⟩
      refine .inr ⟨(l, l, Int.ofNat l.length, (l.length : Int), ()), ⟨rfl, by simpa using hall⟩, fun rec K => ?_⟩
      simp only [s85_0]
      rw [cond_false_dec (by simp)]) with ⟨x, rfl, h⟩ | ⟨t, ⟨ht, hall⟩, h⟩
  · exact ⟨false, h, fun e => by cases e⟩
  · refine ⟨_, h, fun e => ⟨?_, hall⟩⟩
    rw [ht] at e
    simp at e; omega
/-! ### Ramps and levels -/
noncomputable abbrev gRampS := F189 F170 F199
noncomputable abbrev gRamp := F86 gMeas F145
theorem ramp_same : gRampS = gRamp := by
  have e : F199 = F145 := rfl
  funext a
  unfold gRampS gRamp F189 F86
  simp only [measS, measI, e, Int.mul_comm]
theorem floor_some (a b : Int) (hb : b ≠ 0) : ∃ v, F145 (a, b, ()) = some (v, ()) := by
  unfold F145
  simp only
  rw [cond_false_dec hb, cond_false_dec hb]
  cases decide (Int.tmod a b < 0) <;> exact ⟨_, rfl⟩
theorem ramp_some (a b t r : Int) : ∃ v, gRamp (a, b, t, r, ()) = some (v, ()) := by
  unfold gRamp F86
  simp only [measI, Option.bind_some]
  cases wi a (-4096) 4096
  · exact ⟨_, rfl⟩
  · cases wi b (-4096) 4096
    · exact ⟨_, rfl⟩
    · simp only [Bool.not_true, Bool.not_false, cond_true, cond_false]
      by_cases h1 : t ≥ r
      · rw [cond_true_dec h1]; exact ⟨_, rfl⟩
      · rw [cond_false_dec h1]
        by_cases h2 : t ≤ 0
        · rw [decide_eq_true h2]; exact ⟨_, rfl⟩
        · rw [decide_eq_false h2]
          simp only [Bool.not_false, cond_true]
          by_cases h3 : r > 999
          · rw [cond_true_dec h3]; exact ⟨_, rfl⟩
          · rw [cond_false_dec h3]
            obtain ⟨v, hv⟩ := floor_some (w64 (t * w64 (b - a))) r (by omega)
            rw [hv]; exact ⟨_, rfl⟩
noncomputable abbrev gLevS := F99 gScoreS (F154 gRampS)
noncomputable abbrev gLev := F32 gScore gRamp
theorem bind_id (o : Option (Int × Unit)) : (o.bind fun x => some (x.1, ())) = o := by
  cases o <;> rfl
theorem lev_same (l : List Cue) (hn : NamesOK l) (name : Str) (t : Int) : gLevS (l, name, t, ()) = gLev (l, name, t, ()) := by
  unfold gLevS F99 gLev F32 F154
  have e : s154_0 gRamp = s32_0 gScore gRamp := rfl
  simp only [score_same l hn, ramp_same, bind_id, e]
theorem lev_some (l : List Cue) (hn : NamesOK l) (hl : l.length ≤ 1048576) (name : Str) (t : Int) : ∃ v, gLev (l, name, t, ()) = some (v, ()) := by
  obtain ⟨b, hb, _⟩ := score_ok l hn hl
  unfold gLev F32
  simp only [hb, Option.bind_some]
  cases b
  · exact ⟨_, rfl⟩
  · simp only [Bool.not_true, Bool.not_false, cond_true]
    cases decide (t < 0)
    · simp only [cond_false]
      obtain ⟨t', ⟨acc, c, rfl⟩, e⟩ := iterF_all (f := s32_0 gScore gRamp) (K := fun t5 => (gRamp (t5.2.2.1, t5.2.2.2.1.Level, (w64 (t5.2.1 - t5.2.2.2.1.Tick)), t5.2.2.2.1.Ramp, ())).bind fun x6 => some (x6.1, ()))
        (t := (name, t, 0, (⟨0, [], 0, 0⟩ : Cue), l, Int.ofNat l.length, 0, ())) l.length (fun i t' => ∃ (acc : Int) (c : Cue), t' = (name, t, acc, c, l, Int.ofNat l.length, (i : Int), ())) (by omega) ⟨0, ⟨0, [], 0, 0⟩, rfl⟩
        (by
          rintro i _ hi ⟨acc, c, rfl⟩
          have hx : l[i]? = some l[i] := by simp
          have e1 : w64 ((i : Int) + 1) = ((i + 1 : Nat) : Int) := w64_id (by omega) (by omega)
          obtain ⟨v, hv⟩ := ramp_some acc c.Level (w64 (l[i].Tick - c.Tick)) c.Ramp
          by_cases c1 : l[i].Name = name
          · by_cases c2 : l[i].Tick ≤ t
            · refine ⟨_, ⟨v, l[i], rfl⟩, fun rec K => ?_⟩
              simp only [s32_0]
              rw [cond_true_dec (by simp; omega), rdL_at hx, cond_true_dec c1, cond_true_dec c2, hv, e1]
              rfl
            · refine ⟨_, ⟨acc, c, rfl⟩, fun rec K => ?_⟩
              simp only [s32_0]
              rw [cond_true_dec (by simp; omega), rdL_at hx, cond_true_dec c1, cond_false_dec c2, e1]
          · refine ⟨_, ⟨acc, c, rfl⟩, fun rec K => ?_⟩
            simp only [s32_0]
            rw [cond_true_dec (by simp; omega), rdL_at hx, cond_false_dec c1, e1])
        (by
          rintro _ ⟨acc, c, rfl⟩ rec K
          simp only [s32_0]
          rw [cond_false_dec (by simp)])
      obtain ⟨v, hv⟩ := ramp_some acc c.Level (w64 (t - c.Tick)) c.Ramp
      rw [e]
      simp only [hv, Option.bind_some]
      exact ⟨_, rfl⟩
    · exact ⟨_, rfl⟩
/-! ### Tracks of a name -/
noncomputable def lv (l : List Cue) (name : Str) (j : Nat) : Int := ((gLev (l, name, (j : Int), ())).map fun x => x.1).getD 0
theorem lv_is (l : List Cue) (hn : NamesOK l) (hl : l.length ≤ 1048576) (name : Str) (j : Nat) : gLev (l, name, (j : Int), ()) = some (lv l name j, ()) := by
  obtain ⟨v, hv⟩ := lev_some l hn hl name j
  unfold lv
  rw [hv]; rfl
theorem range_app (f : Nat → Int) (j : Nat) : (List.range j).map f ++ [f j] = (List.range (j + 1)).map f := by
  rw [List.range_succ, List.map_append]; rfl
noncomputable abbrev gTrkS := F42 gScoreS gLevS
noncomputable abbrev gTrk := F31 gScore gW gLev
theorem trk_ok (l : List Cue) (hn : NamesOK l) (hl : l.length ≤ 1048576) (name : Str) (n : Int) : ∃ m, gTrkS (l, name, n, ()) = some (m, ()) ∧ gTrk (l, name, n, ()) = some (m, ()) ∧ m.length ≤ 64 := by
  obtain ⟨b, hb, _⟩ := score_ok l hn hl
  have hbS : gScoreS (l, ()) = some (b, ()) := by rw [score_same l hn]; exact hb
  by_cases hgo : b = true ∧ 0 ≤ n ∧ n ≤ 64
  · obtain ⟨rfl, h0, h1⟩ := hgo
    refine ⟨(List.range n.toNat).map (lv l name), ?_, ?_, by simp; omega⟩
    · unfold gTrkS F42
      obtain ⟨t, ⟨_, rfl⟩, e⟩ := iterF_all (f := s42_0 gScoreS gLevS) (K := fun t4 => some (t4.2.2.2.1, ())) (t := (l, name, n, ([] : List Int), 0, ())) n.toNat
        (fun j t => True ∧ t = (l, name, n, (List.range j).map (lv l name), (j : Int), ())) (by omega) ⟨trivial, rfl⟩
        (by
          rintro j _ hj ⟨_, rfl⟩
          refine ⟨_, ⟨trivial, rfl⟩, fun rec K => ?_⟩
          simp only [s42_0]
          rw [cond_true_dec (by omega), cond_true_dec h1, hbS]
          simp only [Option.bind_some, cond_true]
          rw [lev_same l hn, lv_is l hn hl, Option.bind_some, capK_le (by simp; omega), range_app, w64_id (by omega) (by omega)]
          rfl)
        (by
          rintro _ ⟨_, rfl⟩ rec K
          simp only [s42_0]
          rw [cond_false_dec (by omega)])
      exact e
    · unfold gTrk F31
      simp only [hb, within_is, wi_of h0 h1, Option.bind_some, Bool.not_true, Bool.not_false, cond_true, cond_false]
      obtain ⟨t, ⟨_, rfl⟩, e⟩ := iterF_all (f := s31_0 gScore gW gLev) (K := fun t5 => some (t5.2.2.1, ())) (t := (l, name, ([] : List Int), n, 0, ())) n.toNat
        (fun j t => True ∧ t = (l, name, (List.range j).map (lv l name), n, (j : Int), ())) (by omega) ⟨trivial, rfl⟩
        (by
          rintro j _ hj ⟨_, rfl⟩
          refine ⟨_, ⟨trivial, rfl⟩, fun rec K => ?_⟩
          simp only [s31_0]
          rw [cond_true_dec (by omega), lv_is l hn hl, Option.bind_some, capK_le (by simp; omega), range_app, w64_id (by omega) (by omega)]
          rfl)
        (by
          rintro _ ⟨_, rfl⟩ rec K
          simp only [s31_0]
          rw [cond_false_dec (by omega)])
      exact e
  · refine ⟨[], ?_, ?_, by simp⟩
    · unfold gTrkS F42
      rw [show fuel = (fuel - 1) + 1 by rw [fuel_eq], iterF_succ]
      simp only [s42_0, hbS, Option.bind_some]
      by_cases c1 : (0 : Int) < n
      · rw [cond_true_dec c1]
        by_cases c2 : n ≤ 64
        · rw [cond_true_dec c2]
          cases b with
          | false => rfl
          | true => exact absurd ⟨rfl, by omega, c2⟩ hgo
        · rw [cond_false_dec c2]
      · by_cases c0 : n = 0
        · subst c0
          rw [cond_false_dec c1]
        · rw [cond_false_dec c1]
    · unfold gTrk F31
      simp only [hb, within_is, Option.bind_some]
      cases b with
      | false => rfl
      | true =>
        have : wi n 0 64 = false := by
          rw [← Bool.not_eq_true, wi_true]
          exact fun h => hgo ⟨rfl, h.1, h.2⟩
        rw [this]; rfl
end Ev
