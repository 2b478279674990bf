/- Scores: cues, ramps, levels. -/
import Derived.Test.YtnoodoiehlcblaaAbb
import Derived.Test.YtnoodoiehlcblaaName
set_option linter.unusedVariables false
set_option linter.unusedSimpArgs false
set_option maxRecDepth 100000
namespace Ev
open Go
def NamesOK (l : List Cue) : Prop := ∀ c ∈ l, c.Name.length ≤ 1048576
def isCue (c : Cue) : Bool := wi c.Tick 0 64 && (isNm c.Name && (wi c.Level 0 32 && wi c.Ramp 0 16))
noncomputable abbrev gCueS := F97 gIn gNmS
noncomputable abbrev gCue := F109 gW gNm
theorem cueS (c : Cue) (h : c.Name.length ≤ 1048576) : gCueS (c, ()) = some (isCue c, ()) := by
  unfold gCueS F97 isCue
  simp only [in_is, nameS c.Name h, Option.bind_some]
  cases wi c.Tick 0 64 <;> cases isNm c.Name <;> cases wi c.Level 0 32 <;> rfl
theorem cueI (c : Cue) (h : c.Name.length ≤ 1048576) : gCue (c, ()) = some (isCue c, ()) := by
  unfold gCue F109 isCue
  simp only [within_is, nameI c.Name h, Option.bind_some]
  cases wi c.Tick 0 64 <;> cases isNm c.Name <;> cases wi c.Level 0 32 <;> rfl
def cmpS (a b : Str) : Int := if Op.bytesLess a b = true then -1 else if a = b then 0 else 1
def cmpC (p q : Cue) : Int := if cmpI p.Tick q.Tick = 0 then cmpS p.Name q.Name else cmpI p.Tick q.Tick
noncomputable abbrev gCmpS := F126 F129
theorem cmpS_is (a b : Str) : gCmpS (a, b, ()) = some (cmpS a b, ()) := by
  unfold gCmpS F126 F129 cmpS
  simp only [decide_true, Bool.not_true, Option.bind_some, cond_false]
  cases h1 : Op.bytesLess a b
  · by_cases h2 : a = b <;> simp [h2]
  · rfl
noncomputable abbrev gCmpC := F110 gCmp gCmpS F124
theorem cmpCI (p q : Cue) : gCmpC (p, q, ()) = some (cmpC p q, ()) := by
  unfold gCmpC F110 cmpC
  simp only [cmpI_is, cmpS_is, or_is, Option.bind_some]
theorem cmpCS (p q : Cue) : F98 (p, q, ()) = some (cmpC p q, ()) := by
  unfold F98 cmpC cmpI cmpS
  by_cases h1 : p.Tick < q.Tick
  · simp [h1]
  · by_cases h2 : p.Tick = q.Tick
    · simp only [h2]
      cases h3 : Op.bytesLess p.Name q.Name
      · by_cases h4 : p.Name = q.Name <;> simp [h4]
      · simp
    · have : p.Tick > q.Tick := by omega
      simp [h1, h2, this]
noncomputable abbrev gScoreS := F68 gCueS F98
noncomputable abbrev gScore := F78 gCue gCmpC
theorem rdL_congr {R α : Type} {l : List α} {i : Int} {K K' : α → Option R} (h : ∀ x ∈ l, K x = K' x) : rdL l i K = rdL l i K' := by
  unfold rdL
  split
  · cases hx : l[i.toNat]? with
    | none => rfl
    | some x => exact h x (List.mem_of_getElem? hx)
  · rfl
theorem score_same (l : List Cue) (hn : NamesOK l) : gScoreS (l, ()) = gScore (l, ()) := by
  unfold gScoreS gScore F68 F78
  refine iterF_congr (fun t => t.1 = l ∧ t.2.1 = l) ?_ fuel _ ⟨rfl, rfl⟩
  rintro ⟨a, b, c, d, u⟩ rec rec' ⟨h1, h2⟩ hr
  simp only at h1 h2
  subst h1; subst h2
  simp only [s68_0, s78_0, cmpCS, cmpCI]
  cases hd : decide (d < c)
  · rfl
  · simp only [cond_true]
    refine rdL_congr fun x hx => ?_
    rw [cueS x (hn x hx), cueI x (hn x hx)]
    simp only [Option.bind_some]
    rw [hr _ ⟨rfl, rfl⟩]
theorem score_ok (l : List Cue) (hn : NamesOK l) (hl : l.length ≤ 1048576) : ∃ b, gScore (l, ()) = some (b, ()) ∧ (b = true → l.length ≤ 12 ∧ ∀ c ∈ l, isCue c = true) := by
  unfold gScore F78
  rcases iterF_rule (f := s78_0 gCue gCmpC) (K := fun t6 => some (decide (Int.ofNat (List.length t6.1) ≤ 12), ())) (t := (l, l, Int.ofNat l.length, 0, ())) l.length
    (fun i t => t = (l, l, Int.ofNat l.length, (i : Int), ()) ∧ ∀ p ∈ l.take i, isCue p = true) (fun x => x = some (false, ())) (fun t => t.1 = l ∧ ∀ p ∈ l, isCue p = true) (by omega) ⟨rfl, by simp⟩
    (by
      rintro i _ hi ⟨rfl, hall⟩
      have hx : l[i]? = some l[i] := by simp
      have hb := hn l[i] (by simp)
      have grow : isCue l[i] = true → ∀ p ∈ l.take (i + 1), isCue p = true := fun hd p hp => by
        rw [List.take_add_one, hx] at hp
        rcases List.mem_append.mp hp with h | h
        · exact hall p h
        · simp at h; subst h; exact hd
      have e1 : w64 ((i : Int) + 1) = ((i + 1 : Nat) : Int) := w64_id (by omega) (by omega)
      cases hd : isCue l[i]
      · refine .inr (.inl ⟨_, rfl, fun rec K => ?_⟩)
        simp only [s78_0]
        rw [cond_true_dec (by simp; omega), rdL_at hx, cueI _ hb, hd]
        rfl
      · by_cases hz : (i : Int) > 0
        · obtain ⟨j, rfl⟩ : ∃ j, i = j + 1 := ⟨i - 1, by omega⟩
          have hy : l[j]? = some l[j] := by simp
          have e2 : w64 (((j + 1 : Nat) : Int) - 1) = (j : Int) := by rw [w64_id (by omega) (by omega)]; omega
          by_cases hc : cmpC l[j] l[j + 1] ≥ 0
          · refine .inr (.inl ⟨_, rfl, fun rec K => ?_⟩)
            simp only [s78_0]
            rw [cond_true_dec (by simp; omega), rdL_at hx, cueI _ hb, hd]
            simp only [Option.bind_some, Bool.not_true, Bool.not_false, cond_true]
            rw [cond_true_dec hz, e2, rdL_at hy]
            simp only [cmpCI, Option.bind_some]
            rw [cond_true_dec hc]
          · refine .inl ⟨_, ⟨rfl, grow hd⟩, fun rec K => ?_⟩
            simp only [s78_0]
            rw [cond_true_dec (by simp; omega), rdL_at hx, cueI _ hb, hd]
            simp only [Option.bind_some, Bool.not_true, Bool.not_false, cond_true]
            rw [cond_true_dec hz, e2, rdL_at hy]
            simp only [cmpCI, Option.bind_some]
            rw [cond_false_dec hc, e1]
        · refine .inl ⟨_, ⟨rfl, grow hd⟩, fun rec K => ?_⟩
          simp only [s78_0]
          rw [cond_true_dec (by simp; omega), rdL_at hx, cueI _ hb, hd]
          simp only [Option.bind_some, Bool.not_true, Bool.not_false, cond_true]
          rw [cond_false_dec hz, e1])
    (by
      rintro _ ⟨rfl, hall⟩
      refine .inr ⟨(l, l, Int.ofNat l.length, (l.length : Int), ()), ⟨rfl, by simpa using hall⟩, fun rec K => ?_⟩
      simp only [s78_0]
      rw [cond_false_dec (by simp)]) with ⟨x, rfl, h⟩ | ⟨t, ⟨ht, hall⟩, h⟩
  · exact ⟨false, h, fun e => by cases e⟩
  · refine ⟨_, h, fun e => ⟨?_, hall⟩⟩
    rw [ht] at e
    simp at e; omega
/-! ### Ramps and levels -/
noncomputable abbrev gRampS := F100 F120 F121
noncomputable abbrev gRamp := F80 gMeas F113
theorem ramp_same : gRampS = gRamp := by
  have e : F121 = F113 := rfl
  funext a
  unfold gRampS gRamp F100 F80
  simp only [measS, measI, e, Int.mul_comm]
theorem floor_some (a b : Int) (hb : b ≠ 0) : ∃ v, F113 (a, b, ()) = some (v, ()) := by
  unfold F113
  simp only
  rw [cond_false_dec hb, cond_false_dec hb]
  cases decide (Int.tmod a b < 0) <;> exact ⟨_, rfl⟩
theorem ramp_some (a b t r : Int) : ∃ v, gRamp (a, b, t, r, ()) = some (v, ()) := by
  unfold gRamp F80
  simp only [measI, Option.bind_some]
  cases wi a (-4096) 4096
  · exact ⟨_, rfl⟩
  · cases wi b (-4096) 4096
    · exact ⟨_, rfl⟩
    · simp only [Bool.not_true, Bool.not_false, cond_true, cond_false]
      by_cases h1 : t ≥ r
      · rw [cond_true_dec h1]; exact ⟨_, rfl⟩
      · rw [cond_false_dec h1]
        by_cases h2 : t ≤ 0
        · rw [decide_eq_true h2]; exact ⟨_, rfl⟩
        · rw [decide_eq_false h2]
          simp only [Bool.not_false, cond_true]
          by_cases h3 : r > 999
          · rw [cond_true_dec h3]; exact ⟨_, rfl⟩
          · rw [cond_false_dec h3]
            obtain ⟨v, hv⟩ := floor_some (w64 (t * w64 (b - a))) r (by omega)
            rw [hv]; exact ⟨_, rfl⟩
noncomputable abbrev gLev := F45 gScore gRamp
theorem bind_id (o : Option (Int × Unit)) : (o.bind fun x => some (x.1, ())) = o := by
  cases o <;> rfl
theorem lev_some (l : List Cue) (hn : NamesOK l) (hl : l.length ≤ 1048576) (name : Str) (t : Int) : ∃ v, gLev (l, name, t, ()) = some (v, ()) := by
  obtain ⟨b, hb, _⟩ := score_ok l hn hl
  unfold gLev F45
  simp only [hb, Option.bind_some]
  cases b
  · exact ⟨_, rfl⟩
  · simp only [Bool.not_true, Bool.not_false, cond_true]
    cases decide (t < 0)
    · simp only [cond_false]
      obtain ⟨t', ⟨acc, c, rfl⟩, e⟩ := iterF_all (f := s45_0 gScore gRamp) (K := fun t5 => (gRamp (t5.2.2.1, t5.2.2.2.1.Level, (w64 (t5.2.1 - t5.2.2.2.1.Tick)), t5.2.2.2.1.Ramp, ())).bind fun x6 => some (x6.1, ()))
        (t := (name, t, 0, (⟨0, [], 0, 0⟩ : Cue), l, Int.ofNat l.length, 0, ())) l.length (fun i t' => ∃ (acc : Int) (c : Cue), t' = (name, t, acc, c, l, Int.ofNat l.length, (i : Int), ())) (by omega) ⟨0, ⟨0, [], 0, 0⟩, rfl⟩
        (by
          rintro i _ hi ⟨acc, c, rfl⟩
          have hx : l[i]? = some l[i] := by simp
          have e1 : w64 ((i : Int) + 1) = ((i + 1 : Nat) : Int) := w64_id (by omega) (by omega)
          obtain ⟨v, hv⟩ := ramp_some acc c.Level (w64 (l[i].Tick - c.Tick)) c.Ramp
          by_cases c1 : l[i].Name = name
          · by_cases c2 : l[i].Tick ≤ t
            · refine ⟨_, ⟨v, l[i], rfl⟩, fun rec K => ?_⟩
              simp only [s45_0]
              rw [cond_true_dec (by simp; omega), rdL_at hx, cond_true_dec c1, cond_true_dec c2, hv, e1]
              rfl
            · refine ⟨_, ⟨acc, c, rfl⟩, fun rec K => ?_⟩
              simp only [s45_0]
              rw [cond_true_dec (by simp; omega), rdL_at hx, cond_true_dec c1, cond_false_dec c2, e1]
          · refine ⟨_, ⟨acc, c, rfl⟩, fun rec K => ?_⟩
            simp only [s45_0]
            rw [cond_true_dec (by simp; omega), rdL_at hx, cond_false_dec c1, e1])
        (by
          rintro _ ⟨acc, c, rfl⟩ rec K
          simp only [s45_0]
          rw [cond_false_dec (by simp)])
      obtain ⟨v, hv⟩ := ramp_some acc c.Level (w64 (t - c.Tick)) c.Ramp
      rw [e]
      simp only [hv, Option.bind_some]
      exact ⟨_, rfl⟩
    · exact ⟨_, rfl⟩
/-! ### Tracks of a name -/
noncomputable def lv (l : List Cue) (name : Str) (j : Nat) : Int := ((gLev (l, name, (j : Int), ())).map fun x => x.1).getD 0
theorem lv_is (l : List Cue) (hn : NamesOK l) (hl : l.length ≤ 1048576) (name : Str) (j : Nat) : gLev (l, name, (j : Int), ()) = some (lv l name j, ()) := by
  obtain ⟨v, hv⟩ := lev_some l hn hl name j
  unfold lv
  rw [hv]; rfl
theorem range_app (f : Nat → Int) (j : Nat) : (List.range j).map f ++ [f j] = (List.range (j + 1)).map f := by
  rw [List.range_succ, List.map_append]; rfl
end Ev
