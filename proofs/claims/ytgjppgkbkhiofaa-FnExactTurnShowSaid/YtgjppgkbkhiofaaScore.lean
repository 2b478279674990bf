/- Scores: cues, ramps, levels. -/
import Derived.Test.YtgjppgkbkhiofaaFn3
import Derived.Test.YtgjppgkbkhiofaaName
set_option linter.unusedVariables false
set_option linter.unusedSimpArgs false
set_option maxRecDepth 100000
namespace Ev
open Go
def NamesOK (l : List Cue) : Prop := ∀ c ∈ l, c.Name.length ≤ 1048576
def isCue (c : Cue) : Bool := wi c.Tick 0 64 && (isNm c.Name && (wi c.Level 0 32 && wi c.Ramp 0 16))
noncomputable abbrev gCueS := F92 gIn gNmS
noncomputable abbrev gCue := F96 gW gNm
theorem cueS (c : Cue) (h : c.Name.length ≤ 1048576) : gCueS (c, ()) = some (isCue c, ()) := by
  unfold gCueS F92 isCue
  simp only [in_is, nameS c.Name h, Option.bind_some]
  cases wi c.Tick 0 64 <;> cases isNm c.Name <;> cases wi c.Level 0 32 <;> rfl
theorem cueI (c : Cue) (h : c.Name.length ≤ 1048576) : gCue (c, ()) = some (isCue c, ()) := by
  unfold gCue F96 isCue
  simp only [within_is, nameI c.Name h, Option.bind_some]
  cases wi c.Tick 0 64 <;> cases isNm c.Name <;> cases wi c.Level 0 32 <;> rfl
def cmpS (a b : Str) : Int := if Op.bytesLess a b = true then -1 else if a = b then 0 else 1
def cmpC (p q : Cue) : Int := if cmpI p.Tick q.Tick = 0 then cmpS p.Name q.Name else cmpI p.Tick q.Tick
noncomputable abbrev gCmpS := F115 F121
theorem cmpS_is (a b : Str) : gCmpS (a, b, ()) = some (cmpS a b, ()) := by
  unfold gCmpS F115 F121 cmpS
  simp only [decide_true, Bool.not_true, Option.bind_some, cond_false]
  cases h1 : Op.bytesLess a b
  · by_cases h2 : a = b <;> simp [h2]
  · rfl
noncomputable abbrev gCmpC := F97 gCmp gCmpS F98
theorem cmpCI (p q : Cue) : gCmpC (p, q, ()) = some (cmpC p q, ()) := by
  unfold gCmpC F97 cmpC
  simp only [cmpI_is, cmpS_is, or_is, Option.bind_some]
theorem cmpCS (p q : Cue) : F93 (p, q, ()) = some (cmpC p q, ()) := by
  unfold F93 cmpC cmpI cmpS
  by_cases h1 : p.Tick < q.Tick
  · simp [h1]
  · by_cases h2 : p.Tick = q.Tick
    · simp only [h2]
      cases h3 : Op.bytesLess p.Name q.Name
      · by_cases h4 : p.Name = q.Name <;> simp [h4]
      · simp
    · have : p.Tick > q.Tick := by omega
      simp [h1, h2, this]
noncomputable abbrev gScoreS := F58 gCueS F93
noncomputable abbrev gScore := F65 gCue gCmpC
theorem rdL_congr {R α : Type} {l : List α} {i : Int} {K K' : α → Option R} (h : ∀ x ∈ l, K x = K' x) : rdL l i K = rdL l i K' := by
  unfold rdL
  split
  · cases hx : l[i.toNat]? with
    | none => rfl
    | some x => exact h x (List.mem_of_getElem? hx)
  · rfl
theorem score_same (l : List Cue) (hn : NamesOK l) : gScoreS (l, ()) = gScore (l, ()) := by
  unfold gScoreS gScore F58 F65
  refine iterF_congr (fun t => t.1 = l ∧ t.2.1 = l) ?_ fuel _ ⟨rfl, rfl⟩
  rintro ⟨a, b, c, d, u⟩ rec rec' ⟨h1, h2⟩ hr
  simp only at h1 h2
  subst h1; subst h2
  simp only [s58_0, s65_0, cmpCS, cmpCI]
  cases hd : decide (d < c)
  · rfl
  · simp only [cond_true]
    refine rdL_congr fun x hx => ?_
    rw [cueS x (hn x hx), cueI x (hn x hx)]
    simp only [Option.bind_some]
    rw [hr _ ⟨rfl, rfl⟩]
theorem score_ok (l : List Cue) (hn : NamesOK l) (hl : l.length ≤ 1048576) : ∃ b, gScore (l, ()) = some (b, ()) ∧ (b = true → l.length ≤ 12 ∧ ∀ c ∈ l, isCue c = true) := by
  unfold gScore F65
  rcases iterF_rule (f := s65_0 gCue gCmpC) (K := fun t6 => some (decide (Int.ofNat (List.length t6.1) ≤ 12), ())) (t := (l, l, Int.ofNat l.length, 0, ())) l.length
    (fun i t => t = (l, l, Int.ofNat l.length, (i : Int), ()) ∧ ∀ p ∈ l.take i, isCue p = true) (fun x => x = some (false, ())) (fun t => t.1 = l ∧ ∀ p ∈ l, isCue p = true) (by omega) ⟨rfl, by simp⟩
    (by
      rintro i _ hi ⟨rfl, hall⟩
      have hx : l[i]? = some l[i] := by simp
      have hb := hn l[i] (by simp)
      have grow : isCue l[i] = true → ∀ p ∈ l.take (i + 1), isCue p = true := fun hd p hp => by
        rw [List.take_add_one, hx] at hp
        rcases List.mem_append.mp hp with h | h
        · exact hall p h
        · simp at h; subst h; exact hd
      have e1 : w64 ((i : Int) + 1) = ((i + 1 : Nat) : Int) := w64_id (by omega) (by omega)
      cases hd : isCue l[i]
      · refine .inr (.inl ⟨_, rfl, fun rec K => ?_⟩)
        simp only [s65_0]
        rw [cond_true_dec (by simp; omega), rdL_at hx, cueI _ hb, hd]
        rfl
      · by_cases hz : (i : Int) > 0
        · obtain ⟨j, rfl⟩ : ∃ j, i = j + 1 := ⟨i - 1, by omega⟩
          have hy : l[j]? = some l[j] := by simp
          have e2 : w64 (((j + 1 : Nat) : Int) - 1) = (j : Int) := by rw [w64_id (by omega) (by omega)]; omega
          by_cases hc : cmpC l[j] l[j + 1] ≥ 0
          · refine .inr (.inl ⟨_, rfl, fun rec K => ?_⟩)
            simp only [s65_0]
            rw [cond_true_dec (by simp; omega), rdL_at hx, cueI _ hb, hd]
            simp only [Option.bind_some, Bool.not_true, Bool.not_false, cond_true]
            rw [cond_true_dec hz, e2, rdL_at hy]
            simp only [cmpCI, Option.bind_some]
            rw [cond_true_dec hc]
          · refine .inl ⟨_, ⟨rfl, grow hd⟩, fun rec K => ?_⟩
            simp only [s65_0]
            rw [cond_true_dec (by simp; omega), rdL_at hx, cueI _ hb, hd]
            simp only [Option.bind_some, Bool.not_true, Bool.not_false, cond_true]
            rw [cond_true_dec hz, e2, rdL_at hy]
            simp only [cmpCI, Option.bind_some]
            rw [cond_false_dec hc, e1]
        · refine .inl ⟨_, ⟨rfl, grow hd⟩, fun rec K => ?_⟩
          simp only [s65_0]
          rw [cond_true_dec (by simp; omega), rdL_at hx, cueI _ hb, hd]
          simp only [Option.bind_some, Bool.not_true, Bool.not_false, cond_true]
          rw [cond_false_dec hz, e1])
    (by
      rintro _ ⟨rfl, hall⟩
      refine .inr ⟨(l, l, Int.ofNat l.length, (l.length : Int), ()), ⟨rfl, by simpa using hall⟩, fun rec K => ?_⟩
      simp only [s65_0]
      rw [cond_false_dec (by simp)]) with ⟨x, rfl, h⟩ | ⟨t, ⟨ht, hall⟩, h⟩
  · exact ⟨false, h, fun e => by cases e⟩
  · refine ⟨_, h, fun e => ⟨?_, hall⟩⟩
    rw [ht] at e
    simp at e; omega
/-! ### Ramps and levels -/
theorem bind_id (o : Option (Int × Unit)) : (o.bind fun x => some (x.1, ())) = o := by
  cases o <;> rfl
/-! ### Tracks of a name -/
theorem range_app (f : Nat → Int) (j : Nat) : (List.range j).map f ++ [f j] = (List.range (j + 1)).map f := by
  rw [List.range_succ, List.map_append]; rfl
end Ev
