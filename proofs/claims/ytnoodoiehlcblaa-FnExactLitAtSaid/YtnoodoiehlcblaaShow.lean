/- Shows: rigs, scores, winds. -/
import Derived.Test.YtnoodoiehlcblaaAbb
import Derived.Test.YtnoodoiehlcblaaScore
import Derived.Test.YtnoodoiehlcblaaOpen
set_option linter.unusedVariables false
set_option linter.unusedSimpArgs false
set_option maxRecDepth 100000
namespace Ev
open Go
/-! ### Devices -/
noncomputable abbrev gDevS := F95 gNmS (F102 gIn) (F118 gJetS) gIn gPlS
noncomputable abbrev gDev := F107 gNm (F82 gW) gJet gW gPl
def devJ (d : Device) : Jet := ⟨⟨d.At.X, d.At.Y⟩, d.Heading, d.Tilt, 1⟩
theorem supS (x : Int) : F102 gIn (x, ()) = some (wi x 0 512, ()) := by
  unfold F102; simp only [in_is, Option.bind_some]
theorem supI (x : Int) : F82 gW (x, ()) = some (wi x 0 512, ()) := by
  unfold F82; simp only [within_is, Option.bind_some]
theorem djS (d : Device) : F118 gJetS (d, ()) = some (isJet (devJ d), ()) := by
  unfold F118; exact congrArg (fun o => Option.bind o fun x1 => some (x1.1, ())) (jetS (devJ d))
theorem dev_ok (d : Device) (h1 : d.Name.length ≤ 1048576) (h2 : d.Line.length ≤ 1048576) : ∃ b, gDevS (d, ()) = some (b, ()) ∧ gDev (d, ()) = some (b, ()) ∧ (b = true → d.Kind = 1 ∨ (d.Kind = 2 ∧ 0 ≤ d.Most ∧ d.Most ≤ 32) ∨ d.Kind = 3) := by
  have jI : gJet ((⟨⟨d.At.X, d.At.Y⟩, d.Heading, d.Tilt, 1⟩ : Jet), ()) = some (isJet (devJ d), ()) := jetI (devJ d)
  unfold gDevS F95 gDev F107
  simp only [nameS d.Name h1, nameS d.Line h2, nameI d.Name h1, nameI d.Line h2, supS, supI, djS, jI, in_is, within_is, placeS, placeI, Option.bind_some, decide_true, Bool.true_and, Bool.and_true]
  by_cases k1 : d.Kind = 1
  · have k2 : ¬ d.Kind = 2 := by omega
    simp only [k1, decide_true, cond_true]
    generalize (decide (d.Line = []) && (decide (d.At.X = 0) && (decide (d.At.Y = 0) && (decide (d.Heading = 0) && decide (d.Tilt = 0))))) = z
    cases isNm d.Name <;> cases isNm d.Line <;> cases wi d.Most 0 512 <;> cases z <;> exact ⟨_, rfl, rfl, fun _ => by simp⟩
  · by_cases k2 : d.Kind = 2
    · simp only [k2, decide_true, cond_true, show ¬ (2 : Int) = 1 by decide, decide_false, cond_false]
      cases hm : wi d.Most 0 32
      · cases isNm d.Name <;> cases isNm d.Line <;> cases decide (d.Line = d.Name) <;> cases isJet (devJ d) <;> exact ⟨_, rfl, rfl, fun h => by cases h⟩
      · have hm' := wi_true.1 hm
        cases isNm d.Name <;> cases isNm d.Line <;> cases decide (d.Line = d.Name) <;> cases isJet (devJ d) <;> exact ⟨_, rfl, rfl, fun _ => .inr (.inl ⟨by simp, hm'⟩)⟩
    · by_cases k3 : d.Kind = 3
      · simp only [k3, decide_true, cond_true, show ¬ (3 : Int) = 1 by decide, show ¬ (3 : Int) = 2 by decide, decide_false, cond_false]
        generalize (decide (d.Heading = 0) && (decide (d.Tilt = 0) && decide (d.Most = 0))) = z
        cases isNm d.Name <;> cases isNm d.Line <;> cases decide (d.Line = d.Name) <;> cases isPl d.At <;> cases z <;> exact ⟨_, rfl, rfl, fun _ => by simp⟩
      · simp only [k1, k2, k3, decide_false, cond_false]
        cases isNm d.Name <;> cases isNm d.Line <;> exact ⟨_, rfl, rfl, fun h => by cases h⟩

def DevsOK (l : List Device) : Prop := ∀ d ∈ l, d.Name.length ≤ 1048576 ∧ d.Line.length ≤ 1048576
theorem less_total : ∀ (a b : Str), (!Op.bytesLess b a) = (Op.bytesLess a b || decide (a = b))
  | [], [] => rfl
  | [], y :: b => by simp [Op.bytesLess]
  | x :: a, [] => by simp [Op.bytesLess]
  | x :: a, y :: b => by
    have ih := less_total a b
    simp only [Op.bytesLess]
    rcases Nat.lt_trichotomy x.toNat y.toNat with h | h | h
    · replace h := UInt8.lt_iff_toNat_lt.mpr h
      have h1 : ¬ y < x := UInt8.lt_asymm h
      have h2 : ¬ y = x := fun e => by subst e; exact UInt8.lt_irrefl _ h
      have h3 : ¬ x = y := fun e => h2 e.symm
      simp [h, h1, h2, h3]
    · replace h := UInt8.toNat_inj.mp h
      subst h
      have h1 : ¬ x < x := UInt8.lt_irrefl _
      simp [h1, ih]
    · replace h := UInt8.lt_iff_toNat_lt.mpr h
      have h1 : ¬ x < y := UInt8.lt_asymm h
      have h2 : ¬ y = x := fun e => by subst e; exact UInt8.lt_irrefl _ h
      have h3 : ¬ x = y := fun e => h2 e.symm
      simp [h, h1, h2, h3]
/-! ### Rigs -/
noncomputable abbrev gFindS := F53
noncomputable abbrev gFind := F55 (F89 F90)
theorem find_ok (l : List Device) (hl : l.length ≤ 1048576) (name : Str) : ∃ v, gFindS (l, name, ()) = some (v, ()) ∧ gFind (l, name, ()) = some (v, ()) ∧ (0 ≤ v → v < (l.length : Int)) := by
  have key : ∀ (d i n : Nat), i + d = l.length → d < n → ∃ v,
      iterF s53_0 n (name, l, Int.ofNat l.length, (i : Int), ()) (fun t3 => some ((-1), ())) = some (v, ()) ∧
      iterF (s89_0 F90) n (l, (name, ()), Int.ofNat l.length, (i : Int), ()) (fun t4 => some ((-1), ())) = some (v, ()) ∧ (0 ≤ v → v < (l.length : Int)) := by
    intro d
    induction d with
    | zero =>
      intro i n hd hn
      obtain ⟨n, rfl⟩ : ∃ k, n = k + 1 := ⟨n - 1, by omega⟩
      refine ⟨-1, ?_, ?_, by omega⟩
      · rw [iterF_succ]; simp only [s53_0]; rw [cond_false_dec (by simp; omega)]
      · rw [iterF_succ]; simp only [s89_0]; rw [cond_false_dec (by simp; omega)]
    | succ d ih =>
      intro i n hd hn
      obtain ⟨n, rfl⟩ : ∃ k, n = k + 1 := ⟨n - 1, by omega⟩
      have hi : i < l.length := by omega
      have hx : l[i]? = some l[i] := by simp
      have e1 : w64 ((i : Int) + 1) = ((i + 1 : Nat) : Int) := w64_id (by omega) (by omega)
      by_cases hc : l[i].Name = name
      · refine ⟨(i : Int), ?_, ?_, by omega⟩
        · rw [iterF_succ]; simp only [s53_0]; rw [cond_true_dec (by simp; omega), rdL_at hx, cond_true_dec hc]
        · rw [iterF_succ]; simp only [s89_0, F90]; rw [cond_true_dec (by simp; omega), rdL_at hx]
          simp only [Option.bind_some]
          rw [cond_true_dec hc]
      · obtain ⟨v, g1, g2, g3⟩ := ih (i + 1) n (by omega) (by omega)
        refine ⟨v, ?_, ?_, g3⟩
        · rw [iterF_succ]; simp only [s53_0]; rw [cond_true_dec (by simp; omega), rdL_at hx, cond_false_dec hc, e1]; exact g1
        · rw [iterF_succ]; simp only [s89_0, F90]; rw [cond_true_dec (by simp; omega), rdL_at hx]
          simp only [Option.bind_some]
          rw [cond_false_dec hc, e1]; exact g2
  obtain ⟨v, g1, g2, g3⟩ := key l.length 0 fuel (by omega) (by rw [fuel_eq]; omega)
  refine ⟨v, g1, ?_, g3⟩
  unfold gFind F55 F89
  exact congrArg (fun o => Option.bind o fun x1 => some (x1.1, ())) g2
noncomputable abbrev gHungS := F96 gFindS
noncomputable abbrev gHung := F108 gFind
theorem hung_ok (l : List Device) (hl : l.length ≤ 1048576) (d : Device) (hk : d.Kind = 1 ∨ d.Kind = 2 ∨ d.Kind = 3) : ∃ b, gHungS (l, d, ()) = some (b, ()) ∧ gHung (l, d, ()) = some (b, ()) := by
  obtain ⟨v, f1, f2, f3⟩ := find_ok l hl d.Line
  unfold gHungS F96 gHung F108
  simp only [f1, f2, Option.bind_some]
  rcases hk with hk | hk | hk
  · simp only [hk]
    exact ⟨true, rfl, rfl⟩
  · have e : w64 (2 - 1) = 1 := by kernel_rfl
    simp only [hk, e]
    by_cases hv : v ≥ 0
    · obtain ⟨i, rfl⟩ := Int.eq_ofNat_of_zero_le hv
      have hi : i < l.length := by have := f3 hv; omega
      have hx : l[i]? = some l[i] := by simp
      refine ⟨decide (l[i].Kind = 1), ?_, ?_⟩
      · rw [cond_true_dec (by decide), cond_true_dec hv, rdL_at hx]
      · rw [cond_false_dec (by decide), cond_true_dec hv, rdL_at hx]
    · refine ⟨false, ?_, ?_⟩
      · rw [cond_true_dec (by decide), cond_false_dec hv]
      · rw [cond_false_dec (by decide), cond_false_dec hv]
  · have e : w64 (3 - 1) = 2 := by kernel_rfl
    simp only [hk, e]
    by_cases hv : v ≥ 0
    · obtain ⟨i, rfl⟩ := Int.eq_ofNat_of_zero_le hv
      have hi : i < l.length := by have := f3 hv; omega
      have hx : l[i]? = some l[i] := by simp
      refine ⟨decide (l[i].Kind = 2), ?_, ?_⟩
      · rw [cond_false_dec (by decide), cond_true_dec (by decide), cond_true_dec hv, rdL_at hx]
      · rw [cond_false_dec (by decide), cond_true_dec hv, rdL_at hx]
    · refine ⟨false, ?_, ?_⟩
      · rw [cond_false_dec (by decide), cond_true_dec (by decide), cond_false_dec hv]
      · rw [cond_false_dec (by decide), cond_false_dec hv]
noncomputable abbrev gRigS := F67 gDevS gHungS
noncomputable abbrev gRig := F77 gDev gHung
theorem rig_ok (l : List Device) (hl : l.length ≤ 1048576) (hn : DevsOK l) : ∃ b, gRigS (l, ()) = some (b, ()) ∧ gRig (l, ()) = some (b, ()) ∧ (b = true → l.length ≤ 8 ∧ ∀ d ∈ l, gDev (d, ()) = some (true, ())) := by
  have key : ∀ (d i n : Nat), i + d = l.length → d < n → ∃ b,
      iterF (s67_0 gDevS gHungS) n (l, l, Int.ofNat l.length, (i : Int), ()) (fun t7 => some ((decide ((Int.ofNat (List.length t7.1)) ≤ 8)), ())) = some (b && decide (Int.ofNat l.length ≤ 8), ()) ∧
      iterF (s77_0 gDev gHung) n (l, l, Int.ofNat l.length, (i : Int), ()) (fun t7 => some (true, ())) = some (b, ()) ∧ (b = true → ∀ j, i ≤ j → ∀ h : j < l.length, gDev (l[j], ()) = some (true, ())) := by
    intro d
    induction d with
    | zero =>
      intro i n hd hn
      obtain ⟨n, rfl⟩ : ∃ k, n = k + 1 := ⟨n - 1, by omega⟩
      refine ⟨true, ?_, ?_, fun _ j h1 h2 => by omega⟩
      · rw [iterF_succ]; simp only [s67_0]; rw [cond_false_dec (by simp; omega), Bool.true_and]
      · rw [iterF_succ]; simp only [s77_0]; rw [cond_false_dec (by simp; omega)]
    | succ d ih =>
      intro i n hd hnn
      obtain ⟨n, rfl⟩ : ∃ k, n = k + 1 := ⟨n - 1, by omega⟩
      have hi : i < l.length := by omega
      have hx : l[i]? = some l[i] := by simp
      have e1 : w64 ((i : Int) + 1) = ((i + 1 : Nat) : Int) := w64_id (by omega) (by omega)
      obtain ⟨q1, q2⟩ := hn l[i] (by simp)
      obtain ⟨v, d1, d2, d3⟩ := dev_ok l[i] q1 q2
      cases hv : v
      · subst hv
        refine ⟨false, ?_, ?_, fun h => by cases h⟩
        · rw [iterF_succ]; simp only [s67_0]; rw [cond_true_dec (by simp; omega), rdL_at hx, d1]; rfl
        · rw [iterF_succ]; simp only [s77_0]; rw [cond_true_dec (by simp; omega), rdL_at hx, d2]; rfl
      · subst hv
        have hk : l[i].Kind = 1 ∨ l[i].Kind = 2 ∨ l[i].Kind = 3 := by
          rcases d3 rfl with h | h | h
          · exact .inl h
          · exact .inr (.inl h.1)
          · exact .inr (.inr h)
        obtain ⟨hb, u1, u2⟩ := hung_ok l hl l[i] hk
        obtain ⟨b, g1, g2, g3⟩ := ih (i + 1) n (by omega) (by omega)
        have g4 : b = true → ∀ j, i ≤ j → ∀ h : j < l.length, gDev (l[j], ()) = some (true, ()) := fun hb j hj hjl => by
          by_cases hji : j = i
          · subst hji; exact d2
          · exact g3 hb j (by omega) hjl
        by_cases hz : (i : Int) > 0
        · obtain ⟨j, rfl⟩ : ∃ j, i = j + 1 := ⟨i - 1, by omega⟩
          have hy : l[j]? = some l[j] := by simp
          have e2 : w64 (((j + 1 : Nat) : Int) - 1) = (j : Int) := by rw [w64_id (by omega) (by omega)]; omega
          cases ho : Op.bytesLess l[j].Name l[j + 1].Name
          · have ho' : (Op.bytesLess l[j + 1].Name l[j].Name || decide (l[j + 1].Name = l[j].Name)) = true := by rw [← less_total, ho]; rfl
            refine ⟨false, ?_, ?_, fun h => by cases h⟩
            · rw [iterF_succ]; simp only [s67_0]; rw [cond_true_dec (by simp; omega), rdL_at hx, d1]
              simp only [Option.bind_some, Bool.not_true, Bool.not_false, cond_true]
              rw [cond_true_dec hz, e2, rdL_at hy, ho]; rfl
            · rw [iterF_succ]; simp only [s77_0]; rw [cond_true_dec (by simp; omega), rdL_at hx, d2]
              simp only [Option.bind_some, Bool.not_true, Bool.not_false, cond_true]
              rw [cond_true_dec hz, e2, rdL_at hy, ho']; rfl
          · have ho' : (Op.bytesLess l[j + 1].Name l[j].Name || decide (l[j + 1].Name = l[j].Name)) = false := by rw [← less_total, ho]; rfl
            cases hb
            · refine ⟨false, ?_, ?_, fun h => by cases h⟩
              · rw [iterF_succ]; simp only [s67_0]; rw [cond_true_dec (by simp; omega), rdL_at hx, d1]
                simp only [Option.bind_some, Bool.not_true, Bool.not_false, cond_true]
                rw [cond_true_dec hz, e2, rdL_at hy, ho, u1]; rfl
              · rw [iterF_succ]; simp only [s77_0]; rw [cond_true_dec (by simp; omega), rdL_at hx, d2]
                simp only [Option.bind_some, Bool.not_true, Bool.not_false, cond_true]
                rw [cond_true_dec hz, e2, rdL_at hy, ho', u2]; rfl
            · refine ⟨b, ?_, ?_, g4⟩
              · rw [iterF_succ]; simp only [s67_0]; rw [cond_true_dec (by simp; omega), rdL_at hx, d1]
                simp only [Option.bind_some, Bool.not_true, Bool.not_false, cond_true]
                rw [cond_true_dec hz, e2, rdL_at hy, ho, u1, e1]; exact g1
              · rw [iterF_succ]; simp only [s77_0]; rw [cond_true_dec (by simp; omega), rdL_at hx, d2]
                simp only [Option.bind_some, Bool.not_true, Bool.not_false, cond_true]
                rw [cond_true_dec hz, e2, rdL_at hy, ho', u2, e1]; exact g2
        · cases hb
          · refine ⟨false, ?_, ?_, fun h => by cases h⟩
            · rw [iterF_succ]; simp only [s67_0]; rw [cond_true_dec (by simp; omega), rdL_at hx, d1]
              simp only [Option.bind_some, Bool.not_true, Bool.not_false, cond_true]
              rw [cond_false_dec hz, u1]; rfl
            · rw [iterF_succ]; simp only [s77_0]; rw [cond_true_dec (by simp; omega), rdL_at hx, d2]
              simp only [Option.bind_some, Bool.not_true, Bool.not_false, cond_true]
              rw [cond_false_dec hz, u2]; rfl
          · refine ⟨b, ?_, ?_, g4⟩
            · rw [iterF_succ]; simp only [s67_0]; rw [cond_true_dec (by simp; omega), rdL_at hx, d1]
              simp only [Option.bind_some, Bool.not_true, Bool.not_false, cond_true]
              rw [cond_false_dec hz, u1, e1]; exact g1
            · rw [iterF_succ]; simp only [s77_0]; rw [cond_true_dec (by simp; omega), rdL_at hx, d2]
              simp only [Option.bind_some, Bool.not_true, Bool.not_false, cond_true]
              rw [cond_false_dec hz, u2, e1]; exact g2
  obtain ⟨b, g1, g2, g3⟩ := key l.length 0 fuel (by omega) (by rw [fuel_eq]; omega)
  refine ⟨b && decide (Int.ofNat l.length ≤ 8), g1, ?_, fun h => ?_⟩
  rotate_left
  · simp only [Bool.and_eq_true, decide_eq_true_eq] at h
    refine ⟨by have := h.2; simp at this; omega, fun d hd => ?_⟩
    obtain ⟨j, hj, rfl⟩ := List.getElem_of_mem hd
    exact g3 h.1 j (by omega) hj
  unfold gRig F77
  by_cases h8 : Int.ofNat l.length > 8
  · rw [cond_true_dec h8, decide_eq_false (by omega), Bool.and_false]
  · rw [cond_false_dec h8, decide_eq_true (by omega), Bool.and_true]
    exact g2
/-! ### Winds -/
noncomputable abbrev gWindS := F69 gIn gDrS
noncomputable abbrev gWind := F79 gW gDr
theorem wind_same : gWindS = gWind := by
  have e : s69_0 gIn gDrS = s79_0 gW gDr := by
    funext t rec K
    simp only [s69_0, s79_0, drS, drI, in_is, within_is]
    try rfl
  funext a
  unfold gWindS gWind F69 F79
  rw [e]
theorem wind_some (l : List Gust) (hl : l.length ≤ 1048576) : ∃ b, gWind (l, ()) = some (b, ()) := by
  unfold gWind F79
  rcases iterF_rule (f := s79_0 gW gDr) (K := fun t6 => some (decide (Int.ofNat (List.length t6.1) ≤ 8), ())) (t := (l, l, Int.ofNat l.length, 0, ())) l.length
    (fun i t => t = (l, l, Int.ofNat l.length, (i : Int), ())) (fun x => x = some (false, ())) (fun t => True) (by omega) rfl
    (by
      rintro i _ hi rfl
      have hx : l[i]? = some l[i] := by simp
      have e1 : w64 ((i : Int) + 1) = ((i + 1 : Nat) : Int) := w64_id (by omega) (by omega)
      cases h1 : wi l[i].From 0 64
      · refine .inr (.inl ⟨_, rfl, fun rec K => ?_⟩)
        simp only [s79_0]
        rw [cond_true_dec (by simp; omega), rdL_at hx]
        simp only [within_is, h1, Option.bind_some]; rfl
      · cases h2 : isDr l[i].Drift
        · refine .inr (.inl ⟨_, rfl, fun rec K => ?_⟩)
          simp only [s79_0]
          rw [cond_true_dec (by simp; omega), rdL_at hx]
          simp only [within_is, drI, h1, h2, Option.bind_some]; rfl
        · by_cases hz : (i : Int) > 0
          · obtain ⟨j, rfl⟩ : ∃ j, i = j + 1 := ⟨i - 1, by omega⟩
            have hy : l[j]? = some l[j] := by simp
            have e2 : w64 (((j + 1 : Nat) : Int) - 1) = (j : Int) := by rw [w64_id (by omega) (by omega)]; omega
            by_cases hc : l[j + 1].From ≤ l[j].From
            · refine .inr (.inl ⟨_, rfl, fun rec K => ?_⟩)
              simp only [s79_0]
              rw [cond_true_dec (by simp; omega), rdL_at hx]
              simp only [within_is, drI, h1, h2, Option.bind_some, Bool.not_true, Bool.not_false, cond_true]
              rw [cond_true_dec hz, e2, rdL_at hy, cond_true_dec hc]
            · refine .inl ⟨_, rfl, fun rec K => ?_⟩
              simp only [s79_0]
              rw [cond_true_dec (by simp; omega), rdL_at hx]
              simp only [within_is, drI, h1, h2, Option.bind_some, Bool.not_true, Bool.not_false, cond_true]
              rw [cond_true_dec hz, e2, rdL_at hy, cond_false_dec hc, e1]
          · refine .inl ⟨_, rfl, fun rec K => ?_⟩
            simp only [s79_0]
            rw [cond_true_dec (by simp; omega), rdL_at hx]
            simp only [within_is, drI, h1, h2, Option.bind_some, Bool.not_true, Bool.not_false, cond_true]
            rw [cond_false_dec hz, e1])
    (by
      rintro _ rfl
      refine .inr ⟨(l, l, Int.ofNat l.length, (l.length : Int), ()), trivial, fun rec K => ?_⟩
      simp only [s79_0]
      rw [cond_false_dec (by simp)]) with ⟨x, rfl, h⟩ | ⟨t, _, h⟩
  · exact ⟨false, h⟩
  · exact ⟨_, h⟩
/-! ### Shows -/
abbrev ShowT := List Device × List Cue × List Gust × Int × Unit
structure ShowOK (s : ShowT) : Prop where
  rig : s.1.length ≤ 1048576
  devs : DevsOK s.1
  score : s.2.1.length ≤ 1048576
  names : NamesOK s.2.1
  wind : s.2.2.1.length ≤ 1048576
noncomputable abbrev gShowS := F38 gRigS gScoreS gWindS gIn
noncomputable abbrev gShow := F43 gRig gScore gWind gW
theorem show_ok (s : ShowT) (h : ShowOK s) : ∃ b, gShowS (s, ()) = some (b, ()) ∧ gShow (s, ()) = some (b, ()) := by
  obtain ⟨rig, score, wind, ticks, u⟩ := s
  obtain ⟨b1, r1, r2, _⟩ := rig_ok rig h.rig h.devs
  obtain ⟨b2, c2, _⟩ := score_ok score h.names h.score
  have c1 : gScoreS (score, ()) = some (b2, ()) := by rw [score_same score h.names]; exact c2
  obtain ⟨b3, w2⟩ := wind_some wind h.wind
  have w1 : gWindS (wind, ()) = some (b3, ()) := by rw [wind_same]; exact w2
  unfold gShowS F38 gShow F43
  simp only [r1, r2, c1, c2, w1, w2, in_is, within_is, Option.bind_some]
  cases b1 <;> cases b2 <;> cases b3 <;> exact ⟨_, rfl, rfl⟩
/-! ### Sizes, copies, comparisons -/
theorem szDevN (d : Device) (h1 : d.Name.length ≤ 9223372036854775807) (h2 : d.Line.length ≤ 9223372036854775807) (n : Int) (hn : 0 ≤ n ∧ n ≤ 1048576) :
    F65 (d, n, ()) = some (if n < (d.Name.length : Int) + (d.Line.length : Int) then -1 else n - ((d.Name.length : Int) + (d.Line.length : Int)), ()) := by
  unfold F65
  have e1 : w64 (n - Int.ofNat d.Name.length) = n - (d.Name.length : Int) := w64_id (by simp; omega) (by simp; omega)
  simp only [e1]
  by_cases c : n < (d.Name.length : Int)
  · rw [cond_true_dec (by omega), if_pos (by omega)]
  · rw [cond_false_dec (by omega)]
    have e2 : w64 (n - (d.Name.length : Int) - Int.ofNat d.Line.length) = n - ((d.Name.length : Int) + (d.Line.length : Int)) := by
      rw [w64_id (by simp; omega) (by simp; omega)]; simp; omega
    rw [e2]
    by_cases c2 : n < (d.Name.length : Int) + (d.Line.length : Int)
    · rw [cond_true_dec (by omega), if_pos c2]
    · rw [cond_false_dec (by omega), if_neg c2]
theorem szDevs (l : List Device) (hw : ∀ d ∈ l, d.Name.length ≤ 9223372036854775807 ∧ d.Line.length ≤ 9223372036854775807) (hm : l.length ≤ 9223372036854775807) (n : Int) (hn : 0 ≤ n ∧ n ≤ 1048576) :
    ∃ x, F35 F65 (l, n, ()) = some (x, ()) ∧ (0 ≤ x → x ≤ 1048576 ∧ l.length ≤ 1048576 ∧ DevsOK l) := by
  unfold F35
  have e0 : w64 (n - Int.ofNat l.length) = n - (l.length : Int) := w64_id (by simp; omega) (by simp; omega)
  simp only [e0]
  by_cases hl : n < (l.length : Int)
  · rw [cond_true_dec (by omega)]
    exact ⟨-1, rfl, fun h => by omega⟩
  · rw [cond_false_dec (by omega)]
    rcases iterF_rule (f := s35_0 F65) (K := fun t4 => some (t4.2.1, ())) (t := (l, n - (l.length : Int), 0, ())) l.length
      (fun i t => ∃ x, t = (l, x, (i : Int), ()) ∧ 0 ≤ x ∧ x ≤ 1048576 ∧ ∀ d ∈ l.take i, d.Name.length ≤ 1048576 ∧ d.Line.length ≤ 1048576) (fun r => r = some (-1, ())) (fun t => DevsOK l ∧ t.2.1 ≤ 1048576) (by omega) ⟨_, rfl, by omega, by omega, by simp⟩
      (by
        rintro i _ hi ⟨x, rfl, x0, x1, hall⟩
        have hx : l[i]? = some l[i] := by simp
        obtain ⟨hb1, hb2⟩ := hw l[i] (by simp)
        have e1 : w64 ((i : Int) + 1) = ((i + 1 : Nat) : Int) := w64_id (by omega) (by omega)
        by_cases c : x < (l[i].Name.length : Int) + (l[i].Line.length : Int)
        · refine .inr (.inl ⟨_, rfl, fun rec K => ?_⟩)
          simp only [s35_0]
          rw [cond_true_dec (by simp; omega), rdL_at hx, szDevN _ hb1 hb2 x ⟨x0, x1⟩, if_pos c]
          rfl
        · refine .inl ⟨_, ⟨x - ((l[i].Name.length : Int) + (l[i].Line.length : Int)), rfl, by omega, by omega, fun c hc => ?_⟩, fun rec K => ?_⟩
          · rw [List.take_add_one, hx] at hc
            rcases List.mem_append.mp hc with h | h
            · exact hall c h
            · simp at h; subst h; omega
          · simp only [s35_0]
            rw [cond_true_dec (by simp; omega), rdL_at hx, szDevN _ hb1 hb2 x ⟨x0, x1⟩, if_neg c]
            simp only [Option.bind_some]
            rw [cond_false_dec (by omega), e1])
      (by
        rintro _ ⟨x, rfl, x0, x1, hall⟩
        refine .inr ⟨(l, x, (l.length : Int), ()), ⟨fun c hc => hall c (by simpa using hc), x1⟩, fun rec K => ?_⟩
        simp only [s35_0]
        rw [cond_false_dec (by simp)]) with ⟨r, rfl, h⟩ | ⟨t, ⟨hn', ht⟩, h⟩
    · exact ⟨-1, h, fun h => by omega⟩
    · exact ⟨_, h, fun _ => ⟨ht, by omega, hn'⟩⟩
theorem szCuesN (l : List Cue) (hw : ∀ c ∈ l, c.Name.length ≤ 9223372036854775807) (hm : l.length ≤ 9223372036854775807) (n : Int) (hn : 0 ≤ n ∧ n ≤ 1048576) :
    ∃ x, F36 F66 (l, n, ()) = some (x, ()) ∧ (0 ≤ x → x ≤ 1048576 ∧ l.length ≤ 1048576 ∧ NamesOK l) := by
  unfold F36
  have e0 : w64 (n - Int.ofNat l.length) = n - (l.length : Int) := w64_id (by simp; omega) (by simp; omega)
  simp only [e0]
  by_cases hl : n < (l.length : Int)
  · rw [cond_true_dec (by omega)]
    exact ⟨-1, rfl, fun h => by omega⟩
  · rw [cond_false_dec (by omega)]
    rcases iterF_rule (f := s36_0 F66) (K := fun t4 => some (t4.2.1, ())) (t := (l, n - (l.length : Int), 0, ())) l.length
      (fun i t => ∃ x, t = (l, x, (i : Int), ()) ∧ 0 ≤ x ∧ x ≤ 1048576 ∧ ∀ c ∈ l.take i, c.Name.length ≤ 1048576) (fun r => r = some (-1, ())) (fun t => NamesOK l ∧ t.2.1 ≤ 1048576) (by omega) ⟨_, rfl, by omega, by omega, by simp⟩
      (by
        rintro i _ hi ⟨x, rfl, x0, x1, hall⟩
        have hx : l[i]? = some l[i] := by simp
        have hb := hw l[i] (by simp)
        have e1 : w64 ((i : Int) + 1) = ((i + 1 : Nat) : Int) := w64_id (by omega) (by omega)
        have e2 : w64 (x - Int.ofNat l[i].Name.length) = x - (l[i].Name.length : Int) := w64_id (by simp; omega) (by simp; omega)
        by_cases c : x - (l[i].Name.length : Int) < 0
        · refine .inr (.inl ⟨_, rfl, fun rec K => ?_⟩)
          simp only [s36_0, F66]
          rw [cond_true_dec (by simp; omega), rdL_at hx]
          simp only [e2]
          rw [cond_true_dec c]
          rfl
        · refine .inl ⟨_, ⟨x - (l[i].Name.length : Int), rfl, by omega, by omega, fun c hc => ?_⟩, fun rec K => ?_⟩
          · rw [List.take_add_one, hx] at hc
            rcases List.mem_append.mp hc with h | h
            · exact hall c h
            · simp at h; subst h; omega
          · simp only [s36_0, F66]
            rw [cond_true_dec (by simp; omega), rdL_at hx]
            simp only [e2]
            rw [cond_false_dec c]
            simp only [Option.bind_some]
            rw [cond_false_dec c, e1])
      (by
        rintro _ ⟨x, rfl, x0, x1, hall⟩
        refine .inr ⟨(l, x, (l.length : Int), ()), ⟨fun c hc => hall c (by simpa using hc), x1⟩, fun rec K => ?_⟩
        simp only [s36_0]
        rw [cond_false_dec (by simp)]) with ⟨r, rfl, h⟩ | ⟨t, ⟨hn', ht⟩, h⟩
    · exact ⟨-1, h, fun h => by omega⟩
    · exact ⟨_, h, fun _ => ⟨ht, by omega, hn'⟩⟩
theorem szGusts (l : List Gust) (hm : l.length ≤ 9223372036854775807) (n : Int) (hn : 0 ≤ n ∧ n ≤ 1048576) :
    ∃ x, F37 (l, n, ()) = some (x, ()) ∧ (0 ≤ x → x ≤ 1048576 ∧ l.length ≤ 1048576) := by
  unfold F37
  have e0 : w64 (n - Int.ofNat l.length) = n - (l.length : Int) := w64_id (by simp; omega) (by simp; omega)
  simp only [e0]
  by_cases hl : n - (l.length : Int) < 0
  · rw [cond_true_dec hl]; exact ⟨-1, rfl, fun h => by omega⟩
  · rw [cond_false_dec hl]; exact ⟨_, rfl, fun h => by omega⟩
def ShowWf (s : ShowT) : Prop := ((∀ d ∈ s.1, Wf .device d) ∧ s.1.length ≤ maxLen) ∧ ((∀ c ∈ s.2.1, Wf .cue c) ∧ s.2.1.length ≤ maxLen) ∧ ((∀ g ∈ s.2.2.1, Wf .gust g) ∧ s.2.2.1.length ≤ maxLen)
theorem open_show {w : World} {ca : Array Value} (h : KList w [.sl .device, .sl .cue, .sl .gust, .int .i64] ca.toList) :
    ∃ x : ShowT, RelA (fun _ => none) (fun b => b < w.heap.size) w (.agg [.lst .device x.1, .lst .cue x.2.1, .lst .gust x.2.2.1, .int .i64 x.2.2.2.1]) (.agg ca) ∧ ShowWf x := by
  obtain ⟨c0, r0, e0, ⟨l0, a0, b0, m0⟩, h1⟩ := klist_cons h
  obtain ⟨c1, r1, e1, ⟨l1, a1, b1, m1⟩, h2⟩ := klist_cons h1
  obtain ⟨c2, r2, e2, ⟨l2, a2, b2, m2⟩, h3⟩ := klist_cons h2
  obtain ⟨c3, r3, e3, ⟨n, a3, b3⟩, h4⟩ := klist_cons h3
  have e4 := klist_nil h4
  refine ⟨(l0, l1, l2, n, ()), relA_list ?_, ⟨b0, m0⟩, ⟨b1, m1⟩, ⟨b2, m2⟩⟩
  rw [e0, e1, e2, e3, e4]
  exact ⟨a0, a1, a2, a3, trivial⟩
noncomputable abbrev gSz := F10 (F35 F65) (F36 F66) F37
theorem szShow_ok (s : ShowT) (hw : ShowWf s) (n : Int) (hn : 0 ≤ n ∧ n ≤ 1048576) : ∃ x, gSz (s, n, ()) = some (x, ()) ∧ (0 ≤ x → x ≤ 1048576 ∧ ShowOK s) := by
  obtain ⟨rig, score, wind, ticks, u⟩ := s
  obtain ⟨⟨a1, a2⟩, ⟨b1, b2⟩, ⟨c1, c2⟩⟩ := hw
  have le : maxLen ≤ 9223372036854775807 := by decide
  obtain ⟨x, hx, hx'⟩ := szDevs rig (fun d hd => ⟨Nat.le_trans (a1 d hd (.str d.Name) (by simp [Ty.cells])) le, Nat.le_trans (a1 d hd (.str d.Line) (by simp [Ty.cells])) le⟩) (Nat.le_trans a2 le) n hn
  unfold gSz F10
  simp only [hx, Option.bind_some]
  by_cases h1 : x < 0
  · rw [cond_true_dec h1]; exact ⟨-1, rfl, fun h => by omega⟩
  · rw [cond_false_dec h1]
    obtain ⟨p1, p2, p3⟩ := hx' (by omega)
    obtain ⟨y, hy, hy'⟩ := szCuesN score (fun c hc => Nat.le_trans (b1 c hc (.str c.Name) (by simp [Ty.cells])) le) (Nat.le_trans b2 le) x (by omega)
    simp only [hy, Option.bind_some]
    by_cases h2 : y < 0
    · rw [cond_true_dec h2]; exact ⟨-1, rfl, fun h => by omega⟩
    · rw [cond_false_dec h2]
      obtain ⟨q1, q2, q3⟩ := hy' (by omega)
      obtain ⟨z, hz, hz'⟩ := szGusts wind (Nat.le_trans c2 le) y (by omega)
      simp only [hz, Option.bind_some]
      by_cases h3 : z < 0
      · rw [cond_true_dec h3]; exact ⟨-1, rfl, fun h => by omega⟩
      · rw [cond_false_dec h3]
        exact ⟨z, rfl, fun h => ⟨(hz' h).1, p2, p3, q2, q3, (hz' h).2⟩⟩
theorem toCues (l : List Cue) (hl : l.length ≤ 1048576) : F41 F75 (l, ()) = some (l, ()) := by
  unfold F41
  rw [okIf_pos (by simp), capK_le (by simp; omega)]
  obtain ⟨t, ⟨m, rfl, h1, h2⟩, e⟩ := iterF_all (f := s41_0 F75) (K := fun t4 => some (t4.2.1, ())) (t := (l, List.replicate (Int.toNat (Int.ofNat l.length)) (Ty.zero .cue), 0, ())) l.length
    (fun i t => ∃ m : List Cue, t = (l, m, (i : Int), ()) ∧ m.length = l.length ∧ ∀ j, j < i → m[j]? = l[j]?) (by omega) ⟨_, rfl, by simp, fun j hj => by omega⟩
    (by
      rintro i _ hi ⟨m, rfl, h1, h2⟩
      have hx : l[i]? = some l[i] := by simp
      have hd : m[i]? = some m[i] := by simp
      refine ⟨_, ⟨m.set i l[i], rfl, by simp [h1], fun j hj => ?_⟩, fun rec K => ?_⟩
      · rw [List.getElem?_set]
        by_cases hji : i = j
        · subst hji; simp [h1, hi]
        · simp only [if_neg hji]; exact h2 j (by omega)
      · simp only [s41_0]
        rw [cond_dec, if_pos (by simp; omega), rdL_at hx]
        simp only [F75, Option.bind_some]
        rw [rdL_at hd]
        simp only [Int.toNat_natCast]
        rw [hd, w64_id (by omega) (by omega)]
        rfl)
    (by
      rintro _ ⟨m, rfl, h1, h2⟩ rec K
      simp only [s41_0]
      rw [cond_dec, if_neg (by simp)])
  have : m = l := List.ext_getElem? fun j => by
    by_cases hj : j < l.length
    · exact h2 j hj
    · rw [List.getElem?_eq_none (by omega), List.getElem?_eq_none (by omega)]
  subst this
  exact e
theorem eqCue_self (a : Cue) : F87 (a, a, ()) = some (true, ()) := by
  unfold F87; simp
theorem eqCues (l : List Cue) (hl : l.length ≤ 1048576) : F48 F87 (l, l, ()) = some (true, ()) := by
  unfold F48
  simp only [decide_true, Bool.not_true, cond_false]
  obtain ⟨t, ⟨_, rfl⟩, e⟩ := iterF_all (f := s48_0 F87) (K := fun _ => some (true, ())) (t := (l, l, 0, ())) l.length
    (fun i t => True ∧ t = (l, l, (i : Int), ())) (by omega) ⟨trivial, rfl⟩
    (by
      rintro i _ hi ⟨_, rfl⟩
      have hx : l[i]? = some l[i] := by simp
      refine ⟨_, ⟨trivial, rfl⟩, fun rec K => ?_⟩
      simp only [s48_0]
      rw [cond_true_dec (by simp <;> omega), rdL_at hx, rdL_at hx, eqCue_self, w64_id (by omega) (by omega)]
      rfl)
    (by
      rintro _ ⟨_, rfl⟩ rec K
      simp only [s48_0]
      rw [cond_false_dec (by simp)])
  exact e
theorem to_device (l : List Device) (hl : l.length ≤ 1048576) : F40 (F74 F106) (l, ()) = some (l, ()) := by
  unfold F40
  rw [okIf_pos (by simp), capK_le (by simp; omega)]
  obtain ⟨t, ⟨m, rfl, h1, h2⟩, e⟩ := iterF_all (f := s40_0 (F74 F106)) (K := fun t4 => some (t4.2.1, ())) (t := (l, List.replicate (Int.toNat (Int.ofNat l.length)) (Ty.zero .device), 0, ())) l.length
    (fun i t => ∃ m : List Device, t = (l, m, (i : Int), ()) ∧ m.length = l.length ∧ ∀ j, j < i → m[j]? = l[j]?) (by omega) ⟨_, rfl, by simp, fun j hj => by omega⟩
    (by
      rintro i _ hi ⟨m, rfl, h1, h2⟩
      have hx : l[i]? = some l[i] := by simp
      have hd : m[i]? = some m[i] := by simp
      refine ⟨_, ⟨m.set i l[i], rfl, by simp [h1], fun j hj => ?_⟩, fun rec K => ?_⟩
      · rw [List.getElem?_set]
        by_cases hji : i = j
        · subst hji; simp [h1, hi]
        · simp only [if_neg hji]; exact h2 j (by omega)
      · have hid : F74 F106 (l[i], ()) = some (l[i], ()) := rfl
        simp only [s40_0]
        rw [cond_dec, if_pos (by simp; omega), rdL_at hx]
        simp only [hid, Option.bind_some]
        rw [rdL_at hd]
        simp only [Int.toNat_natCast]
        rw [hd, w64_id (by omega) (by omega)]
        rfl)
    (by
      rintro _ ⟨m, rfl, h1, h2⟩ rec K
      simp only [s40_0]
      rw [cond_dec, if_neg (by simp)])
  have : m = l := List.ext_getElem? fun j => by
    by_cases hj : j < l.length
    · exact h2 j hj
    · rw [List.getElem?_eq_none (by omega), List.getElem?_eq_none (by omega)]
  subst this
  exact e
theorem eq_device_self (a : Device) : F86 F56 (a, a, ()) = some (true, ()) := by
  unfold F86
  simp [eqPlace_self]
theorem eq_device (l : List Device) (hl : l.length ≤ 1048576) : F47 (F86 F56) (l, l, ()) = some (true, ()) := by
  unfold F47
  simp only [decide_true, Bool.not_true, cond_false]
  obtain ⟨t, ⟨_, rfl⟩, e⟩ := iterF_all (f := s47_0 (F86 F56)) (K := fun _ => some (true, ())) (t := (l, l, 0, ())) l.length
    (fun i t => True ∧ t = (l, l, (i : Int), ())) (by omega) ⟨trivial, rfl⟩
    (by
      rintro i _ hi ⟨_, rfl⟩
      have hx : l[i]? = some l[i] := by simp
      refine ⟨_, ⟨trivial, rfl⟩, fun rec K => ?_⟩
      simp only [s47_0]
      rw [cond_true_dec (by simp <;> omega), rdL_at hx, rdL_at hx, eq_device_self, w64_id (by omega) (by omega)]
      rfl)
    (by
      rintro _ ⟨_, rfl⟩ rec K
      simp only [s47_0]
      rw [cond_false_dec (by simp)])
  exact e
theorem to_gust (l : List Gust) (hl : l.length ≤ 1048576) : F42 (F76 F106) (l, ()) = some (l, ()) := by
  unfold F42
  rw [okIf_pos (by simp), capK_le (by simp; omega)]
  obtain ⟨t, ⟨m, rfl, h1, h2⟩, e⟩ := iterF_all (f := s42_0 (F76 F106)) (K := fun t4 => some (t4.2.1, ())) (t := (l, List.replicate (Int.toNat (Int.ofNat l.length)) (Ty.zero .gust), 0, ())) l.length
    (fun i t => ∃ m : List Gust, t = (l, m, (i : Int), ()) ∧ m.length = l.length ∧ ∀ j, j < i → m[j]? = l[j]?) (by omega) ⟨_, rfl, by simp, fun j hj => by omega⟩
    (by
      rintro i _ hi ⟨m, rfl, h1, h2⟩
      have hx : l[i]? = some l[i] := by simp
      have hd : m[i]? = some m[i] := by simp
      refine ⟨_, ⟨m.set i l[i], rfl, by simp [h1], fun j hj => ?_⟩, fun rec K => ?_⟩
      · rw [List.getElem?_set]
        by_cases hji : i = j
        · subst hji; simp [h1, hi]
        · simp only [if_neg hji]; exact h2 j (by omega)
      · have hid : F76 F106 (l[i], ()) = some (l[i], ()) := rfl
        simp only [s42_0]
        rw [cond_dec, if_pos (by simp; omega), rdL_at hx]
        simp only [hid, Option.bind_some]
        rw [rdL_at hd]
        simp only [Int.toNat_natCast]
        rw [hd, w64_id (by omega) (by omega)]
        rfl)
    (by
      rintro _ ⟨m, rfl, h1, h2⟩ rec K
      simp only [s42_0]
      rw [cond_dec, if_neg (by simp)])
  have : m = l := List.ext_getElem? fun j => by
    by_cases hj : j < l.length
    · exact h2 j hj
    · rw [List.getElem?_eq_none (by omega), List.getElem?_eq_none (by omega)]
  subst this
  exact e
theorem eq_gust_self (a : Gust) : F88 F56 (a, a, ()) = some (true, ()) := by
  unfold F88
  simp [eqPlace_self]
theorem eq_gust (l : List Gust) (hl : l.length ≤ 1048576) : F49 (F88 F56) (l, l, ()) = some (true, ()) := by
  unfold F49
  simp only [decide_true, Bool.not_true, cond_false]
  obtain ⟨t, ⟨_, rfl⟩, e⟩ := iterF_all (f := s49_0 (F88 F56)) (K := fun _ => some (true, ())) (t := (l, l, 0, ())) l.length
    (fun i t => True ∧ t = (l, l, (i : Int), ())) (by omega) ⟨trivial, rfl⟩
    (by
      rintro i _ hi ⟨_, rfl⟩
      have hx : l[i]? = some l[i] := by simp
      refine ⟨_, ⟨trivial, rfl⟩, fun rec K => ?_⟩
      simp only [s49_0]
      rw [cond_true_dec (by simp <;> omega), rdL_at hx, rdL_at hx, eq_gust_self, w64_id (by omega) (by omega)]
      rfl)
    (by
      rintro _ ⟨_, rfl⟩ rec K
      simp only [s49_0]
      rw [cond_false_dec (by simp)])
  exact e

noncomputable abbrev gTo := F12 (F40 (F74 F106)) (F41 F75) (F42 (F76 F106))
theorem toShow_ok (s : ShowT) (h : ShowOK s) : gTo (s, ()) = some (s, ()) := by
  obtain ⟨rig, score, wind, ticks, u⟩ := s
  unfold gTo F12
  simp only [to_device rig h.rig, toCues score h.score, to_gust wind h.wind, Option.bind_some]
noncomputable abbrev gEqSh := F15 (F47 (F86 F56)) (F48 F87) (F49 (F88 F56))
theorem eqShow_ok (s : ShowT) (h : ShowOK s) : gEqSh (s, s, ()) = some (true, ()) := by
  obtain ⟨rig, score, wind, ticks, u⟩ := s
  unfold gEqSh F15
  simp only [eq_device rig h.rig, eqCues score h.score, eq_gust wind h.wind, Option.bind_some, decide_true, Bool.not_true, cond_false]
end Ev
