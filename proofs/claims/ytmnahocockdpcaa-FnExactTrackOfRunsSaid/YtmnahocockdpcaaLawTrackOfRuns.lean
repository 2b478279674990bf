/- The program's TrackOfRuns returns what the reference's returns, for all arguments: on no condition. -/
import Derived.Test.YtmnahocockdpcaaRows
import Derived.Test.YtmnahocockdpcaaFact2
import Derived.Test.YtmnahocockdpcaaOpen
import Derived.Test.YtmnahocockdpcaaRow
import Derived.WalkKit
import Derived.ProofKit
import Derived.OpenShut
import Derived.ShutString
import Derived.ChangeOld
import Derived.Below
import Derived.SizedLaws
set_option linter.unusedVariables false
set_option maxRecDepth 100000
namespace Ev
open Go
theorem F47_eq (l : List Run) (hl : l.length ≤ 1048576) : F47 (l, 1048576, ()) = some (1048576 - (l.length : Int), ()) := by
  unfold F47
  have e : w64 (1048576 - Int.ofNat l.length) = 1048576 - (l.length : Int) := w64_id (by simp; omega) (by simp; omega)
  simp only [e]
  rw [cond_false_dec (by omega)]
theorem F47_big (l : List Run) (hl : ¬ l.length ≤ 1048576) (hm : l.length ≤ 9223372036854775807) : ∃ x, F47 (l, 1048576, ()) = some (x, ()) ∧ x < 0 := by
  unfold F47
  have e : w64 (1048576 - Int.ofNat l.length) = 1048576 - (l.length : Int) := w64_id (by simp; omega) (by simp; omega)
  simp only [e]
  exact ⟨-1, by rw [cond_true_dec (by omega)], by omega⟩
theorem F49_eq (l : List Run) (hl : l.length ≤ 1048576) : F49 F66 (l, ()) = some (l, ()) := by
  unfold F49
  rw [okIf_pos (by simp), capK_le (by simp; omega)]
  obtain ⟨t, ⟨m, rfl, h1, h2⟩, e⟩ := iterF_all (f := s49_0 F66) (K := fun t4 => some (t4.2.1, ())) (t := (l, List.replicate (Int.toNat (Int.ofNat l.length)) (Ty.zero .run), 0, ())) l.length
    (fun i t => ∃ m : List Run, t = (l, m, (i : Int), ()) ∧ m.length = l.length ∧ ∀ j, j < i → m[j]? = l[j]?) (by omega) ⟨_, rfl, by simp, fun j hj => by omega⟩
    (by
      rintro i _ hi ⟨m, rfl, h1, h2⟩
      have hx : l[i]? = some l[i] := by simp
      have hd : m[i]? = some m[i] := by simp
      refine ⟨_, ⟨m.set i l[i], rfl, by simp [h1], fun j hj => ?_⟩, fun rec K => ?_⟩
      · rw [List.getElem?_set]
        by_cases hji : i = j
        · subst hji; simp [h1, hi]
        · simp only [if_neg hji]; exact h2 j (by omega)
      · simp only [s49_0]
        rw [cond_dec, if_pos (by simp; omega), rdL_at hx]
        simp only [F66, Option.bind_some]
        rw [rdL_at hd]
        simp only [Int.toNat_natCast]
        rw [hd, w64_id (by omega) (by omega)]
        rfl)
    (by
      rintro _ ⟨m, rfl, h1, h2⟩ rec K
      simp only [s49_0]
      rw [cond_dec, if_neg (by simp)])
  have : m = l := List.ext_getElem? fun j => by
    by_cases hj : j < l.length
    · exact h2 j hj
    · rw [List.getElem?_eq_none (by omega), List.getElem?_eq_none (by omega)]
  subst this
  exact e
theorem rep_succ (j : Nat) (x : Int) : List.replicate j x ++ [x] = List.replicate (j + 1) x := by
  rw [List.replicate_succ']
theorem in48 (l out : List Int) (r : List Run) (d : Run) (r' : List Run) (n i : Int) (h0 : 0 ≤ d.Count) (h1 : d.Count ≤ 64) (ho : out.length ≤ 64) (K : List Run × List Int × Run × Int × List Run × Int × Int × Unit → Option (List Int × Bool × Unit)) :
    iterF (s48_2 (F15 F54)) fuel (r, out, d, 0, r', n, i, ()) K = K (r, out ++ List.replicate d.Count.toNat d.Level, d, d.Count, r', n, i, ()) := by
  obtain ⟨t, ⟨_, rfl⟩, e⟩ := iterF_all (f := s48_2 (F15 F54)) (K := K) (t := (r, out, d, 0, r', n, i, ())) d.Count.toNat
    (fun j t => True ∧ t = (r, out ++ List.replicate j d.Level, d, (j : Int), r', n, i, ())) (by omega) ⟨trivial, by simp⟩
    (by
      rintro j _ hj ⟨_, rfl⟩
      refine ⟨_, ⟨trivial, rfl⟩, fun rec K => ?_⟩
      simp only [s48_2]
      rw [cond_true_dec (by omega), capK_le (by simp; omega), w64_id (by omega) (by omega), List.append_assoc, rep_succ]
      rfl)
    (by
      rintro _ ⟨_, rfl⟩ rec K
      simp only [s48_2]
      rw [cond_false_dec (by omega)])
  rw [e, show ((d.Count.toNat : Nat) : Int) = d.Count by omega]
theorem in50 (out : List Int) (r : List Run) (d : Run) (r' : List Run) (n i : Int) (h0 : 0 ≤ d.Count) (h1 : d.Count ≤ 64) (ho : out.length ≤ 64) (K : List Run × List Int × Run × List Run × Int × Int × Int × Int × Unit → Option (List Int × Bool × Unit)) :
    iterF (s50_2 F55) fuel (r, out, d, r', n, i, d.Count, 0, ()) K = K (r, out ++ List.replicate d.Count.toNat d.Level, d, r', n, i, d.Count, d.Count, ()) := by
  obtain ⟨t, ⟨_, rfl⟩, e⟩ := iterF_all (f := s50_2 F55) (K := K) (t := (r, out, d, r', n, i, d.Count, 0, ())) d.Count.toNat
    (fun j t => True ∧ t = (r, out ++ List.replicate j d.Level, d, r', n, i, d.Count, (j : Int), ())) (by omega) ⟨trivial, by simp⟩
    (by
      rintro j _ hj ⟨_, rfl⟩
      refine ⟨_, ⟨trivial, rfl⟩, fun rec K => ?_⟩
      simp only [s50_2]
      rw [cond_true_dec (by omega), capK_le (by simp; omega), w64_id (by omega) (by omega), List.append_assoc, rep_succ]
      rfl)
    (by
      rintro _ ⟨_, rfl⟩ rec K
      simp only [s50_2]
      rw [cond_false_dec (by omega)])
  rw [e, show ((d.Count.toNat : Nat) : Int) = d.Count by omega]
theorem F55_is (a b c : Int) : F55 (a, b, c, ()) = some (decide (b ≤ a) && decide (a ≤ c), ()) := by
  unfold F55
  by_cases h : b ≤ a <;> simp [h]
/-- What a run does to what was drawn so far. -/
def runOK (l : List Run) (i : Nat) (out : List Int) (d : Run) : Bool :=
  decide (1 ≤ d.Count) && decide (d.Count ≤ 64 - (out.length : Int)) && inR d.Level && !(decide (0 < i) && decide ((l[i - 1]?).map Run.Level = some d.Level))
theorem isTr_app (out : List Int) (d : Run) (ho : isTr out = true) (h1 : 1 ≤ d.Count) : isTr (out ++ List.replicate d.Count.toNat d.Level) = (decide (d.Count ≤ 64 - (out.length : Int)) && inR d.Level) := by
  simp only [isTr, Bool.and_eq_true, decide_eq_true_eq] at ho
  unfold isTr
  rw [List.all_append, ho.1, Bool.true_and, List.all_replicate, if_neg (by omega), Bool.and_comm]
  congr 1
  simp only [List.length_append, List.length_replicate, decide_eq_decide]
  omega
theorem round48 (l : List Run) (hl : l.length ≤ 1048576) (out : List Int) (ho : isTr out = true) (i : Nat) (hi : i < l.length) (rec K) :
    s48_0 (F15 F54) (l, out, l, Int.ofNat l.length, (i : Int), ()) rec K = cond (runOK l i out l[i]) (rec (l, out ++ List.replicate l[i].Count.toNat l[i].Level, l, Int.ofNat l.length, ((i + 1 : Nat) : Int), ())) (some ([], false, ())) := by
  have hx : l[i]? = some l[i] := by simp
  have ho' : out.length ≤ 64 := by simp only [isTr, Bool.and_eq_true, decide_eq_true_eq] at ho; exact ho.2
  simp only [s48_0]
  rw [cond_true_dec (by simp; omega), rdL_at hx]
  by_cases c1 : l[i].Count < 1
  · have : runOK l i out l[i] = false := by unfold runOK; simp [show ¬ 1 ≤ l[i].Count by omega]
    simp [c1, this]
  by_cases c2 : l[i].Count > 64
  · have : runOK l i out l[i] = false := by unfold runOK; simp [show ¬ l[i].Count ≤ 64 - (out.length : Int) by omega]
    simp [c1, c2, this]
  have tail : ∀ rec' : List Run × List Int × List Run × Int × Int × Unit → Option (List Int × Bool × Unit), (iterF (s48_2 (F15 F54)) fuel (l, out, l[i], 0, l, Int.ofNat l.length, (i : Int), ()) fun t5 => (F15 F54 (t5.2.1, ())).bind fun x6 => cond (!x6.1) (some (([] : List Int), false, ())) (rec' (t5.1, t5.2.1, t5.2.2.2.2.1, t5.2.2.2.2.2.1, (w64 (t5.2.2.2.2.2.2.1 + 1)), ()))) =
      cond (decide (l[i].Count ≤ 64 - (out.length : Int)) && inR l[i].Level) (rec' (l, out ++ List.replicate l[i].Count.toNat l[i].Level, l, Int.ofNat l.length, ((i + 1 : Nat) : Int), ())) (some ([], false, ())) := by
    intro rec'
    rw [in48 out out _ _ _ _ _ (by omega) (by omega) ho']
    simp only []
    rw [F15_is _ (by simp; omega), Option.bind_some, isTr_app _ _ ho (by omega), w64_id (by omega) (by omega)]
    cases (decide (l[i].Count ≤ 64 - (out.length : Int)) && inR l[i].Level) <;> rfl
  simp only [c1, c2, decide_false, Bool.not_false, cond_true]
  by_cases hz : (i : Int) > 0
  · obtain ⟨j, rfl⟩ : ∃ j, i = j + 1 := ⟨i - 1, by omega⟩
    have hy : l[j]? = some l[j] := by simp
    rw [cond_true_dec hz, show w64 (((j + 1 : Nat) : Int) - 1) = (j : Int) by rw [w64_id (by omega) (by omega)]; omega, rdL_at hy]
    by_cases hs : l[j].Level = l[j + 1].Level
    · have : runOK l (j + 1) out l[j + 1] = false := by unfold runOK; simp [hy, hs]
      simp [hs, this]
    · have : runOK l (j + 1) out l[j + 1] = (decide (l[j + 1].Count ≤ 64 - (out.length : Int)) && inR l[j + 1].Level) := by unfold runOK; simp [hy, hs, show 1 ≤ l[j + 1].Count by omega]
      rw [cond_false_dec hs, tail, this]
  · have : runOK l i out l[i] = (decide (l[i].Count ≤ 64 - (out.length : Int)) && inR l[i].Level) := by unfold runOK; simp [show ¬ 0 < i by omega, show 1 ≤ l[i].Count by omega]
    rw [cond_false_dec hz, tail, this]
theorem round50 (l : List Run) (hl : l.length ≤ 1048576) (out : List Int) (ho : isTr out = true) (i : Nat) (hi : i < l.length) (rec K) :
    s50_0 F55 (l, out, l, Int.ofNat l.length, (i : Int), ()) rec K = cond (runOK l i out l[i]) (rec (l, out ++ List.replicate l[i].Count.toNat l[i].Level, l, Int.ofNat l.length, ((i + 1 : Nat) : Int), ())) (some ([], false, ())) := by
  have hx : l[i]? = some l[i] := by simp
  have ho' : out.length ≤ 64 := by simp only [isTr, Bool.and_eq_true, decide_eq_true_eq] at ho; exact ho.2
  simp only [s50_0]
  rw [cond_true_dec (by simp; omega), rdL_at hx, w64_id (n := 64 - Int.ofNat out.length) (by simp; omega) (by simp; omega), F55_is, Option.bind_some]
  by_cases c1 : 1 ≤ l[i].Count ∧ l[i].Count ≤ 64 - (out.length : Int)
  · have e1 : (decide (1 ≤ l[i].Count) && decide (l[i].Count ≤ 64 - Int.ofNat out.length)) = true := by simp [c1.1]; exact c1.2
    rw [e1]
    simp only [Bool.not_true, Bool.not_false, cond_true]
    rw [F55_is, Option.bind_some]
    by_cases c2 : inR l[i].Level = true
    · have e2 : (decide (0 ≤ l[i].Level) && decide (l[i].Level ≤ 32)) = true := c2
      rw [e2]
      simp only [Bool.not_true, Bool.not_false, cond_true]
      have tail : ∀ rec' : List Run × List Int × List Run × Int × Int × Unit → Option (List Int × Bool × Unit), (iterF (s50_2 F55) fuel (l, out, l[i], l, Int.ofNat l.length, (i : Int), l[i].Count, 0, ()) fun t7 => rec' (t7.1, t7.2.1, t7.2.2.2.1, t7.2.2.2.2.1, (w64 (t7.2.2.2.2.2.1 + 1)), ())) =
          rec' (l, out ++ List.replicate l[i].Count.toNat l[i].Level, l, Int.ofNat l.length, ((i + 1 : Nat) : Int), ()) := by
        intro rec'
        rw [in50 _ _ _ _ _ _ (by omega) (by omega) ho']
        simp only []
        rw [w64_id (by omega) (by omega)]; rfl
      by_cases hz : (i : Int) > 0
      · obtain ⟨j, rfl⟩ : ∃ j, i = j + 1 := ⟨i - 1, by omega⟩
        have hy : l[j]? = some l[j] := by simp
        rw [cond_true_dec hz, show w64 (((j + 1 : Nat) : Int) - 1) = (j : Int) by rw [w64_id (by omega) (by omega)]; omega, rdL_at hy]
        by_cases hs : l[j + 1].Level = l[j].Level
        · have : runOK l (j + 1) out l[j + 1] = false := by unfold runOK; simp [hy, hs]
          simp [hs, this]
        · have : runOK l (j + 1) out l[j + 1] = true := by unfold runOK; simp [hy, c1.1, c1.2, c2, show ¬ l[j].Level = l[j + 1].Level from fun e => hs e.symm]
          rw [cond_false_dec hs, tail, this]; rfl
      · have : runOK l i out l[i] = true := by unfold runOK; simp [show ¬ 0 < i by omega, c1.1, c1.2, c2]
        rw [cond_false_dec hz, tail, this]; rfl
    · have e2 : (decide (0 ≤ l[i].Level) && decide (l[i].Level ≤ 32)) = false := by simpa [inR] using c2
      have : runOK l i out l[i] = false := by unfold runOK; simp [show inR l[i].Level = false by simpa using c2]
      rw [e2, this]; rfl
  · have e1 : (decide (1 ≤ l[i].Count) && decide (l[i].Count ≤ 64 - Int.ofNat out.length)) = false := by
      rw [← Bool.not_eq_true]; simp only [Bool.and_eq_true, decide_eq_true_eq]; exact c1
    have e3 : (decide (1 ≤ l[i].Count) && decide (l[i].Count ≤ 64 - (out.length : Int))) = false := e1
    have : runOK l i out l[i] = false := by unfold runOK; rw [e3]; rfl
    rw [e1, this]; rfl
theorem F48_F50 (l : List Run) (hl : l.length ≤ 1048576) : ∃ (m : List Int) (b : Bool), m.length ≤ 64 ∧ F48 (F15 F54) (l, ()) = some (m, b, ()) ∧ F50 F55 (l, ()) = some (m, b, ()) := by
  have key : ∀ (d i n : Nat) (out : List Int), i + d = l.length → d < n → isTr out = true → ∃ (m : List Int) (b : Bool), m.length ≤ 64 ∧
      iterF (s48_0 (F15 F54)) n (l, out, l, Int.ofNat l.length, (i : Int), ()) (fun t9 => some (t9.2.1, true, ())) = some (m, b, ()) ∧
      iterF (s50_0 F55) n (l, out, l, Int.ofNat l.length, (i : Int), ()) (fun t9 => some (t9.2.1, true, ())) = some (m, b, ()) := by
    intro d
    induction d with
    | zero =>
      intro i n out hd hn ho
      obtain ⟨n, rfl⟩ : ∃ k, n = k + 1 := ⟨n - 1, by omega⟩
      have ho' : out.length ≤ 64 := by simp only [isTr, Bool.and_eq_true, decide_eq_true_eq] at ho; exact ho.2
      refine ⟨out, true, ho', ?_, ?_⟩
      · rw [iterF_succ]; simp only [s48_0]; rw [cond_false_dec (by simp; omega)]
      · rw [iterF_succ]; simp only [s50_0]; rw [cond_false_dec (by simp; omega)]
    | succ d ih =>
      intro i n out hd hn ho
      obtain ⟨n, rfl⟩ : ∃ k, n = k + 1 := ⟨n - 1, by omega⟩
      have hi : i < l.length := by omega
      rw [iterF_succ, iterF_succ, round48 l hl out ho i hi, round50 l hl out ho i hi]
      cases hr : runOK l i out l[i]
      · exact ⟨[], false, by simp, rfl, rfl⟩
      · have : isTr (out ++ List.replicate l[i].Count.toNat l[i].Level) = true := by
          unfold runOK at hr
          simp only [Bool.and_eq_true, decide_eq_true_eq] at hr
          rw [isTr_app _ _ ho hr.1.1.1]
          simp [hr.1.1.2, hr.1.2]
        exact ih (i + 1) n _ (by omega) (by omega) this
  exact key l.length 0 fuel [] (by omega) (by rw [fuel_eq]; omega) rfl

theorem F13_eq (l : List Run) (hw : (∀ d ∈ l, Wf .run d) ∧ l.length ≤ maxLen) : F13 F47 (F49 F66) (F48 (F15 F54)) (F50 F55) F18 (F40 F64) F41 F25 F26 (l, ()) = some (true, ()) := by
  unfold F13
  by_cases hl : l.length ≤ 1048576
  · obtain ⟨m, b, hm, h1, h2⟩ := F48_F50 l hl
    have c0 : ¬ (1048576 - (l.length : Int) < 0) := by omega
    have c1 : ¬ (1 + (m.length : Int) < 0) := by omega
    have c2 : ¬ (1 + 2 * (l.length : Int) < 0) := by omega
    simp only [F47_eq l hl, F49_eq l hl, Option.bind_some, h1, h2, F18_eq m (by omega), F40_eq l hl, F41_eq l hl, F25_eq m (by omega), F26_eq m.length (by omega), c0, c1, c2, decide_true, decide_false, Bool.not_true, Bool.not_false, cond_true, cond_false]
  · obtain ⟨x, hx, h0⟩ := F47_big l hl (Nat.le_trans hw.2 (by decide))
    rw [hx, Option.bind_some, cond_true_dec h0]
theorem ok13' : OK Proofs.Try.prog 13 (mkE p13 r13 false (F13 F47 (F49 F66) (F48 (F15 F54)) (F50 F55) F18 (F40 F64) F41 F25 F26)) := ok13 ok47 (ok49 ok66) (ok48 (ok15 ok54)) (ok50 ok55) ok18 (ok40 ok64) ok41 ok25 ok26
end Ev
namespace Go.Proofs.Ytmnahocockdpcaa.fnExactTrackOfRuns
open Go.ChangeShapes Go.WideShapes Go.ChangeAt Go.RowKit
open Go.ChangeMaps (open_string shut_string)
theorem own : ownKnob Try.prog.godebug = none := by kernel_rfl
theorem laidOut : laidOutB Try.prog = true := by kernel_rfl
theorem lifted (os : Os) (started : os.Started) (H : Type) (enc : TypeId × Value → H) :
    ReturnsInHanded {} Try.checked os 13 .any (Rows.fnExactTrackOfRunsSpec.pre6 enc Try.prog Try.f13 Rows.fnExactTrackOfRunsRow.domain false) (Rows.fnExactTrackOfRunsSpec.post enc Try.prog Try.f13 false true false false) := by
  refine returnsInHanded_of_change_sized (C := Try.checked) own started (by kernel_rfl) Try.func13
    (ChangeSpec.witness6 (enc := enc) (C := Try.checked) false ⟨#[], #[.slice none 0 0], []⟩ 8 (by kernel_rfl) (by kernel_rfl) (by kernel_rfl) (by kernel_rfl)) ?_
  intro W base args ds gs before hval0 hW hcnd hsz0 _
  have hval : ∀ (j : Nat) t v, Try.f13.params[j]? = some t → args[j]? = some v → Value.okWide Try.prog W .any base t v := hval0
  have hW' := hW
  obtain ⟨p, q, hA0, hV, rfl, hfz, hnd⟩ := hW
  have hA : DataW.TrodAll enc Try.prog W 0 (fun _ => true) true Try.f13.params.toList args.toList ds p := hA0
  rw [Try.params13] at hA hval
  obtain ⟨v0, vs0, d0, ds0, p0, q0, hargs, rfl, rfl, h0, r0⟩ := trodAll_cons hA
  obtain ⟨rfl, rfl, rfl⟩ := trodAll_nil r0
  obtain rfl : args = #[v0] := by cases args; simp_all
  obtain ⟨rfl, rfl⟩ := trodVars_none hV
  obtain ⟨a0, len0, cap0, rfl⟩ := okWide_slice Try.underlying47 (hval 0 47 v0 rfl rfl)
  have k0 := h0
  have lt0 : ∀ x ∈ p0, x.block < W.heap.size := by obtain ⟨m, hm⟩ := k0; exact DataW.trod_lt m _ _ _ hm
  obtain ⟨zs0, hrel0, wf0, ml0⟩ : ∃ l : List (Ev.Ty.den .run), Ev.RelA (fun _ => none) (fun b => b < W.heap.size) W (.lst .run l) (.slice a0 len0 cap0) ∧ (∀ d ∈ l, Ev.Wf .run d) ∧ l.length ≤ maxLen := by
    obtain ⟨fuel, hf⟩ := h0
    exact Ev.open_rows (l := [(65, .run), (69, .run), (61, .block), (62, .block)]) (by kernel_rfl) (by kernel_rfl) hf
  clear hA0 hval0 hsz0
  refine (Ev.calls_true (av := [.lst .run zs0]) (out := []) Ev.ok13' (by
    exact Ev.sem_of (ps := Ev.p13) (rs := Ev.r13) (a := (zs0, ())) rfl (Ev.F13_eq zs0 (And.intro wf0 ml0))) (w := W) (ca := #[.slice a0 len0 cap0]) rfl (Ev.args_arr (Ev.argsS (hrel0) Ev.args0))).mono fun e W' ⟨he, bel⟩ => ?_
  subst he
  exact ⟨_, rfl, _, _, _, [], _, [], hW', trodAll_mk1 (shut_bool Try.underlying4 _), (trodAll_cons_mk (Below.trod laidOut (by kernel_rfl) (of_decide_eq_true (by kernel_rfl)) k0 bel lt0) trodAll_mk0), rfl, bel.frame _, fun h => by cases h⟩
theorem over : Rows.fnExactTrackOfRunsRow.holds Try.pinned (OpenSpec.ofChange Rows.fnExactTrackOfRunsSpec) :=
  OpenClaim.holds_of_wide 13 Try.f13 rfl rfl rfl rfl rfl rfl rfl ⟨rfl, rfl, rfl, rfl, rfl⟩ rfl rfl rfl rfl rfl (by kernel_rfl) Try.func13 (by kernel_rfl)
    (of_decide_eq_true (by kernel_rfl)) (by unfold Func.isWrapper; first | (rw [if_pos (by decide +kernel)]; kernel_rfl) | (rw [if_neg (by decide +kernel)]; exact ⟨rfl, rfl⟩))
    (fun os started H enc _ => lifted os started H enc)
theorem proved : Rows.FnExactTrackOfRunsSaid := over
#print axioms proved
end Go.Proofs.Ytmnahocockdpcaa.fnExactTrackOfRuns
