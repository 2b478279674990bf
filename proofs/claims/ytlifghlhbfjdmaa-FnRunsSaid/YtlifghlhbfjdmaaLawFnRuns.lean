/- A track in runs is the track again, and no two runs side by side have one level: on no condition. -/
import Derived.Test.YtlifghlhbfjdmaaRows
import Derived.Test.YtlifghlhbfjdmaaRuns
import Derived.Test.YtlifghlhbfjdmaaOpen
import Derived.Test.YtlifghlhbfjdmaaRow
import Derived.WalkKit
import Derived.ProofKit
import Derived.OpenShut
import Derived.ShutString
import Derived.ChangeOld
import Derived.Below
import Derived.SizedLaws
set_option linter.unusedVariables false
set_option maxRecDepth 100000
namespace Ev
open Go
theorem ints_eq (l : List Int) (hl : l.length ≤ 1048576) : F17 (l, l, ()) = some (true, ()) := by
  unfold F17
  simp only [decide_true, Bool.not_true, cond_false]
  obtain ⟨t, ⟨_, rfl⟩, e⟩ := iterF_all (f := s17_0) (K := fun _ => some (true, ())) (t := (l, l, 0, ())) l.length
    (fun i t => True ∧ t = (l, l, (i : Int), ())) (by omega) ⟨trivial, rfl⟩
    (by
      rintro i _ hi ⟨_, rfl⟩
      have hx : l[i]? = some l[i] := by simp
      refine ⟨_, ⟨trivial, rfl⟩, fun rec K => ?_⟩
      simp only [s17_0]
      rw [cond_dec, if_pos (by simp; omega), rdL_at hx, rdL_at hx, w64_id (by omega) (by omega)]
      simp)
    (by
      rintro _ ⟨_, rfl⟩ rec K
      simp only [s17_0]
      rw [cond_dec, if_neg (by simp)])
  exact e
noncomputable abbrev fS := F73 (F78 F119)
theorem drawRuns_ok (b : List Int) (hb : b.length ≤ 4096) : ∃ s, F18 F71 fA fS fB fD (b, ()) = some (s, ()) ∧ s.length ≤ 1048576 := by
  obtain ⟨h, e⟩ := new_ok b hb
  obtain ⟨i1, h1, l, e1, p1, q1, q2⟩ := any8_ok b (by omega) 0 h (by omega)
  obtain ⟨m, e2, _, hm⟩ := F73_F39 l (by omega)
  obtain ⟨i3, h3, x, e3, p3, x0, x1⟩ := below_ok b (by omega) i1 h1 p1 8 (by omega) (by omega)
  unfold F18
  simp only [e, e1, e2, e3, Option.bind_some]
  by_cases c0 : x = 0
  · obtain ⟨i4, h4, y, e4, p4, y0, y1⟩ := below_ok b (by omega) i3 h3 p3 40 (by omega) (by omega)
    obtain ⟨i5, h5, z, e5, p5, hz⟩ := odd_ok b (by omega) i4 h4 p4
    rw [cond_true_dec c0]
    simp only [e4, e5, Option.bind_some]
    rw [capK_le (by simp; omega)]
    exact ⟨_, rfl, by simp; omega⟩
  · rw [cond_false_dec c0]
    by_cases c1 : x = 1
    · obtain ⟨i4, h4, y, e4, p4, y0, y1⟩ := below_ok b (by omega) i3 h3 p3 33 (by omega) (by omega)
      rw [cond_true_dec c1]
      simp only [e4, Option.bind_some]
      rw [capK_le (by simp; omega)]
      exact ⟨_, rfl, by simp; omega⟩
    · rw [cond_false_dec c1]
      by_cases c2 : x = 2
      · rw [cond_true_dec c2]
        by_cases c3 : Int.ofNat m.length > 0
        · rw [cond_true_dec c3]
          have hp : 0 < m.length := by simpa using c3
          have hw : w64 (Int.ofNat m.length - 1) = ((m.length - 1 : Nat) : Int) := by rw [w64_id (by simp; omega) (by simp; omega)]; simp; omega
          have hx : m[m.length - 1]? = some m[m.length - 1] := List.getElem?_eq_getElem (by omega)
          rw [hw, rdL_at hx]
          simp only [Int.toNat_natCast, hx, Option.bind_some]
          rw [capK_le (by simp; omega)]
          exact ⟨_, rfl, by simp; omega⟩
        · rw [cond_false_dec c3]
          exact ⟨_, rfl, by omega⟩
      · rw [cond_false_dec c2]
        exact ⟨_, rfl, by omega⟩
theorem F3_eq (b : List Int) (hw : (∀ d ∈ b, Wf .u8 d) ∧ b.length ≤ maxLen) :
    F3 F13 (F14 F71 fT) (F15 (F22 F72)) (F16 F72) F17 (F18 F71 fA fS fB fD) (b, ()) = some (true, ()) := by
  unfold F3
  simp only [F13, Option.bind_some]
  by_cases hb : b.length ≤ 4096
  · rw [cond_false_dec (by simp; omega)]
    obtain ⟨l, e1, ht, hl⟩ := track_ok b hb
    obtain ⟨hv, he⟩ := runsOf_ok l
    have hrl := runs_len l
    obtain ⟨y, ok, e3, e4, e5⟩ := runsTrack (runsOf l) (by omega)
    have hok : ok = true := e5 hv (by rw [he]; exact ht)
    subst hok
    obtain ⟨hy, _, _⟩ := e4 rfl
    rw [he] at hy
    subst hy
    simp only [e1, runsOf_eq y (by omega), if_pos ht, e3, Option.bind_some]
    generalize hr : runsOf y = r at *
    obtain ⟨s, e6, hs⟩ := drawRuns_ok b hb
    obtain ⟨z, is, e7, e8, e9⟩ := runsTrack s hs
    have exlen : ∀ i, i < r.length → r.length ≤ 24 → (ex (r.take i)).length ≤ y.length := fun i hi _ => by
      have : ex r = ex (r.take i) ++ ex (r.drop i) := by rw [← ex_app, List.take_append_drop]
      rw [he] at this; rw [this]; simp
    have exlen1 : ∀ i, (ex (r.take i)).length ≤ y.length := fun i => by
      have : ex r = ex (r.take i) ++ ex (r.drop i) := by rw [← ex_app, List.take_append_drop]
      rw [he] at this; rw [this]; simp
    obtain ⟨t, ⟨_, rfl⟩, e⟩ := iterF_all (f := s3_0 F13 (F14 F71 fT) (F15 (F22 F72)) (F16 F72) F17 (F18 F71 fA fS fB fD))
      (K := fun t11 => cond (!(!t11.2.2.2.2.1)) ((F17 (t11.2.2.2.1, t11.2.1, ())).bind fun x12 => cond (!(!x12.1)) (cond (!(decide (t11.2.2.2.2.2.1 = (Int.ofNat (List.length t11.2.1))))) (some (false, ())) ((F18 F71 fA fS fB fD (t11.1, ())).bind fun x13 => (F16 F72 (x13.1, ())).bind fun x14 => cond (!(!x14.2.1)) ((F15 (F22 F72) (x14.1, ())).bind fun x15 => some ((decide ((Int.ofNat (List.length x15.1)) = (Int.ofNat (List.length x13.1)))), ())) (some (true, ())))) (some (false, ()))) (some (false, ())))
      (t := (b, y, r, y, true, 0, 0, ())) r.length
      (fun i t => True ∧ t = (b, y, r, y, true, ((ex (r.take i)).length : Int), (i : Int), ())) (by omega) ⟨trivial, by simp [ex]⟩
      (by
        rintro i _ hi ⟨_, rfl⟩
        have hx : r[i]? = some r[i] := by simp
        have vt := valid_take r hv (i + 1)
        rw [take_snoc r i hi] at vt
        obtain ⟨c1, c2, _⟩ := (valid_snoc _ _).1 vt
        have hsum : ((ex (r.take (i + 1))).length : Int) = ((ex (r.take i)).length : Int) + r[i].Count := by
          rw [take_snoc r i hi, ex_app, ex_one]; simp; omega
        have hb1 := exlen1 i
        have hb2 := exlen1 (i + 1)
        refine ⟨_, ⟨trivial, rfl⟩, fun rec K => ?_⟩
        simp only [s3_0]
        rw [cond_true_dec (by simp; omega), rdL_at hx]
        simp only [Int.toNat_natCast, hx, Option.bind_some]
        rw [decide_eq_false (by omega : ¬ r[i].Count < 1)]
        simp only [Bool.not_false, cond_true]
        rw [w64_id (n := (i : Int) + 1) (by omega) (by omega), w64_id (n := ((ex (r.take i)).length : Int) + r[i].Count) (by omega) (by omega), ← hsum]
        by_cases hz : (i : Int) > 0
        · obtain ⟨j, rfl⟩ : ∃ j, i = j + 1 := ⟨i - 1, by omega⟩
          have hj : r[j]? = some r[j] := by simp
          rw [cond_true_dec hz, rdL_at hx, show w64 (((j + 1 : Nat) : Int) - 1) = (j : Int) by rw [w64_id (by omega) (by omega)]; omega, rdL_at hj]
          simp only [Int.toNat_natCast, hj, Option.bind_some]
          rw [cond_false_dec (fun h => c2 r[j] (last_take r j (by omega)) h.symm), rdL_at hx]
          rfl
        · rw [cond_false_dec hz, rdL_at hx]
          rfl)
      (by
        rintro _ ⟨_, rfl⟩ rec K
        simp only [s3_0]
        rw [cond_false_dec (by simp)])
    refine e.trans ?_
    have hsumr : ((ex (r.take r.length)).length : Int) = Int.ofNat y.length := by rw [List.take_length, he]; rfl
    simp only [hsumr, ints_eq y (by omega), e6, e7, Option.bind_some, decide_true, Bool.not_true, Bool.not_false, cond_true, cond_false]
    cases is with
    | false => rfl
    | true =>
      obtain ⟨rfl, vs, tz⟩ := e8 rfl
      have hzl : (ex s).length ≤ 64 := by simp only [isTr, Bool.and_eq_true, decide_eq_true_eq] at tz; exact tz.2
      simp only [Bool.not_true, Bool.not_false, cond_true]
      rw [runsOf_eq (ex s) (by omega), if_pos tz, Option.bind_some, runsOf_ex s.length s rfl vs, decide_eq_true rfl]
  · rw [cond_true_dec (by simp; omega)]
theorem ok3' : OK Proofs.Try.prog 3 (mkE p3 r3 false (F3 F13 (F14 F71 fT) (F15 (F22 F72)) (F16 F72) F17 (F18 F71 fA fS fB fD))) :=
  have kB := ok75 ok137
  have kI := ok136 kB
  have kT := ok70 kB kI (ok80 kB)
  have kR := ok15 (ok22 ok72)
  ok3 ok13 (ok14 ok71 kT) kR (ok16 ok72) ok17 (ok18 ok71 (ok74 kT kB (ok76 kI) kI) (ok73 (ok78 ok119)) kB (ok76 kI))
end Ev
namespace Go.Proofs.Ytlifghlhbfjdmaa.fnRuns
open Go.ChangeShapes Go.WideShapes Go.ChangeAt Go.RowKit
open Go.ChangeMaps (open_string shut_string)
theorem own : ownKnob Try.prog.godebug = none := by kernel_rfl
theorem laidOut : laidOutB Try.prog = true := by kernel_rfl
theorem lifted (os : Os) (started : os.Started) (H : Type) (enc : TypeId × Value → H) :
    ReturnsInHanded {} Try.checked os 3 .any (Rows.fnRunsSpec.pre6 enc Try.prog Try.f3 Rows.fnRunsRow.domain false) (Rows.fnRunsSpec.post enc Try.prog Try.f3 false true false false) := by
  refine returnsInHanded_of_change_sized (C := Try.checked) own started (by kernel_rfl) Try.func3
    (ChangeSpec.witness6 (enc := enc) (C := Try.checked) false ⟨#[], #[.slice none 0 0], []⟩ 8 (by kernel_rfl) (by kernel_rfl) (by kernel_rfl) (by kernel_rfl)) ?_
  intro W base args ds gs before hval0 hW hcnd hsz0 _
  have hval : ∀ (j : Nat) t v, Try.f3.params[j]? = some t → args[j]? = some v → Value.okWide Try.prog W .any base t v := hval0
  have hW' := hW
  obtain ⟨p, q, hA0, hV, rfl, hfz, hnd⟩ := hW
  have hA : DataW.TrodAll enc Try.prog W 0 (fun _ => true) true Try.f3.params.toList args.toList ds p := hA0
  rw [Try.params3] at hA hval
  obtain ⟨v0, vs0, d0, ds0, p0, q0, hargs, rfl, rfl, h0, r0⟩ := trodAll_cons hA
  obtain ⟨rfl, rfl, rfl⟩ := trodAll_nil r0
  obtain rfl : args = #[v0] := by cases args; simp_all
  obtain ⟨rfl, rfl⟩ := trodVars_none hV
  obtain ⟨a0, len0, cap0, rfl⟩ := okWide_slice Try.underlying22 (hval 0 22 v0 rfl rfl)
  have k0 := h0
  have lt0 : ∀ x ∈ p0, x.block < W.heap.size := by obtain ⟨m, hm⟩ := k0; exact DataW.trod_lt m _ _ _ hm
  obtain ⟨zs0, hrel0, wf0, ml0⟩ : ∃ l : List (Ev.Ty.den .u8), Ev.RelA (fun _ => none) (fun b => b < W.heap.size) W (.lst .u8 l) (.slice a0 len0 cap0) ∧ (∀ d ∈ l, Ev.Wf .u8 d) ∧ l.length ≤ maxLen := by
    obtain ⟨fuel, hf⟩ := h0
    exact Ev.open_rows (l := [(5, .u8)]) (by kernel_rfl) (by kernel_rfl) hf
  clear hA0 hval0 hsz0
  refine (Ev.calls_true (av := [.lst .u8 zs0]) (out := []) Ev.ok3' (by
    exact Ev.sem_of (ps := Ev.p3) (rs := Ev.r3) (a := (zs0, ())) rfl (Ev.F3_eq zs0 (And.intro wf0 ml0))) (w := W) (ca := #[.slice a0 len0 cap0]) rfl (Ev.args_arr (Ev.argsS (hrel0) Ev.args0))).mono fun e W' ⟨he, bel⟩ => ?_
  subst he
  exact ⟨_, rfl, _, _, _, [], _, [], hW', trodAll_mk1 (shut_bool Try.underlying4 _), (trodAll_cons_mk (Below.trod laidOut (by kernel_rfl) (of_decide_eq_true (by kernel_rfl)) k0 bel lt0) trodAll_mk0), rfl, bel.frame _, fun h => by cases h⟩
theorem over : Rows.fnRunsRow.holds Try.pinned (OpenSpec.ofChange Rows.fnRunsSpec) :=
  OpenClaim.holds_of_wide 3 Try.f3 rfl rfl rfl rfl rfl rfl rfl ⟨rfl, rfl, rfl, rfl, rfl⟩ rfl rfl rfl rfl rfl (by kernel_rfl) Try.func3 (by kernel_rfl)
    (of_decide_eq_true (by kernel_rfl)) (by unfold Func.isWrapper; first | (rw [if_pos (by decide +kernel)]; kernel_rfl) | (rw [if_neg (by decide +kernel)]; exact ⟨rfl, rfl⟩))
    (fun os started H enc _ => lifted os started H enc)
theorem proved : Rows.FnRunsSaid := over
#print axioms proved
end Go.Proofs.Ytlifghlhbfjdmaa.fnRuns
