/- The program's JoinTracks returns what the reference's returns, for all arguments: on no condition. -/
import Derived.Test.YtpnlcamcnhpbhaaRows
import Derived.Test.YtpnlcamcnhpbhaaCat
import Derived.Test.YtpnlcamcnhpbhaaFact
import Derived.Test.YtpnlcamcnhpbhaaPureA
import Derived.WalkKit
import Derived.ProofKit
import Derived.OpenShut
import Derived.ShutString
import Derived.ChangeOld
import Derived.Below
import Derived.SizedLaws
set_option linter.unusedVariables false
set_option linter.unusedSimpArgs false
set_option maxRecDepth 100000
namespace Ev
open Go
theorem joinS_is (l1 l2 : List Int) (h1 : l1.length ≤ 1048576) (h2 : l2.length ≤ 1048576) :
    G5 (l1, l2, ()) = some ((if (isTr l1 && isTr l2 && isTr (l1 ++ l2)) = true then l1 ++ l2 else []), (isTr l1 && isTr l2 && isTr (l1 ++ l2)), ()) := by
  have e1 : G19 (l1, ()) = _ := F19_is l1 (by omega)
  have e2 : G19 (l2, ()) = _ := F19_is l2 (by omega)
  have e3 : G19 (l1 ++ l2, ()) = _ := F19_is (l1 ++ l2) (by simp; omega)
  unfold G5 F5
  simp only [List.nil_append]
  rw [capK_le (by simp; omega), capK_le (by omega)]
  simp only [e1, e2, e3, Option.bind_some]
  cases isTr l1 <;> cases isTr l2 <;> cases isTr (l1 ++ l2) <;> rfl
theorem joinI_is (l1 l2 : List Int) (h1 : l1.length ≤ 1048576) (h2 : l2.length ≤ 1048576) :
    G7 (l1, l2, ()) = some ((if (isTr l1 && isTr l2 && isTr (l1 ++ l2)) = true then l1 ++ l2 else []), (isTr l1 && isTr l2 && isTr (l1 ++ l2)), ()) := by
  unfold G7
  have e1 : G15 (l1, ()) = _ := F15_is l1 (by omega)
  have e2 : G15 (l2, ()) = _ := F15_is l2 (by omega)
  have e3 : G15 (l1 ++ l2, ()) = _ := F15_is (l1 ++ l2) (by simp; omega)
  simp only [e1, e2, e3, Option.bind_some]
  rw [if_pos ⟨by omega, by omega⟩]
theorem G3_eq (l1 l2 : List Int) (h1 : (∀ d ∈ l1, Wf .int d) ∧ l1.length ≤ maxLen) (h2 : (∀ d ∈ l2, Wf .int d) ∧ l2.length ≤ maxLen) : G3 (l1, l2, ()) = some (true, ()) := by
  unfold G3 F3
  by_cases a1 : l1.length ≤ 1048576
  · by_cases a2 : l2.length ≤ 1048576
    · obtain ⟨m, b, e, hm⟩ : ∃ m b, ((if (isTr l1 && isTr l2 && isTr (l1 ++ l2)) = true then l1 ++ l2 else []), (isTr l1 && isTr l2 && isTr (l1 ++ l2)), ()) = (m, b, ()) ∧ m.length ≤ 64 := by
        refine ⟨_, _, rfl, ?_⟩
        split
        · rename_i h
          simp only [Bool.and_eq_true] at h
          have := h.2
          simp only [isTr, Bool.and_eq_true, decide_eq_true_eq] at this
          exact this.2
        · simp
      have k1 := joinS_is l1 l2 a1 a2
      have k2 := joinI_is l1 l2 a1 a2
      rw [e] at k1 k2
      have c1 : ¬ (1 + (m.length : Int) < 0) := by omega
      have c2 : ¬ (1 + (l1.length : Int) + (l2.length : Int) < 0) := by omega
      have c3 : ¬ (Int.ofNat l1.length > 1048576) := by simp; omega
      have c4 : ¬ (Int.ofNat l2.length > 1048576) := by simp; omega
      simp only [F6_eq l1 a1, F6_eq l2 a2, k1, k2, Option.bind_some, F8_eq m (by omega), F8_eq l1 a1, F8_eq l2 a2, F9_eq l1 a1, F9_eqk l2 a2 (1 + (l1.length : Int)) (by omega) (by omega), F9_eq m (by omega), F10_eq m.length (by omega), c1, c2, c3, c4, decide_true, decide_false, Bool.not_true, Bool.not_false, cond_true, cond_false]
    · rw [cond_false_dec (by simp; omega), cond_true_dec (by simp; omega)]
  · rw [cond_true_dec (by simp; omega)]
end Ev
namespace Go.Proofs.Ytpnlcamcnhpbhaa.fnExactJoinTracks
open Go.ChangeShapes Go.WideShapes Go.ChangeAt Go.RowKit
open Go.ChangeMaps (open_string shut_string)
theorem own : ownKnob Try.prog.godebug = none := by kernel_rfl
theorem laidOut : laidOutB Try.prog = true := by kernel_rfl
theorem lifted (os : Os) (started : os.Started) (H : Type) (enc : TypeId × Value → H) :
    ReturnsInHanded {} Try.checked os 3 .any (Rows.fnExactJoinTracksSpec.pre6 enc Try.prog Try.f3 Rows.fnExactJoinTracksRow.domain false) (Rows.fnExactJoinTracksSpec.post enc Try.prog Try.f3 false true false false) := by
  refine returnsInHanded_of_change_sized (C := Try.checked) own started (by kernel_rfl) Try.func3
    (ChangeSpec.witness6 (enc := enc) (C := Try.checked) false ⟨#[], #[.slice none 0 0, .slice none 0 0], []⟩ 8 (by kernel_rfl) (by kernel_rfl) (by kernel_rfl) (by kernel_rfl)) ?_
  intro W base args ds gs before hval0 hW hcnd hsz0 _
  have hval : ∀ (j : Nat) t v, Try.f3.params[j]? = some t → args[j]? = some v → Value.okWide Try.prog W .any base t v := hval0
  have hW' := hW
  obtain ⟨p, q, hA0, hV, rfl, hfz, hnd⟩ := hW
  have hA : DataW.TrodAll enc Try.prog W 0 (fun _ => true) true Try.f3.params.toList args.toList ds p := hA0
  rw [Try.params3] at hA hval
  obtain ⟨v0, vs0, d0, ds0, p0, q0, hargs, rfl, rfl, h0, r0⟩ := trodAll_cons hA
  obtain ⟨v1, vs1, d1, ds1, p1, q1, rfl, rfl, rfl, h1, r1⟩ := trodAll_cons r0
  obtain ⟨rfl, rfl, rfl⟩ := trodAll_nil r1
  obtain rfl : args = #[v0, v1] := by cases args; simp_all
  obtain ⟨rfl, rfl⟩ := trodVars_none hV
  obtain ⟨a0, len0, cap0, rfl⟩ := okWide_slice Try.underlying22 (hval 0 22 v0 rfl rfl)
  have k0 := h0
  have lt0 : ∀ x ∈ p0, x.block < W.heap.size := by obtain ⟨m, hm⟩ := k0; exact DataW.trod_lt m _ _ _ hm
  obtain ⟨zs0, hrel0, wf0, ml0⟩ : ∃ l : List (Ev.Ty.den .int), Ev.RelA (fun _ => none) (fun b => b < W.heap.size) W (.lst .int l) (.slice a0 len0 cap0) ∧ (∀ d ∈ l, Ev.Wf .int d) ∧ l.length ≤ maxLen := by
    obtain ⟨fuel, hf⟩ := h0
    exact Ev.open_rows (l := [(3, .int)]) (by kernel_rfl) (by kernel_rfl) hf
  obtain ⟨a1, len1, cap1, rfl⟩ := okWide_slice Try.underlying22 (hval 1 22 v1 rfl rfl)
  have k1 := h1
  have lt1 : ∀ x ∈ p1, x.block < W.heap.size := by obtain ⟨m, hm⟩ := k1; exact DataW.trod_lt m _ _ _ hm
  obtain ⟨zs1, hrel1, wf1, ml1⟩ : ∃ l : List (Ev.Ty.den .int), Ev.RelA (fun _ => none) (fun b => b < W.heap.size) W (.lst .int l) (.slice a1 len1 cap1) ∧ (∀ d ∈ l, Ev.Wf .int d) ∧ l.length ≤ maxLen := by
    obtain ⟨fuel, hf⟩ := h1
    exact Ev.open_rows (l := [(3, .int)]) (by kernel_rfl) (by kernel_rfl) hf
  clear hA0 hval0 hsz0
  refine (Ev.calls_true (av := [.lst .int zs0, .lst .int zs1]) (out := []) Ev.okG3 (by
    exact Ev.sem_of (ps := Ev.p3) (rs := Ev.r3) (a := (zs0, zs1, ())) rfl (Ev.G3_eq zs0 zs1 (And.intro wf0 ml0) (And.intro wf1 ml1))) (w := W) (ca := #[.slice a0 len0 cap0, .slice a1 len1 cap1]) (fun x hx => absurd (show x ∈ ([] : List (Nat × (Array Value → Prop))) from hx) (by simp)) rfl (Ev.args_arr (Ev.argsS (hrel0) (Ev.argsS (hrel1) Ev.args0)))).mono fun e W' ⟨he, bel⟩ => ?_
  subst he
  exact ⟨_, rfl, _, _, _, [], _, [], hW', trodAll_mk1 (shut_bool Try.underlying4 _), (trodAll_cons_mk (Below.trod laidOut (by kernel_rfl) (of_decide_eq_true (by kernel_rfl)) k0 bel lt0) (trodAll_cons_mk (Below.trod laidOut (by kernel_rfl) (of_decide_eq_true (by kernel_rfl)) k1 bel lt1) trodAll_mk0)), rfl, bel.frame _, fun h => by cases h⟩
theorem over : Rows.fnExactJoinTracksRow.holds Try.pinned (OpenSpec.ofChange Rows.fnExactJoinTracksSpec) :=
  OpenClaim.holds_of_wide 3 Try.f3 rfl rfl rfl rfl rfl rfl rfl ⟨rfl, rfl, rfl, rfl, rfl⟩ rfl rfl rfl rfl rfl (by kernel_rfl) Try.func3 (by kernel_rfl)
    (of_decide_eq_true (by kernel_rfl)) (by unfold Func.isWrapper; first | (rw [if_pos (by decide +kernel)]; kernel_rfl) | (rw [if_neg (by decide +kernel)]; exact ⟨rfl, rfl⟩))
    (fun os started H enc _ => lifted os started H enc)
theorem proved : Rows.FnExactJoinTracksSaid := over
#print axioms proved
end Go.Proofs.Ytpnlcamcnhpbhaa.fnExactJoinTracks
