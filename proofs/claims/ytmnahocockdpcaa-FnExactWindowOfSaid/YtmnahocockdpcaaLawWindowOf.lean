/- The program's WindowOf returns what the reference's returns, for all arguments: on no condition. -/
import Derived.Test.YtmnahocockdpcaaRows
import Derived.Test.YtmnahocockdpcaaFact
import Derived.Test.YtmnahocockdpcaaRow
import Derived.WalkKit
import Derived.ProofKit
import Derived.OpenShut
import Derived.ShutString
import Derived.ChangeOld
import Derived.Below
import Derived.SizedLaws
set_option linter.unusedVariables false
set_option maxRecDepth 100000

namespace Ev
open Go
theorem F23_F24 (l : List Int) (lo hi : Int) (hl : l.length ≤ 1048576) : ∃ m b, F23 (F15 F54) (l, lo, hi, ()) = some (m, b, ()) ∧ F24 (F17 F55) F59 (l, lo, hi, ()) = some (m, b, ()) ∧ m.length ≤ 1048576 := by
  obtain ⟨b, h1, h2, _⟩ := F15_ok l hl
  unfold F23 F24
  simp only [h1, h2, Option.bind_some, Bool.not_not]
  cases b with
  | false => exact ⟨[], false, rfl, rfl, by simp⟩
  | true =>
    simp only [cond_true]
    by_cases c1 : lo < 0
    · simp only [c1, decide_true, Bool.not_true, cond_false]; exact ⟨[], false, rfl, rfl, by simp⟩
    by_cases c2 : hi < lo
    · simp only [c1, c2, decide_true, decide_false, Bool.not_true, Bool.not_false, cond_false, cond_true]; exact ⟨[], false, rfl, rfl, by simp⟩
    by_cases c3 : hi > Int.ofNat l.length
    · simp only [c1, c2, c3, decide_true, decide_false, Bool.not_true, Bool.not_false, cond_false, cond_true]; exact ⟨[], false, rfl, rfl, by simp⟩
    simp only [c1, c2, c3, decide_true, decide_false, Bool.not_true, Bool.not_false, cond_false, cond_true]
    have hle : (List.drop lo.toNat (List.take hi.toNat l)).length ≤ 1048576 := by simp; omega
    have hb : 0 ≤ lo ∧ lo ≤ hi ∧ hi ≤ (l.length : Int) := ⟨by omega, by omega, by simp at c3; omega⟩
    rw [okIf_pos hb, okIf_pos hb, capK_le (by simp; omega), F59_eq _ (by omega)]
    exact ⟨_, true, rfl, by simp, hle⟩
theorem F6_eq (l : List Int) (lo hi : Int) (w1 : -9223372036854775808 ≤ lo ∧ lo < 9223372036854775808) (w2 : -9223372036854775808 ≤ hi ∧ hi < 9223372036854775808) :
    F6 F16 (F23 (F15 F54)) (F24 (F17 F55) F59) F18 F25 F26 (l, lo, hi, ()) = some (true, ()) := by
  unfold F6
  by_cases hl : l.length ≤ 1048576
  · rw [cond_false_dec (by simp; omega)]
    obtain ⟨m, b, h1, h2, hm⟩ := F23_F24 l lo hi hl
    have c1 : ¬ (1 + (l.length : Int) < 0) := by omega
    have c2 : ¬ (1 + (m.length : Int) < 0) := by omega
    simp only [F16_eq l hl, Option.bind_some, h1, h2, F18_eq l hl, F18_eq m hm, F25_eq l hl, F25_eq m hm, F26_eq m.length hm, c1, c2, decide_true, decide_false, Bool.not_true, Bool.not_false, cond_true, cond_false]
  · rw [cond_true_dec (by simp; omega)]
theorem ok6' : OK Proofs.Try.prog 6 (mkE p6 r6 false (F6 F16 (F23 (F15 F54)) (F24 (F17 F55) F59) F18 F25 F26)) := ok6 ok16 (ok23 (ok15 ok54)) (ok24 (ok17 ok55) ok59) ok18 ok25 ok26
end Ev
namespace Go.Proofs.Ytmnahocockdpcaa.fnExactWindowOf
open Go.ChangeShapes Go.WideShapes Go.ChangeAt Go.RowKit
open Go.ChangeMaps (open_string shut_string)
theorem own : ownKnob Try.prog.godebug = none := by kernel_rfl
theorem laidOut : laidOutB Try.prog = true := by kernel_rfl
theorem lifted (os : Os) (started : os.Started) (H : Type) (enc : TypeId × Value → H) :
    ReturnsInHanded {} Try.checked os 6 .any (Rows.fnExactWindowOfSpec.pre6 enc Try.prog Try.f6 Rows.fnExactWindowOfRow.domain false) (Rows.fnExactWindowOfSpec.post enc Try.prog Try.f6 false true false false) := by
  refine returnsInHanded_of_change_sized (C := Try.checked) own started (by kernel_rfl) Try.func6
    (ChangeSpec.witness6 (enc := enc) (C := Try.checked) false ⟨#[], #[.slice none 0 0, .int .i64 0, .int .i64 0], []⟩ 8 (by kernel_rfl) (by kernel_rfl) (by kernel_rfl) (by kernel_rfl)) ?_
  intro W base args ds gs before hval0 hW hcnd hsz0 _
  have hval : ∀ (j : Nat) t v, Try.f6.params[j]? = some t → args[j]? = some v → Value.okWide Try.prog W .any base t v := hval0
  have hW' := hW
  obtain ⟨p, q, hA0, hV, rfl, hfz, hnd⟩ := hW
  have hA : DataW.TrodAll enc Try.prog W 0 (fun _ => true) true Try.f6.params.toList args.toList ds p := hA0
  rw [Try.params6] at hA hval
  obtain ⟨v0, vs0, d0, ds0, p0, q0, hargs, rfl, rfl, h0, r0⟩ := trodAll_cons hA
  obtain ⟨v1, vs1, d1, ds1, p1, q1, rfl, rfl, rfl, h1, r1⟩ := trodAll_cons r0
  obtain ⟨v2, vs2, d2, ds2, p2, q2, rfl, rfl, rfl, h2, r2⟩ := trodAll_cons r1
  obtain ⟨rfl, rfl, rfl⟩ := trodAll_nil r2
  obtain rfl : args = #[v0, v1, v2] := by cases args; simp_all
  obtain ⟨rfl, rfl⟩ := trodVars_none hV
  obtain ⟨a0, len0, cap0, rfl⟩ := okWide_slice Try.underlying22 (hval 0 22 v0 rfl rfl)
  have k0 := h0
  have lt0 : ∀ x ∈ p0, x.block < W.heap.size := by obtain ⟨m, hm⟩ := k0; exact DataW.trod_lt m _ _ _ hm
  obtain ⟨zs0, hrel0⟩ : ∃ l : List Int, Ev.RelA (fun _ => none) (fun b => b < W.heap.size) W (.lst .int l) (.slice a0 len0 cap0) := by
    obtain ⟨fuel, hf⟩ := h0
    rcases open_ints Try.underlying22 Try.underlying3 (by kernel_rfl) hf with ⟨hcs, _⟩ | ⟨x, l, c, zs, hcs, _, hl, hm, hz, hp, hcell, hwz⟩
    · simp [Value.cells] at hcs
      obtain ⟨rfl, rfl, rfl⟩ := hcs
      exact ⟨[], none, 0, rfl, Nat.le_refl _, .inl rfl⟩
    · simp [Value.cells] at hcs
      obtain ⟨rfl, rfl, rfl⟩ := hcs
      exact ⟨zs.take len0, Ev.rel_ints hl (by simp at hz; omega) (fun h => by cases h) (fun y hy => by cases hy; exact hcell)⟩
  obtain ⟨n1, rfl, rfl, rfl, w1⟩ := open_int Try.underlying3 (hval 1 3 v1 rfl rfl) h1
  obtain ⟨n2, rfl, rfl, rfl, w2⟩ := open_int Try.underlying3 (hval 2 3 v2 rfl rfl) h2
  clear hA0 hval0 hsz0
  refine (Ev.calls_true (av := [.lst .int zs0, .int .i64 n1, .int .i64 n2]) (out := []) Ev.ok6' (by
    exact Ev.sem_of (ps := Ev.p6) (rs := Ev.r6) (a := (zs0, n1, n2, ())) rfl (Ev.F6_eq zs0 n1 n2 (Ev.wf_i64 w1) (Ev.wf_i64 w2))) (w := W) (ca := #[.slice a0 len0 cap0, .int .i64 n1, .int .i64 n2]) rfl (Ev.args_arr (Ev.argsS (hrel0) (Ev.argsS (rfl) (Ev.argsS (rfl) Ev.args0))))).mono fun e W' ⟨he, bel⟩ => ?_
  subst he
  exact ⟨_, rfl, _, _, _, [], _, [], hW', trodAll_mk1 (shut_bool Try.underlying4 _), (trodAll_cons_mk (Below.trod laidOut (by kernel_rfl) (of_decide_eq_true (by kernel_rfl)) k0 bel lt0) (trodAll_cons_mk (shut_int Try.underlying3 w1) (trodAll_cons_mk (shut_int Try.underlying3 w2) trodAll_mk0))), rfl, bel.frame _, fun h => by cases h⟩
theorem over : Rows.fnExactWindowOfRow.holds Try.pinned (OpenSpec.ofChange Rows.fnExactWindowOfSpec) :=
  OpenClaim.holds_of_wide 6 Try.f6 rfl rfl rfl rfl rfl rfl rfl ⟨rfl, rfl, rfl, rfl, rfl⟩ rfl rfl rfl rfl rfl (by kernel_rfl) Try.func6 (by kernel_rfl)
    (of_decide_eq_true (by kernel_rfl)) (by unfold Func.isWrapper; first | (rw [if_pos (by decide +kernel)]; kernel_rfl) | (rw [if_neg (by decide +kernel)]; exact ⟨rfl, rfl⟩))
    (fun os started H enc _ => lifted os started H enc)
theorem proved : Rows.FnExactWindowOfSaid := over
#print axioms proved
end Go.Proofs.Ytmnahocockdpcaa.fnExactWindowOf
