/- The program's SumOfTrack returns what the reference's returns, for all arguments: on no condition. -/
import Derived.Test.YtmnahocockdpcaaRows
import Derived.Test.YtmnahocockdpcaaFact
import Derived.Test.YtmnahocockdpcaaRow
import Derived.WalkKit
import Derived.ProofKit
import Derived.OpenShut
import Derived.ShutString
import Derived.ChangeOld
import Derived.Below
import Derived.SizedLaws
set_option linter.unusedVariables false
set_option maxRecDepth 100000

namespace Ev
open Go
theorem F57_some (l : List Int) (hl : l.length ≤ 1048576) : ∃ v, F57 (l, ()) = some (v, ()) := by
  unfold F57
  obtain ⟨t, _, e⟩ := iterF_all (f := s57_0) (K := fun t3 => some (t3.1, ())) (t := (0, l, Int.ofNat l.length, 0, ())) l.length
    (fun i t => ∃ s : Int, t = (s, l, Int.ofNat l.length, (i : Int), ())) (by omega) ⟨_, rfl⟩
    (by
      rintro i _ hi ⟨s, rfl⟩
      have hx : l[i]? = some l[i] := by simp
      refine ⟨_, ⟨w64 (s + l[i]), rfl⟩, fun rec K => ?_⟩
      simp only [s57_0]
      rw [cond_true_dec (by simp; omega), rdL_at hx, w64_id (n := (i : Int) + 1) (by omega) (by omega)]
      rfl)
    (by
      rintro _ ⟨s, rfl⟩ rec K
      simp only [s57_0]
      rw [cond_false_dec (by simp)])
  exact ⟨_, e⟩
theorem F22_F21 : F22 (F17 F55) F58 = F21 (F15 F54) F57 := by
  funext a
  unfold F22 F21
  rw [F17_F15]
  rfl
theorem F21_some (l : List Int) (hl : l.length ≤ 1048576) : ∃ v, F21 (F15 F54) F57 (l, ()) = some (v, ()) := by
  obtain ⟨b, h1, _⟩ := F15_ok l hl
  obtain ⟨v, hv⟩ := F57_some l hl
  unfold F21
  simp only [h1, Option.bind_some, hv]
  cases b
  · exact ⟨_, rfl⟩
  · exact ⟨_, rfl⟩
theorem F5_eq (l : List Int) : F5 F16 (F21 (F15 F54) F57) (F22 (F17 F55) F58) F18 (l, ()) = some (true, ()) := by
  unfold F5
  by_cases hl : l.length ≤ 1048576
  · rw [cond_false_dec (by simp; omega), F22_F21]
    obtain ⟨v, h1⟩ := F21_some l hl
    simp only [F16_eq l hl, Option.bind_some, h1, F18_eq l hl]
    simp
  · rw [cond_true_dec (by simp; omega)]
theorem ok5' : OK Proofs.Try.prog 5 (mkE p5 r5 false (F5 F16 (F21 (F15 F54) F57) (F22 (F17 F55) F58) F18)) := ok5 ok16 (ok21 (ok15 ok54) ok57) (ok22 (ok17 ok55) ok58) ok18
end Ev
namespace Go.Proofs.Ytmnahocockdpcaa.fnExactSumOfTrack
open Go.ChangeShapes Go.WideShapes Go.ChangeAt Go.RowKit
open Go.ChangeMaps (open_string shut_string)
theorem own : ownKnob Try.prog.godebug = none := by kernel_rfl
theorem laidOut : laidOutB Try.prog = true := by kernel_rfl
theorem lifted (os : Os) (started : os.Started) (H : Type) (enc : TypeId × Value → H) :
    ReturnsInHanded {} Try.checked os 5 .any (Rows.fnExactSumOfTrackSpec.pre6 enc Try.prog Try.f5 Rows.fnExactSumOfTrackRow.domain false) (Rows.fnExactSumOfTrackSpec.post enc Try.prog Try.f5 false true false false) := by
  refine returnsInHanded_of_change_sized (C := Try.checked) own started (by kernel_rfl) Try.func5
    (ChangeSpec.witness6 (enc := enc) (C := Try.checked) false ⟨#[], #[.slice none 0 0], []⟩ 8 (by kernel_rfl) (by kernel_rfl) (by kernel_rfl) (by kernel_rfl)) ?_
  intro W base args ds gs before hval0 hW hcnd hsz0 _
  have hval : ∀ (j : Nat) t v, Try.f5.params[j]? = some t → args[j]? = some v → Value.okWide Try.prog W .any base t v := hval0
  have hW' := hW
  obtain ⟨p, q, hA0, hV, rfl, hfz, hnd⟩ := hW
  have hA : DataW.TrodAll enc Try.prog W 0 (fun _ => true) true Try.f5.params.toList args.toList ds p := hA0
  rw [Try.params5] at hA hval
  obtain ⟨v0, vs0, d0, ds0, p0, q0, hargs, rfl, rfl, h0, r0⟩ := trodAll_cons hA
  obtain ⟨rfl, rfl, rfl⟩ := trodAll_nil r0
  obtain rfl : args = #[v0] := by cases args; simp_all
  obtain ⟨rfl, rfl⟩ := trodVars_none hV
  obtain ⟨a0, len0, cap0, rfl⟩ := okWide_slice Try.underlying22 (hval 0 22 v0 rfl rfl)
  have k0 := h0
  have lt0 : ∀ x ∈ p0, x.block < W.heap.size := by obtain ⟨m, hm⟩ := k0; exact DataW.trod_lt m _ _ _ hm
  obtain ⟨zs0, hrel0⟩ : ∃ l : List Int, Ev.RelA (fun _ => none) (fun b => b < W.heap.size) W (.lst .int l) (.slice a0 len0 cap0) := by
    obtain ⟨fuel, hf⟩ := h0
    rcases open_ints Try.underlying22 Try.underlying3 (by kernel_rfl) hf with ⟨hcs, _⟩ | ⟨x, l, c, zs, hcs, _, hl, hm, hz, hp, hcell, hwz⟩
    · simp [Value.cells] at hcs
      obtain ⟨rfl, rfl, rfl⟩ := hcs
      exact ⟨[], none, 0, rfl, Nat.le_refl _, .inl rfl⟩
    · simp [Value.cells] at hcs
      obtain ⟨rfl, rfl, rfl⟩ := hcs
      exact ⟨zs.take len0, Ev.rel_ints hl (by simp at hz; omega) (fun h => by cases h) (fun y hy => by cases hy; exact hcell)⟩
  clear hA0 hval0 hsz0
  refine (Ev.calls_true (av := [.lst .int zs0]) (out := []) Ev.ok5' (by
    exact Ev.sem_of (ps := Ev.p5) (rs := Ev.r5) (a := (zs0, ())) rfl (Ev.F5_eq zs0)) (w := W) (ca := #[.slice a0 len0 cap0]) rfl (Ev.args_arr (Ev.argsS (hrel0) Ev.args0))).mono fun e W' ⟨he, bel⟩ => ?_
  subst he
  exact ⟨_, rfl, _, _, _, [], _, [], hW', trodAll_mk1 (shut_bool Try.underlying4 _), (trodAll_cons_mk (Below.trod laidOut (by kernel_rfl) (of_decide_eq_true (by kernel_rfl)) k0 bel lt0) trodAll_mk0), rfl, bel.frame _, fun h => by cases h⟩
theorem over : Rows.fnExactSumOfTrackRow.holds Try.pinned (OpenSpec.ofChange Rows.fnExactSumOfTrackSpec) :=
  OpenClaim.holds_of_wide 5 Try.f5 rfl rfl rfl rfl rfl rfl rfl ⟨rfl, rfl, rfl, rfl, rfl⟩ rfl rfl rfl rfl rfl (by kernel_rfl) Try.func5 (by kernel_rfl)
    (of_decide_eq_true (by kernel_rfl)) (by unfold Func.isWrapper; first | (rw [if_pos (by decide +kernel)]; kernel_rfl) | (rw [if_neg (by decide +kernel)]; exact ⟨rfl, rfl⟩))
    (fun os started H enc _ => lifted os started H enc)
theorem proved : Rows.FnExactSumOfTrackSaid := over
#print axioms proved
end Go.Proofs.Ytmnahocockdpcaa.fnExactSumOfTrack
