/- The program's NewDesk returns what the reference's returns, for all arguments: on no condition. -/
import Derived.Test.YtlifghlhbfjdmaaRows
import Derived.Test.YtlifghlhbfjdmaaFnD
import Derived.Test.YtlifghlhbfjdmaaRow
import Derived.Test.YtlifghlhbfjdmaaPure
import Derived.Test.YtlifghlhbfjdmaaRow
import Derived.WalkKit
import Derived.ProofKit
import Derived.OpenShut
import Derived.ShutString
import Derived.ChangeOld
import Derived.Below
import Derived.SizedLaws
set_option linter.unusedVariables false
set_option linter.unusedSimpArgs false
set_option maxRecDepth 100000
namespace Ev
open Go
noncomputable abbrev dSh := F69 (F134 (F178 F96)) (F45 F101) (F135 (F179 F96))
noncomputable abbrev dEq := F51 dSh (F40 F96) (F39 F96)
noncomputable abbrev dMark := F52 (F103 (F155 F102) (F46 F102) F156) F104
noncomputable abbrev dHeld := F53 (F105 (F157 F102) (F158 F102) F159) F106
theorem F9_eq : F9 F49 F50 dEq dMark dHeld () = some (true, ()) := by
  obtain ⟨n, hn⟩ : ∃ n, fuel = n + 9 := ⟨fuel - 9, by rw [fuel_eq]⟩
  unfold F9 dEq dMark dHeld dSh F51 F69 F134 F45 F135 F40 F52 F103 F155 F46 F156 F104 F53 F105 F157 F158 F159 F106
  rw [hn]
  kernel_rfl
theorem ok9' : OK Proofs.Try.prog 9 (mkE p9 r9 false (F9 F49 F50 dEq dMark dHeld)) :=
  ok9 ok49 ok50
    (ok51 (ok69 (ok134 (ok178 ok96)) (ok45 ok101) (ok135 (ok179 ok96))) (ok40 ok96) (ok39 ok96))
    (ok52 (ok103 (ok155 ok102) (ok46 ok102) ok156) ok104)
    (ok53 (ok105 (ok157 ok102) (ok158 ok102) ok159) ok106)
end Ev
namespace Go.Proofs.Ytlifghlhbfjdmaa.fnExactNewDesk
open Go.ChangeShapes Go.WideShapes Go.ChangeAt Go.RowKit
open Go.ChangeMaps (open_string shut_string)
theorem own : ownKnob Try.prog.godebug = none := by kernel_rfl
theorem laidOut : laidOutB Try.prog = true := by kernel_rfl
theorem lifted (os : Os) (started : os.Started) (H : Type) (enc : TypeId × Value → H) :
    ReturnsInHanded {} Try.checked os 9 .any (Rows.fnExactNewDeskSpec.pre6 enc Try.prog Try.f9 Rows.fnExactNewDeskRow.domain false) (Rows.fnExactNewDeskSpec.post enc Try.prog Try.f9 false true false false) := by
  refine returnsInHanded_of_change_sized (C := Try.checked) own started (by kernel_rfl) Try.func9
    (ChangeSpec.witness6 (enc := enc) (C := Try.checked) false ⟨#[], #[], []⟩ 8 (by kernel_rfl) (by kernel_rfl) (by kernel_rfl) (by kernel_rfl)) ?_
  intro W base args ds gs before hval0 hW hcnd hsz0 _
  have hval : ∀ (j : Nat) t v, Try.f9.params[j]? = some t → args[j]? = some v → Value.okWide Try.prog W .any base t v := hval0
  have hW' := hW
  obtain ⟨p, q, hA0, hV, rfl, hfz, hnd⟩ := hW
  have hA : DataW.TrodAll enc Try.prog W 0 (fun _ => true) true Try.f9.params.toList args.toList ds p := hA0
  rw [Try.params9] at hA hval
  obtain ⟨hargs, rfl, rfl⟩ := trodAll_nil hA
  obtain rfl : args = #[] := by cases args; simp_all
  obtain ⟨rfl, rfl⟩ := trodVars_none hV
  clear hA0 hval0 hsz0
  refine (Ev.calls_true (av := []) (out := []) Ev.ok9' (by
    exact Ev.sem_of (ps := Ev.p9) (rs := Ev.r9) (a := ()) rfl (Ev.F9_eq )) (w := W) (ca := #[]) rfl (Ev.args_arr Ev.args0)).mono fun e W' ⟨he, bel⟩ => ?_
  subst he
  exact ⟨_, rfl, _, _, _, [], _, [], hW', trodAll_mk1 (shut_bool Try.underlying4 _), trodAll_mk0, rfl, bel.frame _, fun h => by cases h⟩
theorem over : Rows.fnExactNewDeskRow.holds Try.pinned (OpenSpec.ofChange Rows.fnExactNewDeskSpec) :=
  OpenClaim.holds_of_wide 9 Try.f9 rfl rfl rfl rfl rfl rfl rfl ⟨rfl, rfl, rfl, rfl, rfl⟩ rfl rfl rfl rfl rfl (by kernel_rfl) Try.func9 (by kernel_rfl)
    (of_decide_eq_true (by kernel_rfl)) (by unfold Func.isWrapper; first | (rw [if_pos (by decide +kernel)]; kernel_rfl) | (rw [if_neg (by decide +kernel)]; exact ⟨rfl, rfl⟩))
    (fun os started H enc _ => lifted os started H enc)
theorem proved : Rows.FnExactNewDeskSaid := over
#print axioms proved
end Go.Proofs.Ytlifghlhbfjdmaa.fnExactNewDesk
