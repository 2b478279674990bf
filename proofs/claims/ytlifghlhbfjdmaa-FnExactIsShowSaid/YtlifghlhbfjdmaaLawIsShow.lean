/- The program's IsShow returns what the reference's returns, for all arguments: on no condition. -/
import Derived.Test.YtlifghlhbfjdmaaRows
import Derived.Test.YtlifghlhbfjdmaaShow
import Derived.Test.YtlifghlhbfjdmaaRow
import Derived.WalkKit
import Derived.ProofKit
import Derived.OpenShut
import Derived.ShutString
import Derived.ChangeOld
import Derived.Below
import Derived.SizedLaws
set_option linter.unusedVariables false
set_option linter.unusedSimpArgs false
set_option maxRecDepth 100000
namespace Ev
open Go
theorem F12_eq (s : ShowT) (hw : ShowWf s) : F12 gSz gTo gShowS gShow gEqSh (s, ()) = some (true, ()) := by
  obtain ⟨x, hx, hxx⟩ := szShow_ok s hw 1048576 (by omega)
  unfold F12
  have es : (s.1, s.2.1, s.2.2.1, s.2.2.2.1, ()) = s := rfl
  simp only [es, hx, Option.bind_some]
  by_cases h0 : x < 0
  · rw [cond_true_dec h0]
  · rw [cond_false_dec h0]
    obtain ⟨_, hs⟩ := hxx (by omega)
    obtain ⟨b, g1, g2⟩ := show_ok s hs
    simp only [toShow_ok s hs, Option.bind_some, es, g1, g2, eqShow_ok s hs, decide_true, Bool.not_true, cond_false]
theorem ok12' : OK Proofs.Try.prog 12 (mkE p12 r12 false (F12 gSz gTo gShowS gShow gEqSh)) :=
  have kName := ok112 ok72
  have kPl := ok115 (ok144 ok72)
  have sPl := ok120 ok170
  have kJet := ok114 ok72 (ok169 ok72)
  have sJet := ok149 ok119 ok186
  have kDev := ok56 kName (ok113 ok72) kJet ok72 kPl
  have sDev := ok57 ok116 (ok117 ok119) (ok118 sJet) ok119 sPl
  have kScore := ok85 (ok142 ok72 kName) (ok143 (ok172 ok192) (ok182 ok195) ok171)
  have sScore := ok98 (ok152 ok119 ok116) ok153
  have kRig := ok132 kDev (ok177 (ok194 (ok200 ok201)))
  have sRig := ok128 sDev (ok174 ok193)
  have kShow := ok68 kRig kScore (ok133 ok72 (ok121 ok72)) ok72
  have sShow := ok66 sRig sScore (ok129 ok119 (ok175 ok119)) ok119
  ok12 (ok65 (ok126 ok61) (ok41 ok97) ok127) (ok67 (ok130 (ok63 ok92)) (ok43 ok100) (ok131 (ok176 ok92))) sShow kShow (ok69 (ok134 (ok178 ok96)) (ok45 ok101) (ok135 (ok179 ok96)))
end Ev
namespace Go.Proofs.Ytlifghlhbfjdmaa.fnExactIsShow
open Go.ChangeShapes Go.WideShapes Go.ChangeAt Go.RowKit
open Go.ChangeMaps (open_string shut_string)
theorem own : ownKnob Try.prog.godebug = none := by kernel_rfl
theorem laidOut : laidOutB Try.prog = true := by kernel_rfl
theorem lifted (os : Os) (started : os.Started) (H : Type) (enc : TypeId × Value → H) :
    ReturnsInHanded {} Try.checked os 12 .any (Rows.fnExactIsShowSpec.pre6 enc Try.prog Try.f12 Rows.fnExactIsShowRow.domain false) (Rows.fnExactIsShowSpec.post enc Try.prog Try.f12 false true false false) := by
  refine returnsInHanded_of_change_sized (C := Try.checked) own started (by kernel_rfl) Try.func12
    (ChangeSpec.witness6 (enc := enc) (C := Try.checked) false ⟨#[], #[.agg #[.slice none 0 0, .slice none 0 0, .slice none 0 0, .int .i64 0]], []⟩ 8 (by kernel_rfl) (by kernel_rfl) (by kernel_rfl) (by kernel_rfl)) ?_
  intro W base args ds gs before hval0 hW hcnd hsz0 _
  have hval : ∀ (j : Nat) t v, Try.f12.params[j]? = some t → args[j]? = some v → Value.okWide Try.prog W .any base t v := hval0
  have hW' := hW
  obtain ⟨p, q, hA0, hV, rfl, hfz, hnd⟩ := hW
  have hA : DataW.TrodAll enc Try.prog W 0 (fun _ => true) true Try.f12.params.toList args.toList ds p := hA0
  rw [Try.params12] at hA hval
  obtain ⟨v0, vs0, d0, ds0, p0, q0, hargs, rfl, rfl, h0, r0⟩ := trodAll_cons hA
  obtain ⟨rfl, rfl, rfl⟩ := trodAll_nil r0
  obtain rfl : args = #[v0] := by cases args; simp_all
  obtain ⟨rfl, rfl⟩ := trodVars_none hV
  obtain ⟨ca0, rfl, sz0⟩ := okWide_struct Try.underlying107 (hval 0 107 v0 rfl rfl)
  have k0 := h0
  have lt0 : ∀ x ∈ p0, x.block < W.heap.size := by obtain ⟨m, hm⟩ := k0; exact DataW.trod_lt m _ _ _ hm
  obtain ⟨x0, hrel0, wf0⟩ : ∃ x : Ev.ShowT, Ev.RelA (fun _ => none) (fun b => b < W.heap.size) W (.agg [.lst .device x.1, .lst .cue x.2.1, .lst .gust x.2.2.1, .int .i64 x.2.2.2.1]) (.agg ca0) ∧ Ev.ShowWf x := by
    obtain ⟨fuel, hf⟩ := h0
    exact Ev.open_show (Ev.kinds_open (Ev.seB_ok (l := [(138, .cue), (185, .gust), (97, .device)]) (by kernel_rfl)) (n := 4) (ks := [.sl .device, .sl .cue, .sl .gust, .int .i64]) (by kernel_rfl) hf)
  clear hA0 hval0 hsz0
  refine (Ev.calls_true (av := [.agg [.lst .device x0.1, .lst .cue x0.2.1, .lst .gust x0.2.2.1, .int .i64 x0.2.2.2.1]]) (out := []) Ev.ok12' (by
    exact Ev.sem_of (ps := Ev.p12) (rs := Ev.r12) (a := (x0, ())) rfl (Ev.F12_eq x0 wf0)) (w := W) (ca := #[.agg ca0]) rfl (Ev.args_arr (Ev.argsS (hrel0) Ev.args0))).mono fun e W' ⟨he, bel⟩ => ?_
  subst he
  exact ⟨_, rfl, _, _, _, [], _, [], hW', trodAll_mk1 (shut_bool Try.underlying4 _), (trodAll_cons_mk (Below.trod laidOut (by kernel_rfl) (of_decide_eq_true (by kernel_rfl)) k0 bel lt0) trodAll_mk0), rfl, bel.frame _, fun h => by cases h⟩
theorem over : Rows.fnExactIsShowRow.holds Try.pinned (OpenSpec.ofChange Rows.fnExactIsShowSpec) :=
  OpenClaim.holds_of_wide 12 Try.f12 rfl rfl rfl rfl rfl rfl rfl ⟨rfl, rfl, rfl, rfl, rfl⟩ rfl rfl rfl rfl rfl (by kernel_rfl) Try.func12 (by kernel_rfl)
    (of_decide_eq_true (by kernel_rfl)) (by unfold Func.isWrapper; first | (rw [if_pos (by decide +kernel)]; kernel_rfl) | (rw [if_neg (by decide +kernel)]; exact ⟨rfl, rfl⟩))
    (fun os started H enc _ => lifted os started H enc)
theorem proved : Rows.FnExactIsShowSaid := over
#print axioms proved
end Go.Proofs.Ytlifghlhbfjdmaa.fnExactIsShow
