/- The program's IsDesk returns what the reference's returns, for all arguments: on no condition. -/
import Derived.Test.YtgjppgkbkhiofaaRows
import Derived.Test.YtgjppgkbkhiofaaDesk
import Derived.Test.YtgjppgkbkhiofaaRow
import Derived.WalkKit
import Derived.ProofKit
import Derived.OpenShut
import Derived.ShutString
import Derived.ChangeOld
import Derived.Below
import Derived.SizedLaws
set_option linter.unusedVariables false
set_option linter.unusedSimpArgs false
set_option maxRecDepth 100000
namespace Ev
open Go
theorem F3_eq (x : DeskT) (hw : DeskWf x) : F3 gSzD gToD gDeskS gDesk gEqD (x, ()) = some (true, ()) := by
  obtain ⟨n, hn, hok⟩ := szDesk_ok x hw
  have es : (x.1, x.2.1, x.2.2.1, x.2.2.2.1, x.2.2.2.2.1, x.2.2.2.2.2.1, x.2.2.2.2.2.2.1, x.2.2.2.2.2.2.2.1, x.2.2.2.2.2.2.2.2.1, ()) = x := rfl
  unfold F3
  simp only [es, hn, Option.bind_some]
  by_cases h0 : n < 0
  · rw [cond_true_dec h0]
  · rw [cond_false_dec h0]
    have ok := hok (by omega)
    obtain ⟨b, g1, g2⟩ := isDesk_ok x ok
    simp only [toDesk_ok x ok, Option.bind_some, es, g1, g2, eqDesk_ok x ok, decide_true, Bool.not_true, cond_false]
theorem ok3' : OK Proofs.Try.prog 3 (mkE p3 r3 false (F3 gSzD gToD gDeskS gDesk gEqD)) :=
  have kName := ok104 ok67
  have kPl := ok70 (ok100 ok67)
  have sPl := ok63 ok94
  have kJet := ok106 ok67 (ok109 ok67)
  have sJet := ok118 ok60 ok117
  have kDev := ok81 kName (ok105 ok67) kJet ok67 kPl
  have sDev := ok90 ok110 (ok111 ok60) (ok112 sJet) ok60 sPl
  have kScore := ok65 (ok96 ok67 kName) (ok97 (ok99 ok116) (ok115 ok121) ok98)
  have sScore := ok58 (ok92 ok60 ok110) ok93
  have kRig := ok64 kDev (ok95 (ok114 (ok119 ok120)))
  have sRig := ok57 sDev (ok91 ok113)
  have kShow := ok27 kRig kScore (ok66 ok67 (ok68 ok67)) ok67
  have sShow := ok22 sRig sScore (ok59 ok60 (ok61 ok60)) ok60
  have kRose := ok28 (ok68 ok67) (ok69 (ok99 ok116) ok98) ok67
  have sRose := ok23 (ok61 ok60) ok62
  have kTo := ok13 (ok37 (ok76 ok14)) (ok38 ok77) (ok39 (ok78 ok14))
  have kEq := ok16 (ok42 (ok83 ok71)) (ok43 ok84) (ok44 (ok85 ok71))
  have kSz := ok11 (ok32 ok72) (ok33 ok73) ok34
  ok3 (ok6 kSz ok21) (ok8 kTo (ok25 ok14) (ok26 ok14)) (ok7 sShow sRose (ok24 sPl)) (ok9 kShow kRose (ok29 kPl)) (ok10 kEq (ok30 ok71) (ok31 ok71))
end Ev
namespace Go.Proofs.Ytgjppgkbkhiofaa.fnExactIsDesk
open Go.ChangeShapes Go.WideShapes Go.ChangeAt Go.RowKit
open Go.ChangeMaps (open_string shut_string)
theorem own : ownKnob Try.prog.godebug = none := by kernel_rfl
theorem laidOut : laidOutB Try.prog = true := by kernel_rfl
theorem lifted (os : Os) (started : os.Started) (H : Type) (enc : TypeId × Value → H) :
    ReturnsInHanded {} Try.checked os 3 .any (Rows.fnExactIsDeskSpec.pre6 enc Try.prog Try.f3 Rows.fnExactIsDeskRow.domain false) (Rows.fnExactIsDeskSpec.post enc Try.prog Try.f3 false true false false) := by
  refine returnsInHanded_of_change_sized (C := Try.checked) own started (by kernel_rfl) Try.func3
    (ChangeSpec.witness6 (enc := enc) (C := Try.checked) false ⟨#[], #[.agg #[.slice none 0 0, .slice none 0 0, .slice none 0 0, .int .i64 0, .slice none 0 0, .int .i64 0, .int .i64 0, .int .i64 0, .int .i64 0]], []⟩ 8 (by kernel_rfl) (by kernel_rfl) (by kernel_rfl) (by kernel_rfl)) ?_
  intro W base args ds gs before hval0 hW hcnd hsz0 _
  have hval : ∀ (j : Nat) t v, Try.f3.params[j]? = some t → args[j]? = some v → Value.okWide Try.prog W .any base t v := hval0
  have hW' := hW
  obtain ⟨p, q, hA0, hV, rfl, hfz, hnd⟩ := hW
  have hA : DataW.TrodAll enc Try.prog W 0 (fun _ => true) true Try.f3.params.toList args.toList ds p := hA0
  rw [Try.params3] at hA hval
  obtain ⟨v0, vs0, d0, ds0, p0, q0, hargs, rfl, rfl, h0, r0⟩ := trodAll_cons hA
  obtain ⟨rfl, rfl, rfl⟩ := trodAll_nil r0
  obtain rfl : args = #[v0] := by cases args; simp_all
  obtain ⟨rfl, rfl⟩ := trodVars_none hV
  obtain ⟨ca0, rfl, sz0⟩ := okWide_struct Try.underlying33 (hval 0 33 v0 rfl rfl)
  have k0 := h0
  have lt0 : ∀ x ∈ p0, x.block < W.heap.size := by obtain ⟨m, hm⟩ := k0; exact DataW.trod_lt m _ _ _ hm
  obtain ⟨x0, hrel0, wf0⟩ : ∃ x : Ev.DeskT, Ev.RelA (fun _ => none) (fun b => b < W.heap.size) W (.agg [.lst .device x.1, .lst .cue x.2.1, .lst .gust x.2.2.1, .int .i64 x.2.2.2.1, .lst .place x.2.2.2.2.1, .int .i64 x.2.2.2.2.2.1, .int .i64 x.2.2.2.2.2.2.1, .int .i64 x.2.2.2.2.2.2.2.1, .int .i64 x.2.2.2.2.2.2.2.2.1]) (.agg ca0) ∧ Ev.DeskWf x := by
    obtain ⟨fuel, hf⟩ := h0
    exact Ev.open_desk (Ev.kinds_open (Ev.seB_ok (l := [(110, .gust), (29, .place), (97, .device), (99, .cue)]) (by kernel_rfl)) (n := 4) (ks := [.sl .device, .sl .cue, .sl .gust, .int .i64, .sl .place, .int .i64, .int .i64, .int .i64, .int .i64]) (by kernel_rfl) hf)
  clear hA0 hval0 hsz0
  refine (Ev.calls_true (av := [.agg [.lst .device x0.1, .lst .cue x0.2.1, .lst .gust x0.2.2.1, .int .i64 x0.2.2.2.1, .lst .place x0.2.2.2.2.1, .int .i64 x0.2.2.2.2.2.1, .int .i64 x0.2.2.2.2.2.2.1, .int .i64 x0.2.2.2.2.2.2.2.1, .int .i64 x0.2.2.2.2.2.2.2.2.1]]) (out := []) Ev.ok3' (by
    exact Ev.sem_of (ps := Ev.p3) (rs := Ev.r3) (a := (x0, ())) rfl (Ev.F3_eq x0 wf0)) (w := W) (ca := #[.agg ca0]) rfl (Ev.args_arr (Ev.argsS (hrel0) Ev.args0))).mono fun e W' ⟨he, bel⟩ => ?_
  subst he
  exact ⟨_, rfl, _, _, _, [], _, [], hW', trodAll_mk1 (shut_bool Try.underlying4 _), (trodAll_cons_mk (Below.trod laidOut (by kernel_rfl) (of_decide_eq_true (by kernel_rfl)) k0 bel lt0) trodAll_mk0), rfl, bel.frame _, fun h => by cases h⟩
theorem over : Rows.fnExactIsDeskRow.holds Try.pinned (OpenSpec.ofChange Rows.fnExactIsDeskSpec) :=
  OpenClaim.holds_of_wide 3 Try.f3 rfl rfl rfl rfl rfl rfl rfl ⟨rfl, rfl, rfl, rfl, rfl⟩ rfl rfl rfl rfl rfl (by kernel_rfl) Try.func3 (by kernel_rfl)
    (of_decide_eq_true (by kernel_rfl)) (by unfold Func.isWrapper; first | (rw [if_pos (by decide +kernel)]; kernel_rfl) | (rw [if_neg (by decide +kernel)]; exact ⟨rfl, rfl⟩))
    (fun os started H enc _ => lifted os started H enc)
theorem proved : Rows.FnExactIsDeskSaid := over
#print axioms proved
end Go.Proofs.Ytgjppgkbkhiofaa.fnExactIsDesk
