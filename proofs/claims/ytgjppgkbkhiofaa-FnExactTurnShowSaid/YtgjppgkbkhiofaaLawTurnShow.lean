/- The program's TurnShow returns what the reference's returns, for all arguments: on no condition. -/
import Derived.Test.YtgjppgkbkhiofaaRows
import Derived.Test.YtgjppgkbkhiofaaMoved
import Derived.Test.YtgjppgkbkhiofaaMark
import Derived.Test.YtgjppgkbkhiofaaRow
import Derived.WalkKit
import Derived.ProofKit
import Derived.OpenShut
import Derived.ShutString
import Derived.ChangeOld
import Derived.Below
import Derived.SizedLaws
set_option linter.unusedVariables false
set_option linter.unusedSimpArgs false
set_option maxRecDepth 100000
namespace Ev
open Go
theorem F5_eq (s : ShowT) (n : Int) (hw : ShowWf s) (hn : -9223372036854775808 ≤ n ∧ n < 9223372036854775808) : F5 gSz gTo gTSS gTS gEqSh gMark gHeld (s, n, ()) = some (true, ()) := by
  obtain ⟨x, hx, hxx⟩ := szShow_ok s hw 1048576 (by omega)
  have es : ∀ s : ShowT, (s.1, s.2.1, s.2.2.1, s.2.2.2.1, ()) = s := fun _ => rfl
  unfold F5
  simp only [es, hx, Option.bind_some]
  by_cases h0 : x < 0
  · rw [cond_true_dec h0]
  · rw [cond_false_dec h0]
    obtain ⟨_, hs⟩ := hxx (by omega)
    obtain ⟨r, g1, g2, l1, l2, l3⟩ := turnShow_ok s hs n
    have m1 := markShow_ok 0 0 0 s.1 s.2.1 s.2.2.1 s.2.2.2.1 hs.rig hs.score hs.wind
    have m2 := markShow_ok 0 0 0 r.1 r.2.1 r.2.2.1 r.2.2.2.1 l1 l2 l3
    rw [es] at m1 m2
    have m3 := heldShow_ok r.1.length r.2.1.length r.2.2.1.length r.2.2.2.1 l1 l2 l3
    have hs1 := hs.rig; have hs2 := hs.score; have hs3 := hs.wind
    have c1 : ¬ (1 + 8 * (s.1.length : Int) + 4 * (s.2.1.length : Int) + 3 * (s.2.2.1.length : Int) < 0) := by omega
    have c2 : ¬ (1 + 8 * (r.1.length : Int) + 4 * (r.2.1.length : Int) + 3 * (r.2.2.1.length : Int) < 0) := by omega
    simp only [toShow_ok s hs, Option.bind_some, es, g1, g2, eqShow_ok s hs, eqShow_any r l1 l2 l3, m1, m2, m3, c1, c2, decide_true, decide_false, Bool.not_true, Bool.not_false, cond_true, cond_false]
theorem ok5' : OK Proofs.Try.prog 5 (mkE p5 r5 false (F5 gSz gTo gTSS gTS gEqSh gMark gHeld)) :=
  have kName := ok104 ok67
  have kPl := ok70 (ok100 ok67)
  have sPl := ok63 ok94
  have kHead := ok109 ok67
  have kJet := ok106 ok67 kHead
  have sJet := ok118 ok60 ok117
  have kDev := ok81 kName (ok105 ok67) kJet ok67 kPl
  have sDev := ok90 ok110 (ok111 ok60) (ok112 sJet) ok60 sPl
  have kScore := ok65 (ok96 ok67 kName) (ok97 (ok99 ok116) (ok115 ok121) ok98)
  have sScore := ok58 (ok92 ok60 ok110) ok93
  have kRig := ok64 kDev (ok95 (ok114 (ok119 ok120)))
  have sRig := ok57 sDev (ok91 ok113)
  have kWind := ok66 ok67 (ok68 ok67)
  have sWind := ok59 ok60 (ok61 ok60)
  have kShow := ok27 kRig kScore kWind ok67
  have sShow := ok22 sRig sScore sWind ok60
  have kTo := ok13 (ok37 (ok76 ok14)) (ok38 ok77) (ok39 (ok78 ok14))
  have kEq := ok16 (ok42 (ok83 ok71)) (ok43 ok84) (ok44 (ok85 ok71))
  have kSz := ok11 (ok32 ok72) (ok33 ok73) ok34
  have kTurn := ok88 ok108
  have sTurn := ok87 ok107
  have kTS := ok20 kShow (ok54 kRig kTurn (ok89 kHead ok108)) ok55 (ok56 kWind kTurn)
  have sTS := ok19 sShow (ok51 sRig (ok74 sTurn ok101 (ok102 ok117 ok107) sDev)) ok52 (ok53 sWind sTurn)
  have kMark := ok17 (ok45 ok86) (ok46 ok86) ok47
  have kHeld := ok18 (ok48 ok86) (ok49 ok86) ok50
  ok5 kSz kTo sTS kTS kEq kMark kHeld
end Ev
namespace Go.Proofs.Ytgjppgkbkhiofaa.fnExactTurnShow
open Go.ChangeShapes Go.WideShapes Go.ChangeAt Go.RowKit
open Go.ChangeMaps (open_string shut_string)
theorem own : ownKnob Try.prog.godebug = none := by kernel_rfl
theorem laidOut : laidOutB Try.prog = true := by kernel_rfl
theorem lifted (os : Os) (started : os.Started) (H : Type) (enc : TypeId × Value → H) :
    ReturnsInHanded {} Try.checked os 5 .any (Rows.fnExactTurnShowSpec.pre6 enc Try.prog Try.f5 Rows.fnExactTurnShowRow.domain false) (Rows.fnExactTurnShowSpec.post enc Try.prog Try.f5 false true false false) := by
  refine returnsInHanded_of_change_sized (C := Try.checked) own started (by kernel_rfl) Try.func5
    (ChangeSpec.witness6 (enc := enc) (C := Try.checked) false ⟨#[], #[.agg #[.slice none 0 0, .slice none 0 0, .slice none 0 0, .int .i64 0], .int .i64 0], []⟩ 8 (by kernel_rfl) (by kernel_rfl) (by kernel_rfl) (by kernel_rfl)) ?_
  intro W base args ds gs before hval0 hW hcnd hsz0 _
  have hval : ∀ (j : Nat) t v, Try.f5.params[j]? = some t → args[j]? = some v → Value.okWide Try.prog W .any base t v := hval0
  have hW' := hW
  obtain ⟨p, q, hA0, hV, rfl, hfz, hnd⟩ := hW
  have hA : DataW.TrodAll enc Try.prog W 0 (fun _ => true) true Try.f5.params.toList args.toList ds p := hA0
  rw [Try.params5] at hA hval
  obtain ⟨v0, vs0, d0, ds0, p0, q0, hargs, rfl, rfl, h0, r0⟩ := trodAll_cons hA
  obtain ⟨v1, vs1, d1, ds1, p1, q1, rfl, rfl, rfl, h1, r1⟩ := trodAll_cons r0
  obtain ⟨rfl, rfl, rfl⟩ := trodAll_nil r1
  obtain rfl : args = #[v0, v1] := by cases args; simp_all
  obtain ⟨rfl, rfl⟩ := trodVars_none hV
  obtain ⟨ca0, rfl, sz0⟩ := okWide_struct Try.underlying26 (hval 0 26 v0 rfl rfl)
  have k0 := h0
  have lt0 : ∀ x ∈ p0, x.block < W.heap.size := by obtain ⟨m, hm⟩ := k0; exact DataW.trod_lt m _ _ _ hm
  obtain ⟨x0, hrel0, wf0⟩ : ∃ x : Ev.ShowT, Ev.RelA (fun _ => none) (fun b => b < W.heap.size) W (.agg [.lst .device x.1, .lst .cue x.2.1, .lst .gust x.2.2.1, .int .i64 x.2.2.2.1]) (.agg ca0) ∧ Ev.ShowWf x := by
    obtain ⟨fuel, hf⟩ := h0
    exact Ev.open_show (Ev.kinds_open (Ev.seB_ok (l := [(110, .gust), (97, .device), (99, .cue)]) (by kernel_rfl)) (n := 4) (ks := [.sl .device, .sl .cue, .sl .gust, .int .i64]) (by kernel_rfl) hf)
  obtain ⟨n1, rfl, rfl, rfl, w1⟩ := open_int Try.underlying3 (hval 1 3 v1 rfl rfl) h1
  clear hA0 hval0 hsz0
  refine (Ev.calls_true (av := [.agg [.lst .device x0.1, .lst .cue x0.2.1, .lst .gust x0.2.2.1, .int .i64 x0.2.2.2.1], .int .i64 n1]) (out := []) Ev.ok5' (by
    exact Ev.sem_of (ps := Ev.p5) (rs := Ev.r5) (a := (x0, n1, ())) rfl (Ev.F5_eq x0 n1 wf0 (Ev.wf_i64 w1))) (w := W) (ca := #[.agg ca0, .int .i64 n1]) rfl (Ev.args_arr (Ev.argsS (hrel0) (Ev.argsS (rfl) Ev.args0)))).mono fun e W' ⟨he, bel⟩ => ?_
  subst he
  exact ⟨_, rfl, _, _, _, [], _, [], hW', trodAll_mk1 (shut_bool Try.underlying4 _), (trodAll_cons_mk (Below.trod laidOut (by kernel_rfl) (of_decide_eq_true (by kernel_rfl)) k0 bel lt0) (trodAll_cons_mk (shut_int Try.underlying3 w1) trodAll_mk0)), rfl, bel.frame _, fun h => by cases h⟩
theorem over : Rows.fnExactTurnShowRow.holds Try.pinned (OpenSpec.ofChange Rows.fnExactTurnShowSpec) :=
  OpenClaim.holds_of_wide 5 Try.f5 rfl rfl rfl rfl rfl rfl rfl ⟨rfl, rfl, rfl, rfl, rfl⟩ rfl rfl rfl rfl rfl (by kernel_rfl) Try.func5 (by kernel_rfl)
    (of_decide_eq_true (by kernel_rfl)) (by unfold Func.isWrapper; first | (rw [if_pos (by decide +kernel)]; kernel_rfl) | (rw [if_neg (by decide +kernel)]; exact ⟨rfl, rfl⟩))
    (fun os started H enc _ => lifted os started H enc)
theorem proved : Rows.FnExactTurnShowSaid := over
#print axioms proved
end Go.Proofs.Ytgjppgkbkhiofaa.fnExactTurnShow
