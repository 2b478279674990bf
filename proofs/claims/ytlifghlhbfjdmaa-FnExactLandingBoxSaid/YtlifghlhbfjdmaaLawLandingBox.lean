/- The program's LandingBox returns what the reference's returns, for all arguments: on no condition. -/
import Derived.Test.YtlifghlhbfjdmaaRows
import Derived.Test.YtlifghlhbfjdmaaPlace
import Derived.Test.YtlifghlhbfjdmaaOpen
import Derived.Test.YtlifghlhbfjdmaaRow
import Derived.WalkKit
import Derived.ProofKit
import Derived.OpenShut
import Derived.ShutString
import Derived.ChangeOld
import Derived.Below
import Derived.SizedLaws
set_option linter.unusedVariables false
set_option maxRecDepth 100000
namespace Ev
open Go
theorem eqBox_self (a : Box) : F39 F96 (a, a, ()) = some (true, ()) := by
  unfold F39
  simp only [eqPlace_self, Option.bind_some]
  rfl
theorem F7_eq (j : Jet) (r : List Place) (hj : Wf .jet j) (hw : (∀ d ∈ r, Wf .place d) ∧ r.length ≤ maxLen) :
    F7 F34 (F36 F92) gToPs gLBS gLB (F39 F96) (F40 F96) (j, r, ()) = some (true, ()) := by
  unfold F7
  by_cases hl : r.length ≤ 1048576
  · obtain ⟨B, b, h1, h2⟩ := landBox_ok j r hl
    have hj : F36 F92 (j, ()) = some (j, ()) := rfl
    have hn : (if (1048576 : Int) < (r.length : Int) then (-1 : Int) else 1048576 - (r.length : Int)) = 1048576 - (r.length : Int) := if_neg (by omega)
    have c0 : ¬ (1048576 - (r.length : Int) < 0) := by omega
    simp only [szPlaces r hl 1048576 (by omega), hn, Option.bind_some, c0, toPlaces r hl, hj, h1, h2, eqBox_self, eqPlaces r hl, decide_true, decide_false, Bool.not_true, Bool.not_false, cond_true, cond_false]
  · rw [szPlaces_big r hl (Nat.le_trans hw.2 (by decide)) 1048576 (by omega), Option.bind_some, cond_true_dec (by decide)]
theorem okLB : OK Proofs.Try.prog 38 (mkE p38 r38 false gLB) ∧ OK Proofs.Try.prog 35 (mkE p35 r35 false gLBS) :=
  have kHead := ok169 ok72
  have kJet := ok114 ok72 kHead
  have kFl := ok95 kJet
  have kMeas := ok144 ok72
  have kPl := ok115 kMeas
  have kStep := ok188 kPl kHead kMeas (ok197 ok203) (ok198 kPl)
  have kLand := ok93 kFl (ok150 (ok187 kJet kFl ok72) kStep)
  have kRose := ok58 (ok121 ok72) (ok122 (ok172 ok192) ok171) ok72
  have kRB := ok94 kRose ok72 (ok151 kPl)
  have sJet := ok149 ok119 ok186
  have sFl := ok90 sJet
  have sLand := ok88 sFl (ok146 sJet sFl (ok183 (ok196 ok202) ok91))
  have sRB := ok89 (ok147 (ok120 ok170) ok184 ok79) (ok148 (ok175 ok119) ok185)
  ⟨ok38 kLand kFl kRB, ok35 sLand sFl sRB ok91⟩
theorem ok7' : OK Proofs.Try.prog 7 (mkE p7 r7 false (F7 F34 (F36 F92) gToPs gLBS gLB (F39 F96) (F40 F96))) :=
  ok7 ok34 (ok36 ok92) (ok37 ok92) okLB.2 okLB.1 (ok39 ok96) (ok40 ok96)
end Ev
namespace Go.Proofs.Ytlifghlhbfjdmaa.fnExactLandingBox
open Go.ChangeShapes Go.WideShapes Go.ChangeAt Go.RowKit
open Go.ChangeMaps (open_string shut_string)
theorem own : ownKnob Try.prog.godebug = none := by kernel_rfl
theorem laidOut : laidOutB Try.prog = true := by kernel_rfl
theorem lifted (os : Os) (started : os.Started) (H : Type) (enc : TypeId × Value → H) :
    ReturnsInHanded {} Try.checked os 7 .any (Rows.fnExactLandingBoxSpec.pre6 enc Try.prog Try.f7 Rows.fnExactLandingBoxRow.domain false) (Rows.fnExactLandingBoxSpec.post enc Try.prog Try.f7 false true false false) := by
  refine returnsInHanded_of_change_sized (C := Try.checked) own started (by kernel_rfl) Try.func7
    (ChangeSpec.witness6 (enc := enc) (C := Try.checked) false ⟨#[], #[.agg #[.int .i64 0, .int .i64 0, .int .i64 0, .int .i64 0, .int .i64 0], .slice none 0 0], []⟩ 8 (by kernel_rfl) (by kernel_rfl) (by kernel_rfl) (by kernel_rfl)) ?_
  intro W base args ds gs before hval0 hW hcnd hsz0 _
  have hval : ∀ (j : Nat) t v, Try.f7.params[j]? = some t → args[j]? = some v → Value.okWide Try.prog W .any base t v := hval0
  have hW' := hW
  obtain ⟨p, q, hA0, hV, rfl, hfz, hnd⟩ := hW
  have hA : DataW.TrodAll enc Try.prog W 0 (fun _ => true) true Try.f7.params.toList args.toList ds p := hA0
  rw [Try.params7] at hA hval
  obtain ⟨v0, vs0, d0, ds0, p0, q0, hargs, rfl, rfl, h0, r0⟩ := trodAll_cons hA
  obtain ⟨v1, vs1, d1, ds1, p1, q1, rfl, rfl, rfl, h1, r1⟩ := trodAll_cons r0
  obtain ⟨rfl, rfl, rfl⟩ := trodAll_nil r1
  obtain rfl : args = #[v0, v1] := by cases args; simp_all
  obtain ⟨rfl, rfl⟩ := trodVars_none hV
  obtain ⟨ca0, rfl, sz0⟩ := okWide_struct Try.underlying54 (hval 0 54 v0 rfl rfl)
  have k0 := h0
  have lt0 : ∀ x ∈ p0, x.block < W.heap.size := by obtain ⟨m, hm⟩ := k0; exact DataW.trod_lt m _ _ _ hm
  obtain ⟨x0, hca0, wf0⟩ : ∃ d : Ev.Ty.den .jet, ca0.toList = (Ev.Ty.cells .jet d).map Ev.sv ∧ Ev.Wf .jet d := by
    obtain ⟨fuel, hf⟩ := h0
    exact Ev.open_struct (l := [(52, .place)]) (by kernel_rfl) .jet (by kernel_rfl) hf
  obtain ⟨a1, len1, cap1, rfl⟩ := okWide_slice Try.underlying55 (hval 1 55 v1 rfl rfl)
  have k1 := h1
  have lt1 : ∀ x ∈ p1, x.block < W.heap.size := by obtain ⟨m, hm⟩ := k1; exact DataW.trod_lt m _ _ _ hm
  obtain ⟨zs1, hrel1, wf1, ml1⟩ : ∃ l : List (Ev.Ty.den .place), Ev.RelA (fun _ => none) (fun b => b < W.heap.size) W (.lst .place l) (.slice a1 len1 cap1) ∧ (∀ d ∈ l, Ev.Wf .place d) ∧ l.length ≤ maxLen := by
    obtain ⟨fuel, hf⟩ := h1
    exact Ev.open_rows (l := [(52, .place)]) (by kernel_rfl) (by kernel_rfl) hf
  clear hA0 hval0 hsz0
  refine (Ev.calls_true (av := [.agg (Ev.Ty.cells .jet x0), .lst .place zs1]) (out := []) Ev.ok7' (by
    exact Ev.sem_of (ps := Ev.p7) (rs := Ev.r7) (a := (x0, zs1, ())) rfl (Ev.F7_eq x0 zs1 wf0 (And.intro wf1 ml1))) (w := W) (ca := #[.agg ca0, .slice a1 len1 cap1]) rfl (Ev.args_arr (Ev.argsS (Ev.relA_agg _ x0 hca0) (Ev.argsS (hrel1) Ev.args0)))).mono fun e W' ⟨he, bel⟩ => ?_
  subst he
  exact ⟨_, rfl, _, _, _, [], _, [], hW', trodAll_mk1 (shut_bool Try.underlying4 _), (trodAll_cons_mk (Below.trod laidOut (by kernel_rfl) (of_decide_eq_true (by kernel_rfl)) k0 bel lt0) (trodAll_cons_mk (Below.trod laidOut (by kernel_rfl) (of_decide_eq_true (by kernel_rfl)) k1 bel lt1) trodAll_mk0)), rfl, bel.frame _, fun h => by cases h⟩
theorem over : Rows.fnExactLandingBoxRow.holds Try.pinned (OpenSpec.ofChange Rows.fnExactLandingBoxSpec) :=
  OpenClaim.holds_of_wide 7 Try.f7 rfl rfl rfl rfl rfl rfl rfl ⟨rfl, rfl, rfl, rfl, rfl⟩ rfl rfl rfl rfl rfl (by kernel_rfl) Try.func7 (by kernel_rfl)
    (of_decide_eq_true (by kernel_rfl)) (by unfold Func.isWrapper; first | (rw [if_pos (by decide +kernel)]; kernel_rfl) | (rw [if_neg (by decide +kernel)]; exact ⟨rfl, rfl⟩))
    (fun os started H enc _ => lifted os started H enc)
theorem proved : Rows.FnExactLandingBoxSaid := over
#print axioms proved
end Go.Proofs.Ytlifghlhbfjdmaa.fnExactLandingBox
