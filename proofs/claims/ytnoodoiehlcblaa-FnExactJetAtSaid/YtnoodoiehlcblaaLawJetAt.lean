/- The program's JetAt returns what the reference's returns, for all arguments: on no condition. -/
import Derived.Test.YtnoodoiehlcblaaRows
import Derived.Test.YtnoodoiehlcblaaSums
import Derived.Test.YtnoodoiehlcblaaRow
import Derived.WalkKit
import Derived.ProofKit
import Derived.OpenShut
import Derived.ShutString
import Derived.ChangeOld
import Derived.Below
import Derived.SizedLaws
set_option linter.unusedVariables false
set_option linter.unusedSimpArgs false
set_option maxRecDepth 100000
namespace Ev
open Go
theorem G4_eq (s : ShowT) (nm : Str) (n : Int) (hw : ShowWf s) (hnm : nm.length ≤ maxLen) (hn : -9223372036854775808 ≤ n ∧ n < 9223372036854775808) : G4 (s, nm, n, ()) = some (true, ()) := by
  obtain ⟨x, hx, hxx⟩ := szShow_ok s hw 1048576 (by omega)
  have hx : G10 (s, 1048576, ()) = some (x, ()) := hx
  unfold G4 F4
  simp only [es_show]
  by_cases h8 : Int.ofNat nm.length > 1048576
  · rw [cond_true_dec h8]
  rw [cond_false_dec h8]
  rw [hx]
  simp only [Option.bind_some]
  by_cases h0 : x < 0
  · rw [cond_true_dec h0]
  · rw [cond_false_dec h0]
    obtain ⟨_, hs⟩ := hxx (by omega)
    have ht : G12 (s, ()) = some (s, ()) := toShow_ok s hs
    have he : G15 (s, s, ()) = some (true, ()) := eqShow_ok s hs
    obtain ⟨j, b, g1, g2⟩ := jetAt_ok s hs nm n
    have hj : G21 (j, j, ()) = some (true, ()) := by
      unfold G21 F21 G56 F56
      simp only [Option.bind_some, decide_true, Bool.not_true, cond_false]
    simp only [ht, Option.bind_some, es_show, g1, g2, he, hj, decide_true, Bool.not_true, Bool.not_false, cond_true, cond_false]
end Ev
namespace Go.Proofs.Ytnoodoiehlcblaa.fnExactJetAt
open Go.ChangeShapes Go.WideShapes Go.ChangeAt Go.RowKit
open Go.ChangeMaps (open_string shut_string)
theorem own : ownKnob Try.prog.godebug = none := by kernel_rfl
theorem laidOut : laidOutB Try.prog = true := by kernel_rfl
theorem lifted (os : Os) (started : os.Started) (H : Type) (enc : TypeId × Value → H) :
    ReturnsInHanded {} Try.checked os 4 .any (Rows.fnExactJetAtSpec.pre6 enc Try.prog Try.f4 Rows.fnExactJetAtRow.domain false) (Rows.fnExactJetAtSpec.post enc Try.prog Try.f4 false true false false) := by
  refine returnsInHanded_of_change_sized (C := Try.checked) own started (by kernel_rfl) Try.func4
    (ChangeSpec.witness6 (enc := enc) (C := Try.checked) false ⟨#[], #[.agg #[.slice none 0 0, .slice none 0 0, .slice none 0 0, .int .i64 0], .string ⟨#[]⟩, .int .i64 0], []⟩ 8 (by kernel_rfl) (by kernel_rfl) (by kernel_rfl) (by kernel_rfl)) ?_
  intro W base args ds gs before hval0 hW hcnd hsz0 _
  have hval : ∀ (j : Nat) t v, Try.f4.params[j]? = some t → args[j]? = some v → Value.okWide Try.prog W .any base t v := hval0
  have hW' := hW
  obtain ⟨p, q, hA0, hV, rfl, hfz, hnd⟩ := hW
  have hA : DataW.TrodAll enc Try.prog W 0 (fun _ => true) true Try.f4.params.toList args.toList ds p := hA0
  rw [Try.params4] at hA hval
  obtain ⟨v0, vs0, d0, ds0, p0, q0, hargs, rfl, rfl, h0, r0⟩ := trodAll_cons hA
  obtain ⟨v1, vs1, d1, ds1, p1, q1, rfl, rfl, rfl, h1, r1⟩ := trodAll_cons r0
  obtain ⟨v2, vs2, d2, ds2, p2, q2, rfl, rfl, rfl, h2, r2⟩ := trodAll_cons r1
  obtain ⟨rfl, rfl, rfl⟩ := trodAll_nil r2
  obtain rfl : args = #[v0, v1, v2] := by cases args; simp_all
  obtain ⟨rfl, rfl⟩ := trodVars_none hV
  obtain ⟨ca0, rfl, sz0⟩ := okWide_struct Try.underlying26 (hval 0 26 v0 rfl rfl)
  have k0 := h0
  have lt0 : ∀ x ∈ p0, x.block < W.heap.size := by obtain ⟨m, hm⟩ := k0; exact DataW.trod_lt m _ _ _ hm
  obtain ⟨x0, hrel0, wf0⟩ : ∃ x : Ev.ShowT, Ev.RelA (fun _ => none) (fun b => b < W.heap.size) W (.agg [.lst .device x.1, .lst .cue x.2.1, .lst .gust x.2.2.1, .int .i64 x.2.2.2.1]) (.agg ca0) ∧ Ev.ShowWf x := by
    obtain ⟨fuel, hf⟩ := h0
    exact Ev.open_show (Ev.kinds_open (Ev.seB_ok (l := [(107, .gust), (93, .device), (96, .cue)]) (by kernel_rfl)) (n := 4) (ks := [.sl .device, .sl .cue, .sl .gust, .int .i64]) (by kernel_rfl) hf)
  obtain ⟨s1, rfl, rfl, rfl, ws1⟩ := open_string Try.underlying9 (hval 1 9 v1 rfl rfl) h1
  obtain ⟨n2, rfl, rfl, rfl, w2⟩ := open_int Try.underlying3 (hval 2 3 v2 rfl rfl) h2
  clear hA0 hval0 hsz0
  refine (Ev.calls_true (av := [.agg [.lst .device x0.1, .lst .cue x0.2.1, .lst .gust x0.2.2.1, .int .i64 x0.2.2.2.1], .str s1.data.toList, .int .i64 n2]) (out := []) Ev.okG4 (by
    exact Ev.sem_of (ps := Ev.p4) (rs := Ev.r4) (a := (x0, s1.data.toList, n2, ())) rfl (Ev.G4_eq x0 s1.data.toList n2 wf0 (by simpa using ws1) (Ev.wf_i64 w2))) (w := W) (ca := #[.agg ca0, .string s1, .int .i64 n2]) rfl (Ev.args_arr (Ev.argsS (hrel0) (Ev.argsS (rfl) (Ev.argsS (rfl) Ev.args0))))).mono fun e W' ⟨he, bel⟩ => ?_
  subst he
  exact ⟨_, rfl, _, _, _, [], _, [], hW', trodAll_mk1 (shut_bool Try.underlying4 _), (trodAll_cons_mk (Below.trod laidOut (by kernel_rfl) (of_decide_eq_true (by kernel_rfl)) k0 bel lt0) (trodAll_cons_mk (shut_string Try.underlying9 ws1) (trodAll_cons_mk (shut_int Try.underlying3 w2) trodAll_mk0))), rfl, bel.frame _, fun h => by cases h⟩
theorem over : Rows.fnExactJetAtRow.holds Try.pinned (OpenSpec.ofChange Rows.fnExactJetAtSpec) :=
  OpenClaim.holds_of_wide 4 Try.f4 rfl rfl rfl rfl rfl rfl rfl ⟨rfl, rfl, rfl, rfl, rfl⟩ rfl rfl rfl rfl rfl (by kernel_rfl) Try.func4 (by kernel_rfl)
    (of_decide_eq_true (by kernel_rfl)) (by unfold Func.isWrapper; first | (rw [if_pos (by decide +kernel)]; kernel_rfl) | (rw [if_neg (by decide +kernel)]; exact ⟨rfl, rfl⟩))
    (fun os started H enc _ => lifted os started H enc)
theorem proved : Rows.FnExactJetAtSaid := over
#print axioms proved
end Go.Proofs.Ytnoodoiehlcblaa.fnExactJetAt
