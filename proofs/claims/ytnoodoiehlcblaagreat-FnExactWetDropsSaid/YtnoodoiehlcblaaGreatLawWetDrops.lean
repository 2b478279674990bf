/- The program's WetDrops returns what the reference's returns, for all arguments: on no condition. -/
import Derived.Test.YtnoodoiehlcblaaGreatRows
import Derived.Test.YtnoodoiehlcblaaGreatDropA
import Derived.Test.YtnoodoiehlcblaaGreatMarkA
import Derived.Test.YtnoodoiehlcblaaGreatPureA
import Derived.WalkKit
import Derived.ProofKit
import Derived.OpenShut
import Derived.ShutString
import Derived.ChangeOld
import Derived.Below
import Derived.SizedLaws
set_option linter.unusedVariables false
set_option linter.unusedSimpArgs false
set_option maxRecDepth 100000
namespace Ev
open Go
theorem G6_eq (s : ShowT) (c : Box) (hw : ShowWf s) (hc : Wf .box c) : G6 (s, c, ()) = some (true, ()) := by
  obtain ⟨x, hx, hxx⟩ := szShow_ok s hw 1048576 (by omega)
  have hx : G11 (s, 1048576, ()) = some (x, ()) := hx
  unfold G6 F6
  simp only [es_show]
  rw [hx]
  simp only [Option.bind_some]
  by_cases h0 : x < 0
  · rw [cond_true_dec h0]
  · rw [cond_false_dec h0]
    obtain ⟨_, hs⟩ := hxx (by omega)
    have ht : G13 (s, ()) = some (s, ()) := toShow_ok s hs
    have he : G16 (s, s, ()) = some (true, ()) := eqShow_ok s hs
    obtain ⟨L0, _, hl0, g1, g2⟩ := wet_ok s hs c
    have hl := wetL_len c L0
    generalize wetL c L0 = L at g1 g2 hl
    have hb : G23 (c, ()) = some (c, ()) := rfl
    have hL : L.length ≤ 1048576 := by omega
    have q1 : G15 (L, L, ()) = some (true, ()) := eq_drop L hL
    have q2 : G18 (L, 1, ()) = _ := mark_drop L hL 1 (by omega)
    have q3 : G19 (mOs L.length 1, 1, ()) = _ := held_drop L.length hL 1 (by omega)
    have m1 := markShow_ok 0 0 0 s.1 s.2.1 s.2.2.1 s.2.2.2.1 hs.rig hs.score hs.wind
    have m1 : G17 (s, 1, ()) = _ := m1
    have c1 : ¬ (1 + 8 * (s.1.length : Int) + 4 * (s.2.1.length : Int) + 3 * (s.2.2.1.length : Int) < 0) := by omega
    have c2 : ¬ (1 + 5 * (L.length : Int) < 0) := by omega
    simp only [ht, hb, Option.bind_some, es_show, g1, g2, he, q1, q2, q3, m1, c1, c2, decide_true, decide_false, Bool.not_true, Bool.not_false, cond_true, cond_false]
end Ev
namespace Go.Proofs.YtnoodoiehlcblaaGreat.fnExactWetDrops
open Go.ChangeShapes Go.WideShapes Go.ChangeAt Go.RowKit
open Go.ChangeMaps (open_string shut_string)
theorem own : ownKnob Tryz.prog.godebug = none := by kernel_rfl
theorem laidOut : laidOutB Tryz.prog = true := by kernel_rfl
theorem lifted (os : Os) (started : os.Started) (H : Type) (enc : TypeId × Value → H) :
    ReturnsInHanded {} Tryz.checked os 6 .any (Rows.fnExactWetDropsSpec.pre6 enc Tryz.prog Tryz.f6 Rows.fnExactWetDropsRow.domain false) (Rows.fnExactWetDropsSpec.post enc Tryz.prog Tryz.f6 false true false false) := by
  refine returnsInHanded_of_change_sized (C := Tryz.checked) own started (by kernel_rfl) Tryz.func6
    (ChangeSpec.witness6 (enc := enc) (C := Tryz.checked) false ⟨#[], #[.agg #[.slice none 0 0, .slice none 0 0, .slice none 0 0, .int .i64 0], .agg #[.int .i64 0, .int .i64 0, .int .i64 0, .int .i64 0]], []⟩ 8 (by kernel_rfl) (by kernel_rfl) (by kernel_rfl) (by kernel_rfl)) ?_
  intro W base args ds gs before hval0 hW hcnd hsz0 _
  have hval : ∀ (j : Nat) t v, Tryz.f6.params[j]? = some t → args[j]? = some v → Value.okWide Tryz.prog W .any base t v := hval0
  have hW' := hW
  obtain ⟨p, q, hA0, hV, rfl, hfz, hnd⟩ := hW
  have hA : DataW.TrodAll enc Tryz.prog W 0 (fun _ => true) true Tryz.f6.params.toList args.toList ds p := hA0
  rw [Tryz.params6] at hA hval
  obtain ⟨v0, vs0, d0, ds0, p0, q0, hargs, rfl, rfl, h0, r0⟩ := trodAll_cons hA
  obtain ⟨v1, vs1, d1, ds1, p1, q1, rfl, rfl, rfl, h1, r1⟩ := trodAll_cons r0
  obtain ⟨rfl, rfl, rfl⟩ := trodAll_nil r1
  obtain rfl : args = #[v0, v1] := by cases args; simp_all
  obtain ⟨rfl, rfl⟩ := trodVars_none hV
  obtain ⟨ca0, rfl, sz0⟩ := okWide_struct Tryz.underlying26 (hval 0 26 v0 rfl rfl)
  have k0 := h0
  have lt0 : ∀ x ∈ p0, x.block < W.heap.size := by obtain ⟨m, hm⟩ := k0; exact DataW.trod_lt m _ _ _ hm
  obtain ⟨x0, hrel0, wf0⟩ : ∃ x : Ev.ShowT, Ev.RelA (fun _ => none) (fun b => b < W.heap.size) W (.agg [.lst .device x.1, .lst .cue x.2.1, .lst .gust x.2.2.1, .int .i64 x.2.2.2.1]) (.agg ca0) ∧ Ev.ShowWf x := by
    obtain ⟨fuel, hf⟩ := h0
    exact Ev.open_show (Ev.kinds_open (Ev.seB_ok (l := [(124, .device), (127, .cue), (146, .gust)]) (by kernel_rfl)) (n := 4) (ks := [.sl .device, .sl .cue, .sl .gust, .int .i64]) (by kernel_rfl) hf)
  obtain ⟨ca1, rfl, sz1⟩ := okWide_struct Tryz.underlying46 (hval 1 46 v1 rfl rfl)
  have k1 := h1
  have lt1 : ∀ x ∈ p1, x.block < W.heap.size := by obtain ⟨m, hm⟩ := k1; exact DataW.trod_lt m _ _ _ hm
  obtain ⟨x1, hca1, wf1⟩ : ∃ d : Ev.Ty.den .box, ca1.toList = (Ev.Ty.cells .box d).map Ev.sv ∧ Ev.Wf .box d := by
    obtain ⟨fuel, hf⟩ := h1
    exact Ev.open_struct (l := [(124, .device), (127, .cue), (146, .gust)]) (by kernel_rfl) .box (by kernel_rfl) hf
  clear hA0 hval0 hsz0
  refine (Ev.calls_true (av := [.agg [.lst .device x0.1, .lst .cue x0.2.1, .lst .gust x0.2.2.1, .int .i64 x0.2.2.2.1], .agg (Ev.Ty.cells .box x1)]) (out := []) Ev.okG6 (by
    exact Ev.sem_of (ps := Ev.p6) (rs := Ev.r6) (a := (x0, x1, ())) rfl (Ev.G6_eq x0 x1 wf0 wf1)) (w := W) (ca := #[.agg ca0, .agg ca1]) rfl (Ev.args_arr (Ev.argsS (hrel0) (Ev.argsS (Ev.relA_agg _ x1 hca1) Ev.args0)))).mono fun e W' ⟨he, bel⟩ => ?_
  subst he
  exact ⟨_, rfl, _, _, _, [], _, [], hW', trodAll_mk1 (shut_bool Tryz.underlying4 _), (trodAll_cons_mk (Below.trod laidOut (by kernel_rfl) (of_decide_eq_true (by kernel_rfl)) k0 bel lt0) (trodAll_cons_mk (Below.trod laidOut (by kernel_rfl) (of_decide_eq_true (by kernel_rfl)) k1 bel lt1) trodAll_mk0)), rfl, bel.frame _, fun h => by cases h⟩
theorem over : Rows.fnExactWetDropsRow.holds Tryz.pinned (OpenSpec.ofChange Rows.fnExactWetDropsSpec) :=
  OpenClaim.holds_of_wide 6 Tryz.f6 rfl rfl rfl rfl rfl rfl rfl ⟨rfl, rfl, rfl, rfl, rfl⟩ rfl rfl rfl rfl rfl (by kernel_rfl) Tryz.func6 (by kernel_rfl)
    (of_decide_eq_true (by kernel_rfl)) (by unfold Func.isWrapper; first | (rw [if_pos (by decide +kernel)]; kernel_rfl) | (rw [if_neg (by decide +kernel)]; exact ⟨rfl, rfl⟩))
    (fun os started H enc _ => lifted os started H enc)
theorem proved : Rows.FnExactWetDropsSaid := over
#print axioms proved
end Go.Proofs.YtnoodoiehlcblaaGreat.fnExactWetDrops
