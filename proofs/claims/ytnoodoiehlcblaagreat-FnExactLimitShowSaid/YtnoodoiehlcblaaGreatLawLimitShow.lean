/- The program's LimitShow returns what the reference's returns, for all arguments: on no condition. -/
import Derived.Test.YtnoodoiehlcblaaGreatRows
import Derived.Test.YtnoodoiehlcblaaGreatWetA
import Derived.Test.YtnoodoiehlcblaaGreatMarkA
import Derived.Test.YtnoodoiehlcblaaGreatPureA
import Derived.WalkKit
import Derived.ProofKit
import Derived.OpenShut
import Derived.ShutString
import Derived.ChangeOld
import Derived.Below
import Derived.SizedLaws
set_option linter.unusedVariables false
set_option linter.unusedSimpArgs false
set_option maxRecDepth 100000
namespace Ev
open Go
theorem G10_eq (s : ShowT) (r : List Place) (c : Box) (hw : ShowWf s) (hr : (∀ d ∈ r, Wf .place d) ∧ r.length ≤ maxLen) (hc : Wf .box c) : G10 (s, r, c, ()) = some (true, ()) := by
  obtain ⟨x, hx, hxx⟩ := szShow_ok s hw 1048576 (by omega)
  have hx : G11 (s, 1048576, ()) = some (x, ()) := hx
  unfold G10 F10
  simp only [es_show]
  rw [hx]
  simp only [Option.bind_some]
  by_cases h0 : x < 0
  · rw [cond_true_dec h0]
  · rw [cond_false_dec h0]
    obtain ⟨hx1, hs⟩ := hxx (by omega)
    have ht : G13 (s, ()) = some (s, ()) := toShow_ok s hs
    have he : G16 (s, s, ()) = some (true, ()) := eqShow_ok s hs
    by_cases hl : r.length ≤ 1048576
    · have z1 : G27 (r, x, ()) = _ := szPlaces r hl x ⟨by omega, hx1⟩
      rw [z1]
      simp only [Option.bind_some]
      by_cases c1 : x < (r.length : Int)
      · rw [if_pos c1, cond_true_dec (by decide)]
      · rw [if_neg c1, cond_false_dec (by omega)]
        have p1 : G29 (r, ()) = some (r, ()) := toPlaces r hl
        have p2 : G32 (r, r, ()) = some (true, ()) := eqPlaces r hl
        have p3 : G23 (c, ()) = some (c, ()) := rfl
        obtain ⟨y, v, g1, g2, l1, l2, l3⟩ := limit_ok s hs r hl c
        have q1 : G16 (y, y, ()) = some (true, ()) := eqShow_any y l1 l2 l3
        have m1 := markShow_ok 0 0 0 s.1 s.2.1 s.2.2.1 s.2.2.2.1 hs.rig hs.score hs.wind
        have m1 : G17 (s, 1, ()) = _ := m1
        have m2 := markShow_ok 0 0 0 y.1 y.2.1 y.2.2.1 y.2.2.2.1 l1 l2 l3
        have m2 : G17 (y, 1, ()) = _ := m2
        have m3 := heldShow_ok y.1.length y.2.1.length y.2.2.1.length y.2.2.2.1 l1 l2 l3
        have m3 : G43 (_, 1, ()) = _ := m3
        have b1 := hs.rig; have b2 := hs.score; have b3 := hs.wind
        generalize hk : (1 + 8 * (s.1.length : Int) + 4 * (s.2.1.length : Int) + 3 * (s.2.2.1.length : Int)) = k at m1
        have m4 : G38 (r, k, ()) = _ := mark_place r hl k (by omega)
        have c2 : ¬ (k + 2 * (r.length : Int) < 0) := by omega
        have c3 : ¬ (1 + 8 * (y.1.length : Int) + 4 * (y.2.1.length : Int) + 3 * (y.2.2.1.length : Int) < 0) := by omega
        simp only [ht, p1, p2, p3, Option.bind_some, es_show, g1, g2, he, q1, m1, m2, m3, m4, c2, c3, decide_true, decide_false, Bool.not_true, Bool.not_false, cond_true, cond_false]
    · have z1 : G27 (r, x, ()) = _ := szPlaces_big r hl (Nat.le_trans hr.2 (by decide)) x ⟨by omega, hx1⟩
      rw [z1]
      simp only [Option.bind_some]
      rw [cond_true_dec (by decide)]
end Ev
namespace Go.Proofs.YtnoodoiehlcblaaGreat.fnExactLimitShow
open Go.ChangeShapes Go.WideShapes Go.ChangeAt Go.RowKit
open Go.ChangeMaps (open_string shut_string)
theorem own : ownKnob Tryz.prog.godebug = none := by kernel_rfl
theorem laidOut : laidOutB Tryz.prog = true := by kernel_rfl
theorem lifted (os : Os) (started : os.Started) (H : Type) (enc : TypeId × Value → H) :
    ReturnsInHanded {} Tryz.checked os 10 .any (Rows.fnExactLimitShowSpec.pre6 enc Tryz.prog Tryz.f10 Rows.fnExactLimitShowRow.domain false) (Rows.fnExactLimitShowSpec.post enc Tryz.prog Tryz.f10 false true false false) := by
  refine returnsInHanded_of_change_sized (C := Tryz.checked) own started (by kernel_rfl) Tryz.func10
    (ChangeSpec.witness6 (enc := enc) (C := Tryz.checked) false ⟨#[], #[.agg #[.slice none 0 0, .slice none 0 0, .slice none 0 0, .int .i64 0], .slice none 0 0, .agg #[.int .i64 0, .int .i64 0, .int .i64 0, .int .i64 0]], []⟩ 8 (by kernel_rfl) (by kernel_rfl) (by kernel_rfl) (by kernel_rfl)) ?_
  intro W base args ds gs before hval0 hW hcnd hsz0 _
  have hval : ∀ (j : Nat) t v, Tryz.f10.params[j]? = some t → args[j]? = some v → Value.okWide Tryz.prog W .any base t v := hval0
  have hW' := hW
  obtain ⟨p, q, hA0, hV, rfl, hfz, hnd⟩ := hW
  have hA : DataW.TrodAll enc Tryz.prog W 0 (fun _ => true) true Tryz.f10.params.toList args.toList ds p := hA0
  rw [Tryz.params10] at hA hval
  obtain ⟨v0, vs0, d0, ds0, p0, q0, hargs, rfl, rfl, h0, r0⟩ := trodAll_cons hA
  obtain ⟨v1, vs1, d1, ds1, p1, q1, rfl, rfl, rfl, h1, r1⟩ := trodAll_cons r0
  obtain ⟨v2, vs2, d2, ds2, p2, q2, rfl, rfl, rfl, h2, r2⟩ := trodAll_cons r1
  obtain ⟨rfl, rfl, rfl⟩ := trodAll_nil r2
  obtain rfl : args = #[v0, v1, v2] := by cases args; simp_all
  obtain ⟨rfl, rfl⟩ := trodVars_none hV
  obtain ⟨ca0, rfl, sz0⟩ := okWide_struct Tryz.underlying26 (hval 0 26 v0 rfl rfl)
  have k0 := h0
  have lt0 : ∀ x ∈ p0, x.block < W.heap.size := by obtain ⟨m, hm⟩ := k0; exact DataW.trod_lt m _ _ _ hm
  obtain ⟨x0, hrel0, wf0⟩ : ∃ x : Ev.ShowT, Ev.RelA (fun _ => none) (fun b => b < W.heap.size) W (.agg [.lst .device x.1, .lst .cue x.2.1, .lst .gust x.2.2.1, .int .i64 x.2.2.2.1]) (.agg ca0) ∧ Ev.ShowWf x := by
    obtain ⟨fuel, hf⟩ := h0
    exact Ev.open_show (Ev.kinds_open (Ev.seB_ok (l := [(124, .device), (127, .cue), (146, .gust), (44, .place)]) (by kernel_rfl)) (n := 4) (ks := [.sl .device, .sl .cue, .sl .gust, .int .i64]) (by kernel_rfl) hf)
  obtain ⟨a1, len1, cap1, rfl⟩ := okWide_slice Tryz.underlying54 (hval 1 54 v1 rfl rfl)
  have k1 := h1
  have lt1 : ∀ x ∈ p1, x.block < W.heap.size := by obtain ⟨m, hm⟩ := k1; exact DataW.trod_lt m _ _ _ hm
  obtain ⟨zs1, hrel1, wf1, ml1⟩ : ∃ l : List (Ev.Ty.den .place), Ev.RelA (fun _ => none) (fun b => b < W.heap.size) W (.lst .place l) (.slice a1 len1 cap1) ∧ (∀ d ∈ l, Ev.Wf .place d) ∧ l.length ≤ maxLen := by
    obtain ⟨fuel, hf⟩ := h1
    exact Ev.open_rows (l := [(124, .device), (127, .cue), (146, .gust), (44, .place)]) (by kernel_rfl) (by kernel_rfl) hf
  obtain ⟨ca2, rfl, sz2⟩ := okWide_struct Tryz.underlying46 (hval 2 46 v2 rfl rfl)
  have k2 := h2
  have lt2 : ∀ x ∈ p2, x.block < W.heap.size := by obtain ⟨m, hm⟩ := k2; exact DataW.trod_lt m _ _ _ hm
  obtain ⟨x2, hca2, wf2⟩ : ∃ d : Ev.Ty.den .box, ca2.toList = (Ev.Ty.cells .box d).map Ev.sv ∧ Ev.Wf .box d := by
    obtain ⟨fuel, hf⟩ := h2
    exact Ev.open_struct (l := [(124, .device), (127, .cue), (146, .gust), (44, .place)]) (by kernel_rfl) .box (by kernel_rfl) hf
  clear hA0 hval0 hsz0
  refine (Ev.calls_true (av := [.agg [.lst .device x0.1, .lst .cue x0.2.1, .lst .gust x0.2.2.1, .int .i64 x0.2.2.2.1], .lst .place zs1, .agg (Ev.Ty.cells .box x2)]) (out := []) Ev.okG10 (by
    exact Ev.sem_of (ps := Ev.p10) (rs := Ev.r10) (a := (x0, zs1, x2, ())) rfl (Ev.G10_eq x0 zs1 x2 wf0 (And.intro wf1 ml1) wf2)) (w := W) (ca := #[.agg ca0, .slice a1 len1 cap1, .agg ca2]) rfl (Ev.args_arr (Ev.argsS (hrel0) (Ev.argsS (hrel1) (Ev.argsS (Ev.relA_agg _ x2 hca2) Ev.args0))))).mono fun e W' ⟨he, bel⟩ => ?_
  subst he
  exact ⟨_, rfl, _, _, _, [], _, [], hW', trodAll_mk1 (shut_bool Tryz.underlying4 _), (trodAll_cons_mk (Below.trod laidOut (by kernel_rfl) (of_decide_eq_true (by kernel_rfl)) k0 bel lt0) (trodAll_cons_mk (Below.trod laidOut (by kernel_rfl) (of_decide_eq_true (by kernel_rfl)) k1 bel lt1) (trodAll_cons_mk (Below.trod laidOut (by kernel_rfl) (of_decide_eq_true (by kernel_rfl)) k2 bel lt2) trodAll_mk0))), rfl, bel.frame _, fun h => by cases h⟩
theorem over : Rows.fnExactLimitShowRow.holds Tryz.pinned (OpenSpec.ofChange Rows.fnExactLimitShowSpec) :=
  OpenClaim.holds_of_wide 10 Tryz.f10 rfl rfl rfl rfl rfl rfl rfl ⟨rfl, rfl, rfl, rfl, rfl⟩ rfl rfl rfl rfl rfl (by kernel_rfl) Tryz.func10 (by kernel_rfl)
    (of_decide_eq_true (by kernel_rfl)) (by unfold Func.isWrapper; first | (rw [if_pos (by decide +kernel)]; kernel_rfl) | (rw [if_neg (by decide +kernel)]; exact ⟨rfl, rfl⟩))
    (fun os started H enc _ => lifted os started H enc)
theorem proved : Rows.FnExactLimitShowSaid := over
#print axioms proved
end Go.Proofs.YtnoodoiehlcblaaGreat.fnExactLimitShow
