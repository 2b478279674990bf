/- The program's StepOf returns what the reference's returns, for all arguments: on no condition. -/
import Derived.Test.YtmnahocockdpcaaRows
import Derived.Test.YtmnahocockdpcaaFact
import Derived.Test.YtmnahocockdpcaaRow
import Derived.WalkKit
import Derived.ProofKit
import Derived.OpenShut
import Derived.ShutString
import Derived.ChangeOld
import Derived.Below
import Derived.SizedLaws
set_option linter.unusedVariables false
set_option maxRecDepth 100000

namespace Ev
open Go
theorem F56_eq (a b : Int) : F56 (a, b, ()) = some (mx a b, ()) := by
  unfold F56
  rw [cond_dec, mx_eq]
  simp only []
  split <;> split <;> first | rfl | omega | (congr 2; omega)
theorem mx_assoc (a b c : Int) : mx a (mx b c) = mx (mx a b) c := by
  simp only [mx_eq]
  repeat' split
  all_goals omega
theorem step_round (l : List Int) (hl : l.length ≤ 1048576) (hb : F15 F54 (l, ()) = some (true, ())) (i : Nat) (h1 : 1 ≤ i) (hi : i < l.length) (s : Int) :
    ∃ s', ∀ rec K, s19_0 (F15 F54) F56 (l, s, (i : Int), ()) rec K = rec (l, s', ((i + 1 : Nat) : Int), ()) ∧ s20_0 (F17 F55) (l, s, (i : Int), ()) rec K = rec (l, s', ((i + 1 : Nat) : Int), ()) := by
  obtain ⟨k, rfl⟩ : ∃ k, i = k + 1 := ⟨i - 1, by omega⟩
  have hx : l[k + 1]? = some l[k + 1] := by simp
  have hy : l[k]? = some l[k] := by simp
  have e1 : w64 (((k + 1 : Nat) : Int) - 1) = (k : Int) := by rw [w64_id (by omega) (by omega)]; omega
  refine ⟨mx (mx s (w64 (l[k + 1] - l[k]))) (w64 (l[k] - l[k + 1])), fun rec K => ⟨?_, ?_⟩⟩
  rotate_left
  · simp only [s20_0]
    rw [cond_true_dec (by simp; omega), rdL_at hx, e1, rdL_at hy, rdL_at hy, rdL_at hx, w64_id (n := ((k + 1 : Nat) : Int) + 1) (by omega) (by omega)]
    rfl
  · simp only [s19_0]
    rw [cond_true_dec (by simp; omega), hb, Option.bind_some, cond_true, rdL_at hx, e1, rdL_at hy, rdL_at hy, rdL_at hx, w64_id (n := ((k + 1 : Nat) : Int) + 1) (by omega) (by omega), F56_eq, Option.bind_some, F56_eq, Option.bind_some, mx_assoc]
    rfl
theorem F19_F20 (l : List Int) (hl : l.length ≤ 1048576) : ∃ v, F19 (F15 F54) F56 (l, ()) = some (v, ()) ∧ F20 (F17 F55) (l, ()) = some (v, ()) := by
  obtain ⟨b, h1, h2, h3⟩ := F15_ok l hl
  cases b with
  | false =>
    refine ⟨0, ?_, ?_⟩
    · unfold F19
      rw [show fuel = (fuel - 1) + 1 by rw [fuel_eq], iterF_succ]
      simp only [s19_0, h1, Option.bind_some, cond_false]
      cases decide ((1 : Int) < Int.ofNat l.length) <;> rfl
    · unfold F20
      simp only [h2, Option.bind_some]
      rfl
  | true =>
    have hi1 : (1 : Int) = ((1 : Nat) : Int) := rfl
    have e0 : (l, (0 : Int), (1 : Int), ()) = (l, (0 : Int), ((1 : Nat) : Int), ()) := rfl
    -- both loops make the same rounds
    have key : ∀ (d i m : Nat) (s : Int), 1 ≤ i → i + d = max l.length 1 → d < m → ∃ v, ∀ (K : List Int × Int × Int × Unit → Option (Int × Unit)), (∀ t, K t = some (t.2.1, ())) →
        iterF (s19_0 (F15 F54) F56) m (l, s, (i : Int), ()) K = some (v, ()) ∧ iterF (s20_0 (F17 F55)) m (l, s, (i : Int), ()) K = some (v, ()) := by
      intro d
      induction d with
      | zero =>
        intro i m s h1' hd hm
        obtain ⟨m, rfl⟩ : ∃ k, m = k + 1 := ⟨m - 1, by omega⟩
        refine ⟨s, fun K hK => ?_⟩
        rw [iterF_succ, iterF_succ]
        simp only [s19_0, s20_0]
        rw [cond_false_dec (by simp; omega), cond_false_dec (by simp; omega), hK]
        exact ⟨rfl, rfl⟩
      | succ d ih =>
        intro i m s h1' hd hm
        obtain ⟨m, rfl⟩ : ∃ k, m = k + 1 := ⟨m - 1, by omega⟩
        obtain ⟨s', hs⟩ := step_round l hl h1 i h1' (by omega) s
        obtain ⟨v, hv⟩ := ih (i + 1) m s' (by omega) (by omega) (by omega)
        refine ⟨v, fun K hK => ?_⟩
        rw [iterF_succ, iterF_succ, (hs _ _).1, (hs _ _).2]
        exact hv K hK
    obtain ⟨v, hv⟩ := key (max l.length 1 - 1) 1 fuel 0 (by omega) (by omega) (by rw [fuel_eq]; omega)
    refine ⟨v, ?_, ?_⟩
    · unfold F19; exact (hv _ fun t => rfl).1
    · unfold F20
      simp only [h2, Option.bind_some]
      exact (hv _ fun t => rfl).2
theorem F4_eq (l : List Int) : F4 F16 (F19 (F15 F54) F56) (F20 (F17 F55)) F18 (l, ()) = some (true, ()) := by
  unfold F4
  by_cases hl : l.length ≤ 1048576
  · rw [cond_false_dec (by simp; omega)]
    obtain ⟨v, h1, h2⟩ := F19_F20 l hl
    simp only [F16_eq l hl, Option.bind_some, h1, h2, F18_eq l hl]
    simp
  · rw [cond_true_dec (by simp; omega)]
theorem ok4' : OK Proofs.Try.prog 4 (mkE p4 r4 false (F4 F16 (F19 (F15 F54) F56) (F20 (F17 F55)) F18)) := ok4 ok16 (ok19 (ok15 ok54) ok56) (ok20 (ok17 ok55)) ok18
end Ev
namespace Go.Proofs.Ytmnahocockdpcaa.fnExactStepOf
open Go.ChangeShapes Go.WideShapes Go.ChangeAt Go.RowKit
open Go.ChangeMaps (open_string shut_string)
theorem own : ownKnob Try.prog.godebug = none := by kernel_rfl
theorem laidOut : laidOutB Try.prog = true := by kernel_rfl
theorem lifted (os : Os) (started : os.Started) (H : Type) (enc : TypeId × Value → H) :
    ReturnsInHanded {} Try.checked os 4 .any (Rows.fnExactStepOfSpec.pre6 enc Try.prog Try.f4 Rows.fnExactStepOfRow.domain false) (Rows.fnExactStepOfSpec.post enc Try.prog Try.f4 false true false false) := by
  refine returnsInHanded_of_change_sized (C := Try.checked) own started (by kernel_rfl) Try.func4
    (ChangeSpec.witness6 (enc := enc) (C := Try.checked) false ⟨#[], #[.slice none 0 0], []⟩ 8 (by kernel_rfl) (by kernel_rfl) (by kernel_rfl) (by kernel_rfl)) ?_
  intro W base args ds gs before hval0 hW hcnd hsz0 _
  have hval : ∀ (j : Nat) t v, Try.f4.params[j]? = some t → args[j]? = some v → Value.okWide Try.prog W .any base t v := hval0
  have hW' := hW
  obtain ⟨p, q, hA0, hV, rfl, hfz, hnd⟩ := hW
  have hA : DataW.TrodAll enc Try.prog W 0 (fun _ => true) true Try.f4.params.toList args.toList ds p := hA0
  rw [Try.params4] at hA hval
  obtain ⟨v0, vs0, d0, ds0, p0, q0, hargs, rfl, rfl, h0, r0⟩ := trodAll_cons hA
  obtain ⟨rfl, rfl, rfl⟩ := trodAll_nil r0
  obtain rfl : args = #[v0] := by cases args; simp_all
  obtain ⟨rfl, rfl⟩ := trodVars_none hV
  obtain ⟨a0, len0, cap0, rfl⟩ := okWide_slice Try.underlying22 (hval 0 22 v0 rfl rfl)
  have k0 := h0
  have lt0 : ∀ x ∈ p0, x.block < W.heap.size := by obtain ⟨m, hm⟩ := k0; exact DataW.trod_lt m _ _ _ hm
  obtain ⟨zs0, hrel0⟩ : ∃ l : List Int, Ev.RelA (fun _ => none) (fun b => b < W.heap.size) W (.lst .int l) (.slice a0 len0 cap0) := by
    obtain ⟨fuel, hf⟩ := h0
    rcases open_ints Try.underlying22 Try.underlying3 (by kernel_rfl) hf with ⟨hcs, _⟩ | ⟨x, l, c, zs, hcs, _, hl, hm, hz, hp, hcell, hwz⟩
    · simp [Value.cells] at hcs
      obtain ⟨rfl, rfl, rfl⟩ := hcs
      exact ⟨[], none, 0, rfl, Nat.le_refl _, .inl rfl⟩
    · simp [Value.cells] at hcs
      obtain ⟨rfl, rfl, rfl⟩ := hcs
      exact ⟨zs.take len0, Ev.rel_ints hl (by simp at hz; omega) (fun h => by cases h) (fun y hy => by cases hy; exact hcell)⟩
  clear hA0 hval0 hsz0
  refine (Ev.calls_true (av := [.lst .int zs0]) (out := []) Ev.ok4' (by
    exact Ev.sem_of (ps := Ev.p4) (rs := Ev.r4) (a := (zs0, ())) rfl (Ev.F4_eq zs0)) (w := W) (ca := #[.slice a0 len0 cap0]) rfl (Ev.args_arr (Ev.argsS (hrel0) Ev.args0))).mono fun e W' ⟨he, bel⟩ => ?_
  subst he
  exact ⟨_, rfl, _, _, _, [], _, [], hW', trodAll_mk1 (shut_bool Try.underlying4 _), (trodAll_cons_mk (Below.trod laidOut (by kernel_rfl) (of_decide_eq_true (by kernel_rfl)) k0 bel lt0) trodAll_mk0), rfl, bel.frame _, fun h => by cases h⟩
theorem over : Rows.fnExactStepOfRow.holds Try.pinned (OpenSpec.ofChange Rows.fnExactStepOfSpec) :=
  OpenClaim.holds_of_wide 4 Try.f4 rfl rfl rfl rfl rfl rfl rfl ⟨rfl, rfl, rfl, rfl, rfl⟩ rfl rfl rfl rfl rfl (by kernel_rfl) Try.func4 (by kernel_rfl)
    (of_decide_eq_true (by kernel_rfl)) (by unfold Func.isWrapper; first | (rw [if_pos (by decide +kernel)]; kernel_rfl) | (rw [if_neg (by decide +kernel)]; exact ⟨rfl, rfl⟩))
    (fun os started H enc _ => lifted os started H enc)
theorem proved : Rows.FnExactStepOfSaid := over
#print axioms proved
end Go.Proofs.Ytmnahocockdpcaa.fnExactStepOf
