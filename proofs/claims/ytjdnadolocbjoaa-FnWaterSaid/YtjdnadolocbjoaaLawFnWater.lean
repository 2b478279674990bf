/- The water of a show is the sum of all lifts, and no pump gives more than it has: on no condition. -/
import Derived.Test.YtjdnadolocbjoaaRows
import Derived.Test.YtjdnadolocbjoaaDrawA
import Derived.Test.YtjdnadolocbjoaaFair2
import Derived.Test.YtjdnadolocbjoaaPureA
import Derived.WalkKit
import Derived.ProofKit
import Derived.OpenShut
import Derived.ShutString
import Derived.ChangeOld
import Derived.Below
import Derived.SizedLaws
set_option linter.unusedVariables false
set_option linter.unusedSimpArgs false
set_option maxRecDepth 100000
namespace Ev
open Go
theorem pumpSum_le (l : List Device) (h : ∀ d ∈ l, d.Kind = 1 → 0 ≤ d.Most ∧ d.Most ≤ 512) : 0 ≤ pumpSum l ∧ pumpSum l ≤ 512 * (l.length : Int) := by
  induction l with
  | nil => simp [pumpSum]
  | cons d l ih =>
    have := ih fun x hx => h x (by simp [hx])
    simp only [pumpSum, List.length_cons]
    by_cases k : d.Kind = 1
    · have := h d (by simp) k
      rw [if_pos k]; omega
    · rw [if_neg k]; omega
theorem G8_eq (b : List Int) (hw : (∀ d ∈ b, Wf .u8 d) ∧ b.length ≤ maxLen) : G8 (b, ()) = some (true, ()) := by
  unfold G8 F8 G10 F10
  simp only [Option.bind_some]
  by_cases hb : b.length ≤ 4096
  · rw [cond_false_dec (by simp; omega)]
    obtain ⟨⟨s, t, u⟩, e, hv, h1, ht0, ht1⟩ := drawShow_w hb
    have hv : ShowV s := hv
    have h1 : 1 ≤ s.1.length := h1
    have ht0 : 0 ≤ t := ht0
    have ht1 : t < 30 := ht1
    rw [e]
    simp only [Option.bind_some, es_show]
    obtain ⟨n, hn, h64⟩ := tick_nat hv
    have hlen := hv.rig.len
    have hps := pumpSum_le s.1 (fun d hd hk => pump_most hv hd hk)
    refine (iterF_for (f := s8_0 G10 G26 G27 G29 G39 G40) (fun i => (s, waterAt s i, 0, (i : Int), ())) n (by omega) ?_ ?_).trans ?_
    · intro i hi rec K
      have e1 : w64 ((i : Int) + 1) = ((i + 1 : Nat) : Int) := w64_id (by omega) (by omega)
      have hwa := waterAt_le hv (i + 1)
      have hmul : pumpSum s.1 * ((i + 1 : Nat) : Int) ≤ 4096 * 64 := Int.mul_le_mul (by omega) (by omega) (by omega) (by omega)
      simp only [s8_0, es_show]
      rw [cond_true_dec (by rw [hn]; omega), liftsI_is hv]
      simp only [Option.bind_some]
      rw [totalL_is hv]
      simp only [Option.bind_some]
      unfold waterAt at hwa
      rw [e1, w64_id (by omega) (by omega)]
      rfl
    · intro rec K
      simp only [s8_0, es_show]
      rw [cond_false_dec (by rw [hn]; omega)]
    refine (iterF_for (f := s8_2 G10 G26 G27 G29 G39 G40) (fun i => (s, waterAt s n, pumpSum (s.1.take i), (i : Int), ())) s.1.length (by omega) ?_ ?_).trans ?_
    · intro i hi rec K
      have hx : s.1[i]? = some s.1[i] := by simp
      have hx' := fun (K : Device → Option (Bool × Unit)) => rdL_at (K := K) hx
      have e1 : w64 ((i : Int) + 1) = ((i + 1 : Nat) : Int) := w64_id (by omega) (by omega)
      have hp1 := pumpSum_le (s.1.take (i + 1)) (fun d hd hk => pump_most hv (List.mem_of_mem_take hd) hk)
      have hl1 : (s.1.take (i + 1)).length ≤ 8 := by simp; omega
      have e2 : pumpSum (s.1.take (i + 1)) = pumpSum (s.1.take i) + (if s.1[i].Kind = 1 then s.1[i].Most else 0) := by
        rw [take_snocG s.1 i hi, pumpSum_app]; simp [pumpSum]
      simp only [s8_2, es_show]
      rw [cond_true_dec (by simp; omega)]
      simp only [hx', hx, Int.toNat_natCast, Option.bind_some, e1]
      by_cases k : s.1[i].Kind = 1
      · rw [if_pos k] at e2
        rw [cond_true_dec k, e2, w64_id (by omega) (by omega)]
      · rw [if_neg k] at e2
        rw [cond_false_dec k, e2, Int.add_zero]
    · intro rec K
      simp only [s8_2, es_show]
      rw [cond_false_dec (by simp)]
    have hwa := waterAt_le hv n
    have hnn : s.2.2.2.1.toNat = n := by omega
    have hmul : pumpSum s.1 * (n : Int) ≤ 4096 * 64 := Int.mul_le_mul (by omega) (by omega) (by omega) (by omega)
    have hmul0 : 0 ≤ pumpSum s.1 * (n : Int) := Int.mul_nonneg hps.1 (by omega)
    simp only [List.take_length, waterI_is hv, waterS_is hv, hnn, Option.bind_some, decide_true, Bool.not_true, cond_true, cond_false]
    rw [hn, w64_id (by omega) (by omega), decide_eq_true hwa.2]
  · rw [cond_true_dec (by simp; omega)]
end Ev
namespace Go.Proofs.Ytjdnadolocbjoaa.fnWater
open Go.ChangeShapes Go.WideShapes Go.ChangeAt Go.RowKit
open Go.ChangeMaps (open_string shut_string)
theorem own : ownKnob Try.prog.godebug = none := by kernel_rfl
theorem laidOut : laidOutB Try.prog = true := by kernel_rfl
theorem lifted (os : Os) (started : os.Started) (H : Type) (enc : TypeId × Value → H) :
    ReturnsInHanded {} Try.checked os 8 .any (Rows.fnWaterSpec.pre6 enc Try.prog Try.f8 Rows.fnWaterRow.domain false) (Rows.fnWaterSpec.post enc Try.prog Try.f8 false true false false) := by
  refine returnsInHanded_of_change_sized (C := Try.checked) own started (by kernel_rfl) Try.func8
    (ChangeSpec.witness6 (enc := enc) (C := Try.checked) false ⟨#[], #[.slice none 0 0], []⟩ 8 (by kernel_rfl) (by kernel_rfl) (by kernel_rfl) (by kernel_rfl)) ?_
  intro W base args ds gs before hval0 hW hcnd hsz0 _
  have hval : ∀ (j : Nat) t v, Try.f8.params[j]? = some t → args[j]? = some v → Value.okWide Try.prog W .any base t v := hval0
  have hW' := hW
  obtain ⟨p, q, hA0, hV, rfl, hfz, hnd⟩ := hW
  have hA : DataW.TrodAll enc Try.prog W 0 (fun _ => true) true Try.f8.params.toList args.toList ds p := hA0
  rw [Try.params8] at hA hval
  obtain ⟨v0, vs0, d0, ds0, p0, q0, hargs, rfl, rfl, h0, r0⟩ := trodAll_cons hA
  obtain ⟨rfl, rfl, rfl⟩ := trodAll_nil r0
  obtain rfl : args = #[v0] := by cases args; simp_all
  obtain ⟨rfl, rfl⟩ := trodVars_none hV
  obtain ⟨a0, len0, cap0, rfl⟩ := okWide_slice Try.underlying22 (hval 0 22 v0 rfl rfl)
  have k0 := h0
  have lt0 : ∀ x ∈ p0, x.block < W.heap.size := by obtain ⟨m, hm⟩ := k0; exact DataW.trod_lt m _ _ _ hm
  obtain ⟨zs0, hrel0, wf0, ml0⟩ : ∃ l : List (Ev.Ty.den .u8), Ev.RelA (fun _ => none) (fun b => b < W.heap.size) W (.lst .u8 l) (.slice a0 len0 cap0) ∧ (∀ d ∈ l, Ev.Wf .u8 d) ∧ l.length ≤ maxLen := by
    obtain ⟨fuel, hf⟩ := h0
    exact Ev.open_rows (l := [(5, .u8)]) (by kernel_rfl) (by kernel_rfl) hf
  clear hA0 hval0 hsz0
  refine (Ev.calls_true (av := [.lst .u8 zs0]) (out := []) Ev.okG8 (by
    exact Ev.sem_of (ps := Ev.p8) (rs := Ev.r8) (a := (zs0, ())) rfl (Ev.G8_eq zs0 (And.intro wf0 ml0))) (w := W) (ca := #[.slice a0 len0 cap0]) rfl (Ev.args_arr (Ev.argsS (hrel0) Ev.args0))).mono fun e W' ⟨he, bel⟩ => ?_
  subst he
  exact ⟨_, rfl, _, _, _, [], _, [], hW', trodAll_mk1 (shut_bool Try.underlying4 _), (trodAll_cons_mk (Below.trod laidOut (by kernel_rfl) (of_decide_eq_true (by kernel_rfl)) k0 bel lt0) trodAll_mk0), rfl, bel.frame _, fun h => by cases h⟩
theorem over : Rows.fnWaterRow.holds Try.pinned (OpenSpec.ofChange Rows.fnWaterSpec) :=
  OpenClaim.holds_of_wide 8 Try.f8 rfl rfl rfl rfl rfl rfl rfl ⟨rfl, rfl, rfl, rfl, rfl⟩ rfl rfl rfl rfl rfl (by kernel_rfl) Try.func8 (by kernel_rfl)
    (of_decide_eq_true (by kernel_rfl)) (by unfold Func.isWrapper; first | (rw [if_pos (by decide +kernel)]; kernel_rfl) | (rw [if_neg (by decide +kernel)]; exact ⟨rfl, rfl⟩))
    (fun os started H enc _ => lifted os started H enc)
theorem proved : Rows.FnWaterSaid := over
#print axioms proved
end Go.Proofs.Ytjdnadolocbjoaa.fnWater
