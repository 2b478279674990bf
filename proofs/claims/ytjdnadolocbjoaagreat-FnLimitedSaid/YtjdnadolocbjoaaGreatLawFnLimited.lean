/- A show whose lifts are limited is safe, and limited once more it stays: on no condition. -/
import Derived.Test.YtjdnadolocbjoaaGreatRows
import Derived.Test.YtjdnadolocbjoaaGreatBasin
import Derived.Test.YtjdnadolocbjoaaGreatLmt
import Derived.Test.YtjdnadolocbjoaaGreatPureA
import Derived.WalkKit
import Derived.ProofKit
import Derived.OpenShut
import Derived.ShutString
import Derived.ChangeOld
import Derived.Below
import Derived.SizedLaws
set_option linter.unusedVariables false
set_option linter.unusedSimpArgs false
set_option maxRecDepth 100000
namespace Ev
open Go
theorem G9_eq (b : List Int) (hw : (∀ d ∈ b, Wf .u8 d) ∧ b.length ≤ maxLen) : G9 (b, ()) = some (true, ()) := by
  unfold G9 F9 G14 F14
  simp only [Option.bind_some]
  by_cases hb : b.length ≤ 4096
  · rw [cond_false_dec (by simp; omega)]
    obtain ⟨⟨s, r, c, w, u⟩, e, hD⟩ := drawBasin_w hb
    have hD : DrawB s r c w := hD
    rw [e]
    have hv := hD.show_
    have hr := hD.rose
    have hrl : r.length ≤ 1048576 := by have := hr.len; omega
    obtain ⟨C, hC1, hC, hB⟩ := roseBox_is hr
    have hv' := lmS_valid hv hrl c
    have hI : G39 (lmS r c s, ()) = some (true, ()) := by rw [showI_is _ hv'.ok, showB_of hv']
    obtain ⟨v, ev, hiff⟩ := safeI_is hv' hr hC hB c
    have hvt : v = true := hiff.2 ⟨hD.box, lim_safe hv hr hC hB hD.box⟩
    subst hvt
    have hlen : (lmS r c s).1.length = s.1.length := by unfold lmS; simp
    have hsl := hv.ok.rig
    simp only [Option.bind_some, es_show, limShow_is hv hr hD.box, limShow_is hv' hr hD.box, hI, ev, lmS_twice hv hrl c, rigs_self (lmS r c s).1 (by omega), Bool.not_true, Bool.not_false, cond_true, cond_false]
    refine (iterF_for (f := s9_0 G14 G15 G28 G39 G29 G47) (K := fun t14 => some (true, ())) (fun i => (s, lmS r c s, (i : Int), ())) s.1.length (by omega) ?_ ?_).trans rfl
    · intro i hi rec K
      have hx : s.1[i]? = some s.1[i] := by simp
      have hx' := fun (K : Device → Option (Bool × Unit)) => rdL_at (K := K) hx
      have hy : (lmS r c s).1[i]? = some (lmD r c s.1[i]) := by show (s.1.map (lmD r c))[i]? = _; rw [List.getElem?_map, hx]; rfl
      have hy' := fun (K : Device → Option (Bool × Unit)) => rdL_at (K := K) hy
      have e1 : w64 ((i : Int) + 1) = ((i + 1 : Nat) : Int) := w64_id (by omega) (by omega)
      have hdv := hv.rig.dev s.1[i] (by simp)
      simp only [s9_0, es_show]
      rw [cond_true_dec (by simp; omega)]
      simp only [hx', hy', hy, Int.toNat_natCast, Option.bind_some, e1]
      generalize s.1[i] = d at hdv
      have hle : ¬ (lmD r c d).Most > d.Most := by
        by_cases hk : d.Kind = 2
        · obtain ⟨n1, n2⟩ := dev_small hdv
          rw [lmD_two r c hk]
          rcases (limVI_is d r c (by omega) (by omega) hrl).2 with ⟨_, _, hl⟩ | ⟨hn, _⟩
          · have := hl.range
            simp only
            omega
          · exact absurd ⟨hdv, hk⟩ hn
        · unfold lmD; rw [if_neg hk]; omega
      rw [decide_eq_false hle]
      simp only [Bool.not_false, cond_true]
      by_cases hk : d.Kind = 2
      · rw [decide_eq_true hk]
        rfl
      · have el : lmD r c d = d := by unfold lmD; rw [if_neg hk]
        rw [decide_eq_false hk, el]
        simp only [decide_true, Bool.and_self, Bool.not_true, Bool.not_false, cond_true, cond_false]
    · intro rec K
      simp only [s9_0, es_show]
      rw [cond_false_dec (by simp)]
  · rw [cond_true_dec (by simp; omega)]
end Ev
namespace Go.Proofs.YtjdnadolocbjoaaGreat.fnLimited
open Go.ChangeShapes Go.WideShapes Go.ChangeAt Go.RowKit
open Go.ChangeMaps (open_string shut_string)
theorem own : ownKnob Tryz.prog.godebug = none := by kernel_rfl
theorem laidOut : laidOutB Tryz.prog = true := by kernel_rfl
theorem lifted (os : Os) (started : os.Started) (H : Type) (enc : TypeId × Value → H) :
    ReturnsInHanded {} Tryz.checked os 9 .any (Rows.fnLimitedSpec.pre6 enc Tryz.prog Tryz.f9 Rows.fnLimitedRow.domain false) (Rows.fnLimitedSpec.post enc Tryz.prog Tryz.f9 false true false false) := by
  refine returnsInHanded_of_change_sized (C := Tryz.checked) own started (by kernel_rfl) Tryz.func9
    (ChangeSpec.witness6 (enc := enc) (C := Tryz.checked) false ⟨#[], #[.slice none 0 0], []⟩ 8 (by kernel_rfl) (by kernel_rfl) (by kernel_rfl) (by kernel_rfl)) ?_
  intro W base args ds gs before hval0 hW hcnd hsz0 _
  have hval : ∀ (j : Nat) t v, Tryz.f9.params[j]? = some t → args[j]? = some v → Value.okWide Tryz.prog W .any base t v := hval0
  have hW' := hW
  obtain ⟨p, q, hA0, hV, rfl, hfz, hnd⟩ := hW
  have hA : DataW.TrodAll enc Tryz.prog W 0 (fun _ => true) true Tryz.f9.params.toList args.toList ds p := hA0
  rw [Tryz.params9] at hA hval
  obtain ⟨v0, vs0, d0, ds0, p0, q0, hargs, rfl, rfl, h0, r0⟩ := trodAll_cons hA
  obtain ⟨rfl, rfl, rfl⟩ := trodAll_nil r0
  obtain rfl : args = #[v0] := by cases args; simp_all
  obtain ⟨rfl, rfl⟩ := trodVars_none hV
  obtain ⟨a0, len0, cap0, rfl⟩ := okWide_slice Tryz.underlying22 (hval 0 22 v0 rfl rfl)
  have k0 := h0
  have lt0 : ∀ x ∈ p0, x.block < W.heap.size := by obtain ⟨m, hm⟩ := k0; exact DataW.trod_lt m _ _ _ hm
  obtain ⟨zs0, hrel0, wf0, ml0⟩ : ∃ l : List (Ev.Ty.den .u8), Ev.RelA (fun _ => none) (fun b => b < W.heap.size) W (.lst .u8 l) (.slice a0 len0 cap0) ∧ (∀ d ∈ l, Ev.Wf .u8 d) ∧ l.length ≤ maxLen := by
    obtain ⟨fuel, hf⟩ := h0
    exact Ev.open_rows (l := [(5, .u8)]) (by kernel_rfl) (by kernel_rfl) hf
  clear hA0 hval0 hsz0
  refine (Ev.calls_true (av := [.lst .u8 zs0]) (out := []) Ev.okG9 (by
    exact Ev.sem_of (ps := Ev.p9) (rs := Ev.r9) (a := (zs0, ())) rfl (Ev.G9_eq zs0 (And.intro wf0 ml0))) (w := W) (ca := #[.slice a0 len0 cap0]) rfl (Ev.args_arr (Ev.argsS (hrel0) Ev.args0))).mono fun e W' ⟨he, bel⟩ => ?_
  subst he
  exact ⟨_, rfl, _, _, _, [], _, [], hW', trodAll_mk1 (shut_bool Tryz.underlying4 _), (trodAll_cons_mk (Below.trod laidOut (by kernel_rfl) (of_decide_eq_true (by kernel_rfl)) k0 bel lt0) trodAll_mk0), rfl, bel.frame _, fun h => by cases h⟩
theorem over : Rows.fnLimitedRow.holds Tryz.pinned (OpenSpec.ofChange Rows.fnLimitedSpec) :=
  OpenClaim.holds_of_wide 9 Tryz.f9 rfl rfl rfl rfl rfl rfl rfl ⟨rfl, rfl, rfl, rfl, rfl⟩ rfl rfl rfl rfl rfl (by kernel_rfl) Tryz.func9 (by kernel_rfl)
    (of_decide_eq_true (by kernel_rfl)) (by unfold Func.isWrapper; first | (rw [if_pos (by decide +kernel)]; kernel_rfl) | (rw [if_neg (by decide +kernel)]; exact ⟨rfl, rfl⟩))
    (fun os started H enc _ => lifted os started H enc)
theorem proved : Rows.FnLimitedSaid := over
#print axioms proved
end Go.Proofs.YtjdnadolocbjoaaGreat.fnLimited
