/- The program's BlocksOf returns what the reference's returns, for all arguments: on no condition. -/
import Derived.Test.YtmnahocockdpcaaRows
import Derived.Test.YtmnahocockdpcaaBlocks
import Derived.Test.YtmnahocockdpcaaOpen
import Derived.Test.YtmnahocockdpcaaRow
import Derived.WalkKit
import Derived.ProofKit
import Derived.OpenShut
import Derived.ShutString
import Derived.ChangeOld
import Derived.Below
import Derived.SizedLaws
set_option linter.unusedVariables false
set_option maxRecDepth 100000
namespace Ev
open Go
theorem F12_eq (l : List Int) : F12 F16 (F43 (F15 F54) F60) (F31 (F17 F55)) (F44 F65) F18 F25 F45 F46 (l, ()) = some (true, ()) := by
  unfold F12
  by_cases hl : l.length ≤ 1048576
  · rw [cond_false_dec (by simp; omega)]
    obtain ⟨m, e, hm⟩ : ∃ m, (if isTr l = true then blocks l else []) = m ∧ m.length ≤ 1048576 := ⟨_, rfl, by
      split
      · rw [blocks_len]; omega
      · simp⟩
    have c1 : ¬ (1 + (l.length : Int) < 0) := by omega
    have c2 : ¬ (1 + 8 * (m.length : Int) < 0) := by omega
    simp only [F16_eq l hl, Option.bind_some, F43_eq l hl, F31_eq l hl, e, F18_eq l hl, F44_eq m hm, F25_eq l hl, F45_eq m hm, F46_eq m.length hm, c1, c2, decide_true, decide_false, Bool.not_true, Bool.not_false, cond_true, cond_false]
  · rw [cond_true_dec (by simp; omega)]
theorem ok12' : OK Proofs.Try.prog 12 (mkE p12 r12 false (F12 F16 (F43 (F15 F54) F60) (F31 (F17 F55)) (F44 F65) F18 F25 F45 F46)) := ok12 ok16 (ok43 (ok15 ok54) ok60) (ok31 (ok17 ok55)) (ok44 ok65) ok18 ok25 ok45 ok46
end Ev
namespace Go.Proofs.Ytmnahocockdpcaa.fnExactBlocksOf
open Go.ChangeShapes Go.WideShapes Go.ChangeAt Go.RowKit
open Go.ChangeMaps (open_string shut_string)
theorem own : ownKnob Try.prog.godebug = none := by kernel_rfl
theorem laidOut : laidOutB Try.prog = true := by kernel_rfl
theorem lifted (os : Os) (started : os.Started) (H : Type) (enc : TypeId × Value → H) :
    ReturnsInHanded {} Try.checked os 12 .any (Rows.fnExactBlocksOfSpec.pre6 enc Try.prog Try.f12 Rows.fnExactBlocksOfRow.domain false) (Rows.fnExactBlocksOfSpec.post enc Try.prog Try.f12 false true false false) := by
  refine returnsInHanded_of_change_sized (C := Try.checked) own started (by kernel_rfl) Try.func12
    (ChangeSpec.witness6 (enc := enc) (C := Try.checked) false ⟨#[], #[.slice none 0 0], []⟩ 8 (by kernel_rfl) (by kernel_rfl) (by kernel_rfl) (by kernel_rfl)) ?_
  intro W base args ds gs before hval0 hW hcnd hsz0 _
  have hval : ∀ (j : Nat) t v, Try.f12.params[j]? = some t → args[j]? = some v → Value.okWide Try.prog W .any base t v := hval0
  have hW' := hW
  obtain ⟨p, q, hA0, hV, rfl, hfz, hnd⟩ := hW
  have hA : DataW.TrodAll enc Try.prog W 0 (fun _ => true) true Try.f12.params.toList args.toList ds p := hA0
  rw [Try.params12] at hA hval
  obtain ⟨v0, vs0, d0, ds0, p0, q0, hargs, rfl, rfl, h0, r0⟩ := trodAll_cons hA
  obtain ⟨rfl, rfl, rfl⟩ := trodAll_nil r0
  obtain rfl : args = #[v0] := by cases args; simp_all
  obtain ⟨rfl, rfl⟩ := trodVars_none hV
  obtain ⟨a0, len0, cap0, rfl⟩ := okWide_slice Try.underlying22 (hval 0 22 v0 rfl rfl)
  have k0 := h0
  have lt0 : ∀ x ∈ p0, x.block < W.heap.size := by obtain ⟨m, hm⟩ := k0; exact DataW.trod_lt m _ _ _ hm
  obtain ⟨zs0, hrel0⟩ : ∃ l : List Int, Ev.RelA (fun _ => none) (fun b => b < W.heap.size) W (.lst .int l) (.slice a0 len0 cap0) := by
    obtain ⟨fuel, hf⟩ := h0
    rcases open_ints Try.underlying22 Try.underlying3 (by kernel_rfl) hf with ⟨hcs, _⟩ | ⟨x, l, c, zs, hcs, _, hl, hm, hz, hp, hcell, hwz⟩
    · simp [Value.cells] at hcs
      obtain ⟨rfl, rfl, rfl⟩ := hcs
      exact ⟨[], none, 0, rfl, Nat.le_refl _, .inl rfl⟩
    · simp [Value.cells] at hcs
      obtain ⟨rfl, rfl, rfl⟩ := hcs
      exact ⟨zs.take len0, Ev.rel_ints hl (by simp at hz; omega) (fun h => by cases h) (fun y hy => by cases hy; exact hcell)⟩
  clear hA0 hval0 hsz0
  refine (Ev.calls_true (av := [.lst .int zs0]) (out := []) Ev.ok12' (by
    exact Ev.sem_of (ps := Ev.p12) (rs := Ev.r12) (a := (zs0, ())) rfl (Ev.F12_eq zs0)) (w := W) (ca := #[.slice a0 len0 cap0]) rfl (Ev.args_arr (Ev.argsS (hrel0) Ev.args0))).mono fun e W' ⟨he, bel⟩ => ?_
  subst he
  exact ⟨_, rfl, _, _, _, [], _, [], hW', trodAll_mk1 (shut_bool Try.underlying4 _), (trodAll_cons_mk (Below.trod laidOut (by kernel_rfl) (of_decide_eq_true (by kernel_rfl)) k0 bel lt0) trodAll_mk0), rfl, bel.frame _, fun h => by cases h⟩
theorem over : Rows.fnExactBlocksOfRow.holds Try.pinned (OpenSpec.ofChange Rows.fnExactBlocksOfSpec) :=
  OpenClaim.holds_of_wide 12 Try.f12 rfl rfl rfl rfl rfl rfl rfl ⟨rfl, rfl, rfl, rfl, rfl⟩ rfl rfl rfl rfl rfl (by kernel_rfl) Try.func12 (by kernel_rfl)
    (of_decide_eq_true (by kernel_rfl)) (by unfold Func.isWrapper; first | (rw [if_pos (by decide +kernel)]; kernel_rfl) | (rw [if_neg (by decide +kernel)]; exact ⟨rfl, rfl⟩))
    (fun os started H enc _ => lifted os started H enc)
theorem proved : Rows.FnExactBlocksOfSaid := over
#print axioms proved
end Go.Proofs.Ytmnahocockdpcaa.fnExactBlocksOf
