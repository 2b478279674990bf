/- The program's CutTrack returns what the reference's returns, for all arguments: on no condition. -/
import Derived.Test.YtmnahocockdpcaaRows
import Derived.Test.YtmnahocockdpcaaFact
import Derived.Test.YtmnahocockdpcaaRow
import Derived.WalkKit
import Derived.ProofKit
import Derived.OpenShut
import Derived.ShutString
import Derived.ChangeOld
import Derived.Below
import Derived.SizedLaws
set_option linter.unusedVariables false
set_option maxRecDepth 100000

namespace Ev
open Go
theorem F60_eq (a b : Int) : F60 (a, b, ()) = some (mn a b, ()) := by
  unfold F60
  rw [cond_dec, mn_eq]
  simp only []
  split <;> split <;> first | rfl | omega | (congr 2; omega)
theorem F27_F28 (l : List Int) (most : Int) (hl : l.length ≤ 1048576) : ∃ m, F27 (F15 F54) F60 (l, most, ()) = some (m, ()) ∧ F28 (F17 F55) (l, most, ()) = some (m, ()) ∧ m.length ≤ 1048576 := by
  obtain ⟨b, h1, h2, _⟩ := F15_ok l hl
  by_cases hgo : b = true ∧ 0 ≤ most
  · obtain ⟨rfl, hmost⟩ := hgo
    have key : ∀ (d i n : Nat) (s : List Int), i + d = l.length → d < n → s.length = i → ∃ m : List Int, m.length = l.length ∧
        iterF (s27_0 (F15 F54) F60) n (l, most, s, l, Int.ofNat l.length, (i : Int), ()) (fun t5 => some (t5.2.2.1, ())) = some (m, ()) ∧
        iterF (s28_0 (F17 F55)) n (most, s, l, Int.ofNat l.length, (i : Int), ()) (fun t4 => some (t4.2.1, ())) = some (m, ()) := by
      intro d
      induction d with
      | zero =>
        intro i n s hd hn hs
        obtain ⟨n, rfl⟩ : ∃ k, n = k + 1 := ⟨n - 1, by omega⟩
        refine ⟨s, by omega, ?_, ?_⟩
        · rw [iterF_succ]; simp only [s27_0]; rw [cond_false_dec (by simp; omega)]
        · rw [iterF_succ]; simp only [s28_0]; rw [cond_false_dec (by simp; omega)]
      | succ d ih =>
        intro i n s hd hn hs
        obtain ⟨n, rfl⟩ : ∃ k, n = k + 1 := ⟨n - 1, by omega⟩
        have hi : i < l.length := by omega
        have hx : l[i]? = some l[i] := by simp
        obtain ⟨m, hm, e1, e2⟩ := ih (i + 1) n (s ++ [mn l[i] most]) (by omega) (by omega) (by simp [hs])
        refine ⟨m, hm, ?_, ?_⟩
        · rw [iterF_succ]
          simp only [s27_0]
          rw [cond_true_dec (by simp; omega), rdL_at hx, h1, Option.bind_some, cond_true, cond_true_dec hmost, F60_eq, Option.bind_some, capK_le (by simp [hs]; omega), w64_id (by omega) (by omega)]
          exact e1
        · rw [iterF_succ]
          simp only [s28_0]
          rw [cond_true_dec (by simp; omega), rdL_at hx, capK_le (by simp [hs]; omega), w64_id (by omega) (by omega)]
          exact e2
    obtain ⟨m, hm, e1, e2⟩ := key l.length 0 fuel [] (by omega) (by rw [fuel_eq]; omega) rfl
    refine ⟨m, ?_, ?_, by omega⟩
    · unfold F27; exact e1
    · unfold F28
      simp only [h2, Option.bind_some, Bool.not_true, Bool.not_false, cond_true]
      rw [cond_false_dec (by omega)]
      exact e2
  · refine ⟨[], ?_, ?_, by simp⟩
    · unfold F27
      obtain ⟨t, ⟨_, rfl⟩, e⟩ := iterF_all (f := s27_0 (F15 F54) F60) (K := fun t5 => some (t5.2.2.1, ())) (t := (l, most, [], l, Int.ofNat l.length, 0, ())) l.length
        (fun i t => True ∧ t = (l, most, [], l, Int.ofNat l.length, (i : Int), ())) (by omega) ⟨trivial, rfl⟩
        (by
          rintro i _ hi ⟨_, rfl⟩
          have hx : l[i]? = some l[i] := by simp
          refine ⟨_, ⟨trivial, rfl⟩, fun rec K => ?_⟩
          simp only [s27_0]
          rw [cond_true_dec (by simp; omega), rdL_at hx, h1, Option.bind_some, w64_id (by omega) (by omega)]
          cases b with
          | false => rfl
          | true =>
            have : ¬ most ≥ 0 := fun h => hgo ⟨rfl, h⟩
            simp only [cond_true]
            rw [cond_false_dec this]
            rfl)
        (by
          rintro _ ⟨_, rfl⟩ rec K
          simp only [s27_0]
          rw [cond_false_dec (by simp)])
      exact e
    · unfold F28
      simp only [h2, Option.bind_some]
      cases b with
      | false => rfl
      | true =>
        have : most < 0 := by
          rcases Int.lt_or_le most 0 with h | h
          · exact h
          · exact absurd ⟨rfl, h⟩ hgo
        simp only [Bool.not_true, Bool.not_false, cond_true]
        rw [cond_true_dec this]
theorem F7_eq (l : List Int) (most : Int) (w1 : -9223372036854775808 ≤ most ∧ most < 9223372036854775808) :
    F7 F16 (F27 (F15 F54) F60) (F28 (F17 F55)) F18 F25 F26 (l, most, ()) = some (true, ()) := by
  unfold F7
  by_cases hl : l.length ≤ 1048576
  · rw [cond_false_dec (by simp; omega)]
    obtain ⟨m, h1, h2, hm⟩ := F27_F28 l most hl
    have c1 : ¬ (1 + (l.length : Int) < 0) := by omega
    have c2 : ¬ (1 + (m.length : Int) < 0) := by omega
    simp only [F16_eq l hl, Option.bind_some, h1, h2, F18_eq l hl, F18_eq m hm, F25_eq l hl, F25_eq m hm, F26_eq m.length hm, c1, c2, decide_true, decide_false, Bool.not_true, Bool.not_false, cond_true, cond_false]
  · rw [cond_true_dec (by simp; omega)]
theorem ok7' : OK Proofs.Try.prog 7 (mkE p7 r7 false (F7 F16 (F27 (F15 F54) F60) (F28 (F17 F55)) F18 F25 F26)) := ok7 ok16 (ok27 (ok15 ok54) ok60) (ok28 (ok17 ok55)) ok18 ok25 ok26
end Ev
namespace Go.Proofs.Ytmnahocockdpcaa.fnExactCutTrack
open Go.ChangeShapes Go.WideShapes Go.ChangeAt Go.RowKit
open Go.ChangeMaps (open_string shut_string)
theorem own : ownKnob Try.prog.godebug = none := by kernel_rfl
theorem laidOut : laidOutB Try.prog = true := by kernel_rfl
theorem lifted (os : Os) (started : os.Started) (H : Type) (enc : TypeId × Value → H) :
    ReturnsInHanded {} Try.checked os 7 .any (Rows.fnExactCutTrackSpec.pre6 enc Try.prog Try.f7 Rows.fnExactCutTrackRow.domain false) (Rows.fnExactCutTrackSpec.post enc Try.prog Try.f7 false true false false) := by
  refine returnsInHanded_of_change_sized (C := Try.checked) own started (by kernel_rfl) Try.func7
    (ChangeSpec.witness6 (enc := enc) (C := Try.checked) false ⟨#[], #[.slice none 0 0, .int .i64 0], []⟩ 8 (by kernel_rfl) (by kernel_rfl) (by kernel_rfl) (by kernel_rfl)) ?_
  intro W base args ds gs before hval0 hW hcnd hsz0 _
  have hval : ∀ (j : Nat) t v, Try.f7.params[j]? = some t → args[j]? = some v → Value.okWide Try.prog W .any base t v := hval0
  have hW' := hW
  obtain ⟨p, q, hA0, hV, rfl, hfz, hnd⟩ := hW
  have hA : DataW.TrodAll enc Try.prog W 0 (fun _ => true) true Try.f7.params.toList args.toList ds p := hA0
  rw [Try.params7] at hA hval
  obtain ⟨v0, vs0, d0, ds0, p0, q0, hargs, rfl, rfl, h0, r0⟩ := trodAll_cons hA
  obtain ⟨v1, vs1, d1, ds1, p1, q1, rfl, rfl, rfl, h1, r1⟩ := trodAll_cons r0
  obtain ⟨rfl, rfl, rfl⟩ := trodAll_nil r1
  obtain rfl : args = #[v0, v1] := by cases args; simp_all
  obtain ⟨rfl, rfl⟩ := trodVars_none hV
  obtain ⟨a0, len0, cap0, rfl⟩ := okWide_slice Try.underlying22 (hval 0 22 v0 rfl rfl)
  have k0 := h0
  have lt0 : ∀ x ∈ p0, x.block < W.heap.size := by obtain ⟨m, hm⟩ := k0; exact DataW.trod_lt m _ _ _ hm
  obtain ⟨zs0, hrel0⟩ : ∃ l : List Int, Ev.RelA (fun _ => none) (fun b => b < W.heap.size) W (.lst .int l) (.slice a0 len0 cap0) := by
    obtain ⟨fuel, hf⟩ := h0
    rcases open_ints Try.underlying22 Try.underlying3 (by kernel_rfl) hf with ⟨hcs, _⟩ | ⟨x, l, c, zs, hcs, _, hl, hm, hz, hp, hcell, hwz⟩
    · simp [Value.cells] at hcs
      obtain ⟨rfl, rfl, rfl⟩ := hcs
      exact ⟨[], none, 0, rfl, Nat.le_refl _, .inl rfl⟩
    · simp [Value.cells] at hcs
      obtain ⟨rfl, rfl, rfl⟩ := hcs
      exact ⟨zs.take len0, Ev.rel_ints hl (by simp at hz; omega) (fun h => by cases h) (fun y hy => by cases hy; exact hcell)⟩
  obtain ⟨n1, rfl, rfl, rfl, w1⟩ := open_int Try.underlying3 (hval 1 3 v1 rfl rfl) h1
  clear hA0 hval0 hsz0
  refine (Ev.calls_true (av := [.lst .int zs0, .int .i64 n1]) (out := []) Ev.ok7' (by
    exact Ev.sem_of (ps := Ev.p7) (rs := Ev.r7) (a := (zs0, n1, ())) rfl (Ev.F7_eq zs0 n1 (Ev.wf_i64 w1))) (w := W) (ca := #[.slice a0 len0 cap0, .int .i64 n1]) rfl (Ev.args_arr (Ev.argsS (hrel0) (Ev.argsS (rfl) Ev.args0)))).mono fun e W' ⟨he, bel⟩ => ?_
  subst he
  exact ⟨_, rfl, _, _, _, [], _, [], hW', trodAll_mk1 (shut_bool Try.underlying4 _), (trodAll_cons_mk (Below.trod laidOut (by kernel_rfl) (of_decide_eq_true (by kernel_rfl)) k0 bel lt0) (trodAll_cons_mk (shut_int Try.underlying3 w1) trodAll_mk0)), rfl, bel.frame _, fun h => by cases h⟩
theorem over : Rows.fnExactCutTrackRow.holds Try.pinned (OpenSpec.ofChange Rows.fnExactCutTrackSpec) :=
  OpenClaim.holds_of_wide 7 Try.f7 rfl rfl rfl rfl rfl rfl rfl ⟨rfl, rfl, rfl, rfl, rfl⟩ rfl rfl rfl rfl rfl (by kernel_rfl) Try.func7 (by kernel_rfl)
    (of_decide_eq_true (by kernel_rfl)) (by unfold Func.isWrapper; first | (rw [if_pos (by decide +kernel)]; kernel_rfl) | (rw [if_neg (by decide +kernel)]; exact ⟨rfl, rfl⟩))
    (fun os started H enc _ => lifted os started H enc)
theorem proved : Rows.FnExactCutTrackSaid := over
#print axioms proved
end Go.Proofs.Ytmnahocockdpcaa.fnExactCutTrack
