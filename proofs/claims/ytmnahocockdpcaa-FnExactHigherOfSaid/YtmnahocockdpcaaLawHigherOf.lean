/- The program's HigherOf returns what the reference's returns, for all arguments: on no condition. -/
import Derived.Test.YtmnahocockdpcaaRows
import Derived.Test.YtmnahocockdpcaaFact
import Derived.Test.YtmnahocockdpcaaRow
import Derived.WalkKit
import Derived.ProofKit
import Derived.OpenShut
import Derived.ShutString
import Derived.ChangeOld
import Derived.Below
import Derived.SizedLaws
set_option linter.unusedVariables false
set_option maxRecDepth 100000

namespace Ev
open Go
theorem F56_eq (a b : Int) : F56 (a, b, ()) = some (mx a b, ()) := by
  unfold F56
  rw [cond_dec, mx_eq]
  simp only []
  split <;> split <;> first | rfl | omega | (congr 2; omega)
theorem mx_comm (a b : Int) : mx a b = mx b a := by
  simp only [mx_eq]
  repeat' split
  all_goals omega
/-- The higher of two lists, at each place. -/
def higher : List Int → List Int → List Int
  | [], b => b
  | x :: a, [] => x :: a
  | x :: a, y :: b => mx x y :: higher a b
theorem higher_comm : ∀ a b : List Int, higher a b = higher b a
  | [], [] => rfl
  | [], _ :: _ => rfl
  | _ :: _, [] => rfl
  | x :: a, y :: b => by simp only [higher]; rw [mx_comm, higher_comm a b]
theorem higher_len : ∀ a b : List Int, (higher a b).length = max a.length b.length
  | [], b => by simp [higher]
  | x :: a, [] => by simp [higher]
  | x :: a, y :: b => by simp [higher, higher_len a b]
theorem higher_at : ∀ (a b : List Int) (i : Nat), (higher a b)[i]? = match a[i]?, b[i]? with
    | some x, some y => some (mx x y)
    | some x, none => some x
    | none, y => y
  | [], b, i => by simp [higher]
  | x :: a, [], i => by simp [higher]; cases (x :: a)[i]? <;> rfl
  | x :: a, y :: b, 0 => by simp [higher]
  | x :: a, y :: b, i + 1 => by simp only [higher, List.getElem?_cons_succ]; exact higher_at a b i
theorem s37_run (m0 x : List Int) (hx : x.length ≤ m0.length) (hm : m0.length ≤ 1048576) : iterF (s37_0 (F17 F55) F59) fuel (m0, x, Int.ofNat x.length, 0, ()) (fun t8 => some (t8.1, ())) = some (higher m0 x, ()) := by
  obtain ⟨t, ⟨m, rfl, h1, h2, h3⟩, e⟩ := iterF_all (f := s37_0 (F17 F55) F59) (K := fun t8 => some (t8.1, ())) (t := (m0, x, Int.ofNat x.length, 0, ())) x.length
    (fun i t => ∃ m : List Int, t = (m, x, Int.ofNat x.length, (i : Int), ()) ∧ m.length = m0.length ∧ (∀ j, j < i → m[j]? = (higher m0 x)[j]?) ∧ ∀ j, i ≤ j → m[j]? = m0[j]?) (by omega) ⟨m0, rfl, rfl, fun j hj => by omega, fun _ _ => rfl⟩
    (by
      rintro i _ hi ⟨m, rfl, h1, h2, h3⟩
      have hxx : x[i]? = some x[i] := by simp
      have hd : m[i]? = some m[i] := by simp
      have hd0 : m0[i]? = some m[i] := by rw [← h3 i (Nat.le_refl _)]; exact hd
      refine ⟨_, ⟨m.set i (mx m[i] x[i]), rfl, by simp [h1], fun j hj => ?_, fun j hj => ?_⟩, fun rec K => ?_⟩
      · rw [List.getElem?_set]
        by_cases hji : i = j
        · subst hji
          rw [higher_at, hd0, hxx]
          simp [show i < m.length by omega]
        · simp only [if_neg hji]; exact h2 j (by omega)
      · rw [List.getElem?_set, if_neg (by omega)]
        exact h3 j (by omega)
      · simp only [s37_0]
        rw [cond_true_dec (by simp; omega), rdL_at hxx, rdL_at hd]
        simp only [Int.toNat_natCast]
        rw [hd, w64_id (by omega) (by omega)]
        simp only [Option.bind_some]
        rw [rdL_at hd]
        rfl)
    (by
      rintro _ ⟨m, rfl, h1, h2, h3⟩ rec K
      simp only [s37_0]
      rw [cond_false_dec (by simp)])
  have : m = higher m0 x := List.ext_getElem? fun j => by
    by_cases hj : j < x.length
    · exact h2 j hj
    · rw [h3 j (by omega), higher_at, List.getElem?_eq_none (l := x) (by omega)]
      cases m0[j]? <;> rfl
  subst this
  exact e
theorem F36_F37 (a b : List Int) (ha : a.length ≤ 1048576) (hb : b.length ≤ 1048576) : ∃ m, F36 (F15 F54) F56 (a, b, ()) = some (m, ()) ∧ F37 (F17 F55) F59 (a, b, ()) = some (m, ()) ∧ m.length ≤ 1048576 := by
  obtain ⟨ta, a1, a2, a3⟩ := F15_ok a ha
  obtain ⟨tb, b1, b2, b3⟩ := F15_ok b hb
  by_cases hgo : ta = true ∧ tb = true
  · obtain ⟨rfl, rfl⟩ := hgo
    obtain ⟨_, a3⟩ := a3 rfl
    obtain ⟨_, b3⟩ := b3 rfl
    refine ⟨higher a b, ?_, ?_, by rw [higher_len]; omega⟩
    · unfold F36
      obtain ⟨t, ⟨m, rfl, h1, h2⟩, e⟩ := iterF_all (f := s36_0 (F15 F54) F56) (K := fun t16 => some (t16.2.2.1, ())) (t := (a, b, [], 0, ())) (max a.length b.length)
        (fun i t => ∃ m : List Int, t = (a, b, m, (i : Int), ()) ∧ m.length = i ∧ ∀ j, j < i → m[j]? = (higher a b)[j]?) (by omega) ⟨[], rfl, rfl, fun j hj => by omega⟩
        (by
          rintro i _ hi ⟨m, rfl, h1, h2⟩
          have put : ∀ v, (higher a b)[i]? = some v → ∀ j, j < i + 1 → (m ++ [v])[j]? = (higher a b)[j]? := by
            intro v hv j hj
            by_cases hji : j = i
            · subst hji; rw [hv, List.getElem?_append_right (by omega)]; simp [h1]
            · rw [List.getElem?_append_left (by omega)]; exact h2 j (by omega)
          by_cases c1 : i < a.length
          · have hax : a[i]? = some a[i] := by simp
            by_cases c2 : i < b.length
            · have hbx : b[i]? = some b[i] := by simp
              refine ⟨_, ⟨m ++ [mx a[i] b[i]], rfl, by simp [h1], put _ (by rw [higher_at, hax, hbx])⟩, fun rec K => ?_⟩
              simp only [s36_0]
              have d1 : (i : Int) < Int.ofNat a.length := by simp; omega
              have d2 : (i : Int) < Int.ofNat b.length := by simp; omega
              simp only [d1, d2, decide_true, Bool.not_true, cond_false, cond_true, a1, b1, Option.bind_some]
              rw [rdL_at hax, rdL_at hbx, F56_eq, Option.bind_some, capK_le (by simp [h1]; omega), w64_id (by omega) (by omega)]
              rfl
            · have hbx : b[i]? = none := by simp; omega
              refine ⟨_, ⟨m ++ [a[i]], rfl, by simp [h1], put _ (by rw [higher_at, hax, hbx])⟩, fun rec K => ?_⟩
              simp only [s36_0]
              have d1 : (i : Int) < Int.ofNat a.length := by simp; omega
              have d2 : ¬ (i : Int) < Int.ofNat b.length := by simp; omega
              simp only [d1, d2, decide_true, decide_false, Bool.not_true, cond_false, cond_true, a1, b1, Option.bind_some]
              rw [rdL_at hax, capK_le (by simp [h1]; omega), w64_id (by omega) (by omega)]
              rfl
          · have c2 : i < b.length := by omega
            have hax : a[i]? = none := by simp; omega
            have hbx : b[i]? = some b[i] := by simp
            have hz : mx 0 b[i] = b[i] := by
              have := (b3 b[i] (by simp)).1
              rw [mx_eq]; split <;> omega
            refine ⟨_, ⟨m ++ [b[i]], rfl, by simp [h1], put _ (by rw [higher_at, hax, hbx])⟩, fun rec K => ?_⟩
            simp only [s36_0]
            have d1 : ¬ (i : Int) < Int.ofNat a.length := by simp; omega
            have d2 : (i : Int) < Int.ofNat b.length := by simp; omega
            simp only [d1, d2, decide_true, decide_false, Bool.not_false, cond_false, cond_true, a1, b1, Option.bind_some]
            rw [rdL_at hbx, F56_eq, hz, Option.bind_some, capK_le (by simp [h1]; omega), w64_id (by omega) (by omega)]
            rfl)
        (by
          rintro _ ⟨m, rfl, h1, h2⟩ rec K
          simp only [s36_0]
          have d1 : ¬ ((max a.length b.length : Nat) : Int) < Int.ofNat a.length := by simp; omega
          have d2 : ¬ ((max a.length b.length : Nat) : Int) < Int.ofNat b.length := by simp; omega
          simp only [d1, d2, decide_false, Bool.not_false, cond_false, cond_true])
      have : m = higher a b := List.ext_getElem? fun j => by
        by_cases hj : j < max a.length b.length
        · exact h2 j hj
        · rw [List.getElem?_eq_none (by omega), List.getElem?_eq_none (by rw [higher_len]; omega)]
      subst this
      exact e
    · unfold F37
      simp only [a2, b2, Option.bind_some, Bool.not_true, Bool.not_false, cond_true, cond_false]
      by_cases c : a.length < b.length
      · rw [cond_true_dec (by simp; omega), F59_eq _ (by omega), Option.bind_some]
        simp only []
        rw [s37_run b a (by omega) hb, higher_comm]
      · rw [cond_false_dec (by simp; omega), F59_eq _ (by omega), Option.bind_some]
        simp only []
        rw [s37_run a b (by omega) ha]
  · refine ⟨[], ?_, ?_, by simp⟩
    · unfold F36
      rw [show fuel = (fuel - 1) + 1 by rw [fuel_eq], iterF_succ]
      simp only [s36_0, a1, b1, Option.bind_some]
      cases ta <;> cases tb <;> simp only [cond_true, cond_false] <;> first
        | (cases decide ((0 : Int) < Int.ofNat a.length) <;> cases decide ((0 : Int) < Int.ofNat b.length) <;> rfl)
        | exact absurd ⟨rfl, rfl⟩ hgo
    · unfold F37
      simp only [a2, b2, Option.bind_some]
      cases ta <;> cases tb <;> first
        | rfl
        | exact absurd ⟨rfl, rfl⟩ hgo
theorem F10_eq (a b : List Int) : F10 F16 (F36 (F15 F54) F56) (F37 (F17 F55) F59) F18 F25 F26 (a, b, ()) = some (true, ()) := by
  unfold F10
  by_cases ha : a.length ≤ 1048576
  · by_cases hb : b.length ≤ 1048576
    · rw [cond_false_dec (by simp; omega), cond_false_dec (by simp; omega)]
      obtain ⟨m, h1, h2, hm⟩ := F36_F37 a b ha hb
      have c1 : ¬ (1 + (a.length : Int) + (b.length : Int) < 0) := by omega
      have c2 : ¬ (1 + (m.length : Int) < 0) := by omega
      simp only [F16_eq a ha, F16_eq b hb, Option.bind_some, h1, h2, F18_eq a ha, F18_eq b hb, F18_eq m hm, F25_eq a ha, F25_eqk b hb (1 + (a.length : Int)) (by omega) (by omega), F25_eq m hm, F26_eq m.length hm, c1, c2, decide_true, decide_false, Bool.not_true, Bool.not_false, cond_true, cond_false]
    · rw [cond_false_dec (by simp; omega), cond_true_dec (by simp; omega)]
  · rw [cond_true_dec (by simp; omega)]
theorem ok10' : OK Proofs.Try.prog 10 (mkE p10 r10 false (F10 F16 (F36 (F15 F54) F56) (F37 (F17 F55) F59) F18 F25 F26)) := ok10 ok16 (ok36 (ok15 ok54) ok56) (ok37 (ok17 ok55) ok59) ok18 ok25 ok26
end Ev
namespace Go.Proofs.Ytmnahocockdpcaa.fnExactHigherOf
open Go.ChangeShapes Go.WideShapes Go.ChangeAt Go.RowKit
open Go.ChangeMaps (open_string shut_string)
theorem own : ownKnob Try.prog.godebug = none := by kernel_rfl
theorem laidOut : laidOutB Try.prog = true := by kernel_rfl
theorem lifted (os : Os) (started : os.Started) (H : Type) (enc : TypeId × Value → H) :
    ReturnsInHanded {} Try.checked os 10 .any (Rows.fnExactHigherOfSpec.pre6 enc Try.prog Try.f10 Rows.fnExactHigherOfRow.domain false) (Rows.fnExactHigherOfSpec.post enc Try.prog Try.f10 false true false false) := by
  refine returnsInHanded_of_change_sized (C := Try.checked) own started (by kernel_rfl) Try.func10
    (ChangeSpec.witness6 (enc := enc) (C := Try.checked) false ⟨#[], #[.slice none 0 0, .slice none 0 0], []⟩ 8 (by kernel_rfl) (by kernel_rfl) (by kernel_rfl) (by kernel_rfl)) ?_
  intro W base args ds gs before hval0 hW hcnd hsz0 _
  have hval : ∀ (j : Nat) t v, Try.f10.params[j]? = some t → args[j]? = some v → Value.okWide Try.prog W .any base t v := hval0
  have hW' := hW
  obtain ⟨p, q, hA0, hV, rfl, hfz, hnd⟩ := hW
  have hA : DataW.TrodAll enc Try.prog W 0 (fun _ => true) true Try.f10.params.toList args.toList ds p := hA0
  rw [Try.params10] at hA hval
  obtain ⟨v0, vs0, d0, ds0, p0, q0, hargs, rfl, rfl, h0, r0⟩ := trodAll_cons hA
  obtain ⟨v1, vs1, d1, ds1, p1, q1, rfl, rfl, rfl, h1, r1⟩ := trodAll_cons r0
  obtain ⟨rfl, rfl, rfl⟩ := trodAll_nil r1
  obtain rfl : args = #[v0, v1] := by cases args; simp_all
  obtain ⟨rfl, rfl⟩ := trodVars_none hV
  obtain ⟨a0, len0, cap0, rfl⟩ := okWide_slice Try.underlying22 (hval 0 22 v0 rfl rfl)
  have k0 := h0
  have lt0 : ∀ x ∈ p0, x.block < W.heap.size := by obtain ⟨m, hm⟩ := k0; exact DataW.trod_lt m _ _ _ hm
  obtain ⟨zs0, hrel0⟩ : ∃ l : List Int, Ev.RelA (fun _ => none) (fun b => b < W.heap.size) W (.lst .int l) (.slice a0 len0 cap0) := by
    obtain ⟨fuel, hf⟩ := h0
    rcases open_ints Try.underlying22 Try.underlying3 (by kernel_rfl) hf with ⟨hcs, _⟩ | ⟨x, l, c, zs, hcs, _, hl, hm, hz, hp, hcell, hwz⟩
    · simp [Value.cells] at hcs
      obtain ⟨rfl, rfl, rfl⟩ := hcs
      exact ⟨[], none, 0, rfl, Nat.le_refl _, .inl rfl⟩
    · simp [Value.cells] at hcs
      obtain ⟨rfl, rfl, rfl⟩ := hcs
      exact ⟨zs.take len0, Ev.rel_ints hl (by simp at hz; omega) (fun h => by cases h) (fun y hy => by cases hy; exact hcell)⟩
  obtain ⟨a1, len1, cap1, rfl⟩ := okWide_slice Try.underlying22 (hval 1 22 v1 rfl rfl)
  have k1 := h1
  have lt1 : ∀ x ∈ p1, x.block < W.heap.size := by obtain ⟨m, hm⟩ := k1; exact DataW.trod_lt m _ _ _ hm
  obtain ⟨zs1, hrel1⟩ : ∃ l : List Int, Ev.RelA (fun _ => none) (fun b => b < W.heap.size) W (.lst .int l) (.slice a1 len1 cap1) := by
    obtain ⟨fuel, hf⟩ := h1
    rcases open_ints Try.underlying22 Try.underlying3 (by kernel_rfl) hf with ⟨hcs, _⟩ | ⟨x, l, c, zs, hcs, _, hl, hm, hz, hp, hcell, hwz⟩
    · simp [Value.cells] at hcs
      obtain ⟨rfl, rfl, rfl⟩ := hcs
      exact ⟨[], none, 0, rfl, Nat.le_refl _, .inl rfl⟩
    · simp [Value.cells] at hcs
      obtain ⟨rfl, rfl, rfl⟩ := hcs
      exact ⟨zs.take len1, Ev.rel_ints hl (by simp at hz; omega) (fun h => by cases h) (fun y hy => by cases hy; exact hcell)⟩
  clear hA0 hval0 hsz0
  refine (Ev.calls_true (av := [.lst .int zs0, .lst .int zs1]) (out := []) Ev.ok10' (by
    exact Ev.sem_of (ps := Ev.p10) (rs := Ev.r10) (a := (zs0, zs1, ())) rfl (Ev.F10_eq zs0 zs1)) (w := W) (ca := #[.slice a0 len0 cap0, .slice a1 len1 cap1]) rfl (Ev.args_arr (Ev.argsS (hrel0) (Ev.argsS (hrel1) Ev.args0)))).mono fun e W' ⟨he, bel⟩ => ?_
  subst he
  exact ⟨_, rfl, _, _, _, [], _, [], hW', trodAll_mk1 (shut_bool Try.underlying4 _), (trodAll_cons_mk (Below.trod laidOut (by kernel_rfl) (of_decide_eq_true (by kernel_rfl)) k0 bel lt0) (trodAll_cons_mk (Below.trod laidOut (by kernel_rfl) (of_decide_eq_true (by kernel_rfl)) k1 bel lt1) trodAll_mk0)), rfl, bel.frame _, fun h => by cases h⟩
theorem over : Rows.fnExactHigherOfRow.holds Try.pinned (OpenSpec.ofChange Rows.fnExactHigherOfSpec) :=
  OpenClaim.holds_of_wide 10 Try.f10 rfl rfl rfl rfl rfl rfl rfl ⟨rfl, rfl, rfl, rfl, rfl⟩ rfl rfl rfl rfl rfl (by kernel_rfl) Try.func10 (by kernel_rfl)
    (of_decide_eq_true (by kernel_rfl)) (by unfold Func.isWrapper; first | (rw [if_pos (by decide +kernel)]; kernel_rfl) | (rw [if_neg (by decide +kernel)]; exact ⟨rfl, rfl⟩))
    (fun os started H enc _ => lifted os started H enc)
theorem proved : Rows.FnExactHigherOfSaid := over
#print axioms proved
end Go.Proofs.Ytmnahocockdpcaa.fnExactHigherOf
