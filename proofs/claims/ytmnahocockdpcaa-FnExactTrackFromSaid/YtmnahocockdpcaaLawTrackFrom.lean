/- The program's TrackFrom returns what the reference's returns, for all arguments: on no condition. -/
import Derived.Test.YtmnahocockdpcaaRows
import Derived.Test.YtmnahocockdpcaaBlocks
import Derived.Test.YtmnahocockdpcaaOpen
import Derived.Test.YtmnahocockdpcaaRow
import Derived.WalkKit
import Derived.ProofKit
import Derived.OpenShut
import Derived.ShutString
import Derived.ChangeOld
import Derived.Below
import Derived.SizedLaws
set_option linter.unusedVariables false
set_option maxRecDepth 100000
namespace Ev
open Go
/-- The number at a place of blocks that are laid side by side. -/
def bat (b : Block) (k : Nat) : Int := [b.b0, b.b1, b.b2, b.b3, b.b4, b.b5, b.b6, b.b7].getD k 0
def atB (l : List Block) (i : Nat) : Int := bat (l.getD (i / 8) zb) (i % 8)
theorem bat_at (b : Block) {k : Nat} (h : k < 8) : [b.b0, b.b1, b.b2, b.b3, b.b4, b.b5, b.b6, b.b7][k]? = some (bat b k) := by
  rcases k8 h with rfl | rfl | rfl | rfl | rfl | rfl | rfl | rfl <;> rfl
theorem range_app (f : Nat → Int) (j : Nat) : (List.range j).map f ++ [f j] = (List.range (j + 1)).map f := by
  rw [List.range_succ, List.map_append]; rfl
theorem read52 (l : List Block) (i : Nat) (hi : i < 8 * l.length) (h : i < 1099511627776) (K : Int → Option (List Int × Bool × Unit)) :
    (rdL l (w64 (Int.tdiv (i : Int) 8)) fun d2 => rdL [d2.b0, d2.b1, d2.b2, d2.b3, d2.b4, d2.b5, d2.b6, d2.b7] (Int.tmod (i : Int) 8) K) = K (atB l i) := by
  have e1 : w64 (Int.tdiv (i : Int) 8) = ((i / 8 : Nat) : Int) := by
    rw [show Int.tdiv (i : Int) 8 = ((i / 8 : Nat) : Int) from rfl, w64_id (by omega) (by omega)]
  have e2 : Int.tmod (i : Int) 8 = ((i % 8 : Nat) : Int) := rfl
  have hx : l[i / 8]? = some (l.getD (i / 8) zb) := by rw [List.getD_eq_getElem?_getD, List.getElem?_eq_getElem (by omega)]; rfl
  rw [e1, rdL_at hx, e2, rdL_at (bat_at _ (by omega))]
  rfl
theorem F52_eq (l : List Block) (hl : l.length ≤ 1048576) (n : Int) (h1 : -9223372036854775808 ≤ n) (h2 : n < 9223372036854775808) :
    F52 (F15 F54) (l, n, ()) = some (if 0 ≤ n ∧ n ≤ 8 * (l.length : Int) ∧ isTr ((List.range n.toNat).map (atB l)) = true then ((List.range n.toNat).map (atB l), true, ()) else ([], false, ())) := by
  have e8 : w64 (8 * Int.ofNat l.length) = 8 * (l.length : Int) := w64_id (by simp; omega) (by simp; omega)
  unfold F52
  by_cases hn : 0 ≤ n
  · by_cases hm : n ≤ 8 * (l.length : Int)
    · obtain ⟨t, ⟨_, rfl⟩, e⟩ := iterF_all (f := s52_0 (F15 F54)) (K := fun t4 => cond (!(decide (t4.2.1 < 0))) (cond (!(!(decide ((Int.ofNat (List.length t4.2.2.1)) = t4.2.1)))) ((F15 F54 (t4.2.2.1, ())).bind fun x5 => cond (!x5.1) (some (([] : List Int), false, ())) (some (t4.2.2.1, true, ()))) (some (([] : List Int), false, ()))) (some (([] : List Int), false, ()))) (t := (l, n, ([] : List Int), 0, ())) n.toNat
        (fun j t => True ∧ t = (l, n, (List.range j).map (atB l), (j : Int), ())) (by omega) ⟨trivial, rfl⟩
        (by
          rintro j _ hj ⟨_, rfl⟩
          refine ⟨_, ⟨trivial, rfl⟩, fun rec K => ?_⟩
          simp only [s52_0, e8]
          rw [cond_true_dec (by omega), cond_true_dec hm, read52 l j (by omega) (by omega), capK_le (by simp; omega), range_app, w64_id (by omega) (by omega)]
          rfl)
        (by
          rintro _ ⟨_, rfl⟩ rec K
          simp only [s52_0]
          rw [cond_false_dec (by omega)])
      refine e.trans ?_
      simp only []
      rw [decide_eq_false (by omega : ¬ n < 0), F15_is _ (by simp; omega), Option.bind_some, decide_eq_true (by simp; omega : Int.ofNat ((List.range n.toNat).map (atB l)).length = n)]
      simp only [Bool.not_false, Bool.not_true, cond_true, hn, hm, true_and]
      cases isTr ((List.range n.toNat).map (atB l)) <;> rfl
    · rw [show fuel = (fuel - 1) + 1 by rw [fuel_eq], iterF_succ]
      simp only [s52_0, e8]
      rw [cond_true_dec (by omega), cond_false_dec hm, decide_eq_false (by omega : ¬ n < 0), decide_eq_false (by simp; omega : ¬ Int.ofNat ([] : List Int).length = n), if_neg (by omega)]
      rfl
  · rw [show fuel = (fuel - 1) + 1 by rw [fuel_eq], iterF_succ]
    simp only [s52_0, e8]
    rw [cond_false_dec (by omega), decide_eq_true (by omega : n < 0), if_neg (by omega)]
    rfl
theorem F32_eq (l : List Block) (hl : l.length ≤ 1048576) (n : Int) (h1 : -9223372036854775808 ≤ n) (h2 : n < 9223372036854775808) :
    F32 (F17 F55) (l, n, ()) = some (if 0 ≤ n ∧ n ≤ 8 * (l.length : Int) ∧ isTr ((List.range n.toNat).map (atB l)) = true then ((List.range n.toNat).map (atB l), true, ()) else ([], false, ())) := by
  have e8 : w64 (8 * Int.ofNat l.length) = 8 * (l.length : Int) := w64_id (by simp; omega) (by simp; omega)
  unfold F32
  simp only [e8]
  by_cases hn : 0 ≤ n
  · by_cases hm : n ≤ 8 * (l.length : Int)
    · rw [decide_eq_false (by omega : ¬ n < 0), decide_eq_false (by omega : ¬ n > 8 * (l.length : Int))]
      simp only [Bool.not_false, cond_true, hn, hm, true_and]
      by_cases h64 : n > 64
      · rw [cond_true_dec h64, if_neg]
        unfold isTr
        simp; omega
      · rw [cond_false_dec h64]
        obtain ⟨t, ⟨_, rfl⟩, e⟩ := iterF_all (f := s32_0 (F17 F55)) (K := fun t4 => (F17 F55 (t4.2.1, ())).bind fun x5 => cond (!x5.1) (some (([] : List Int), false, ())) (some (t4.2.1, true, ()))) (t := (l, ([] : List Int), n, 0, ())) n.toNat
          (fun j t => True ∧ t = (l, (List.range j).map (atB l), n, (j : Int), ())) (by omega) ⟨trivial, rfl⟩
          (by
            rintro j _ hj ⟨_, rfl⟩
            refine ⟨_, ⟨trivial, rfl⟩, fun rec K => ?_⟩
            simp only [s32_0]
            rw [cond_true_dec (by omega), read52 l j (by omega) (by omega), capK_le (by simp; omega), range_app, w64_id (by omega) (by omega)]
            rfl)
          (by
            rintro _ ⟨_, rfl⟩ rec K
            simp only [s32_0]
            rw [cond_false_dec (by omega)])
        refine e.trans ?_
        simp only []
        rw [F17_is _ (by simp; omega), Option.bind_some]
        cases isTr ((List.range n.toNat).map (atB l)) <;> rfl
    · rw [decide_eq_false (by omega : ¬ n < 0), decide_eq_true (by omega : n > 8 * (l.length : Int)), if_neg (by omega)]
      rfl
  · rw [decide_eq_true (by omega : n < 0), if_neg (by omega)]
    rfl
theorem F14_eq (l : List Block) (n : Int) (hw : (∀ d ∈ l, Wf .block d) ∧ l.length ≤ maxLen) (hn : -9223372036854775808 ≤ n ∧ n < 9223372036854775808) : F14 F51 (F53 F67) (F52 (F15 F54)) (F32 (F17 F55)) F18 (F44 F65) F45 F25 F26 (l, n, ()) = some (true, ()) := by
  unfold F14
  by_cases hl : l.length ≤ 1048576
  · obtain ⟨m, b, e, hm⟩ : ∃ m b, (if 0 ≤ n ∧ n ≤ 8 * (l.length : Int) ∧ isTr ((List.range n.toNat).map (atB l)) = true then ((List.range n.toNat).map (atB l), true, ()) else ([], false, ())) = (m, b, ()) ∧ m.length ≤ 64 := by
      split
      · rename_i h
        refine ⟨_, _, rfl, ?_⟩
        have := h.2.2
        simp only [isTr, Bool.and_eq_true, decide_eq_true_eq] at this
        exact this.2
      · exact ⟨_, _, rfl, by simp⟩
    have c0 : ¬ (1048576 - (l.length : Int) < 0) := by omega
    have c1 : ¬ (1 + (m.length : Int) < 0) := by omega
    have c2 : ¬ (1 + 8 * (l.length : Int) < 0) := by omega
    simp only [F51_eq l hl, F53_eq l hl, Option.bind_some, F52_eq l hl n hn.1 hn.2, F32_eq l hl n hn.1 hn.2, e, F18_eq m (by omega), F44_eq l hl, F45_eq l hl, F25_eq m (by omega), F26_eq m.length (by omega), c0, c1, c2, decide_true, decide_false, Bool.not_true, Bool.not_false, cond_true, cond_false]
  · obtain ⟨x, hx, h0⟩ := F51_big l hl (Nat.le_trans hw.2 (by decide))
    rw [hx, Option.bind_some, cond_true_dec h0]
theorem ok14' : OK Proofs.Try.prog 14 (mkE p14 r14 false (F14 F51 (F53 F67) (F52 (F15 F54)) (F32 (F17 F55)) F18 (F44 F65) F45 F25 F26)) := ok14 ok51 (ok53 ok67) (ok52 (ok15 ok54)) (ok32 (ok17 ok55)) ok18 (ok44 ok65) ok45 ok25 ok26
end Ev
namespace Go.Proofs.Ytmnahocockdpcaa.fnExactTrackFrom
open Go.ChangeShapes Go.WideShapes Go.ChangeAt Go.RowKit
open Go.ChangeMaps (open_string shut_string)
theorem own : ownKnob Try.prog.godebug = none := by kernel_rfl
theorem laidOut : laidOutB Try.prog = true := by kernel_rfl
theorem lifted (os : Os) (started : os.Started) (H : Type) (enc : TypeId × Value → H) :
    ReturnsInHanded {} Try.checked os 14 .any (Rows.fnExactTrackFromSpec.pre6 enc Try.prog Try.f14 Rows.fnExactTrackFromRow.domain false) (Rows.fnExactTrackFromSpec.post enc Try.prog Try.f14 false true false false) := by
  refine returnsInHanded_of_change_sized (C := Try.checked) own started (by kernel_rfl) Try.func14
    (ChangeSpec.witness6 (enc := enc) (C := Try.checked) false ⟨#[], #[.slice none 0 0, .int .i64 0], []⟩ 8 (by kernel_rfl) (by kernel_rfl) (by kernel_rfl) (by kernel_rfl)) ?_
  intro W base args ds gs before hval0 hW hcnd hsz0 _
  have hval : ∀ (j : Nat) t v, Try.f14.params[j]? = some t → args[j]? = some v → Value.okWide Try.prog W .any base t v := hval0
  have hW' := hW
  obtain ⟨p, q, hA0, hV, rfl, hfz, hnd⟩ := hW
  have hA : DataW.TrodAll enc Try.prog W 0 (fun _ => true) true Try.f14.params.toList args.toList ds p := hA0
  rw [Try.params14] at hA hval
  obtain ⟨v0, vs0, d0, ds0, p0, q0, hargs, rfl, rfl, h0, r0⟩ := trodAll_cons hA
  obtain ⟨v1, vs1, d1, ds1, p1, q1, rfl, rfl, rfl, h1, r1⟩ := trodAll_cons r0
  obtain ⟨rfl, rfl, rfl⟩ := trodAll_nil r1
  obtain rfl : args = #[v0, v1] := by cases args; simp_all
  obtain ⟨rfl, rfl⟩ := trodVars_none hV
  obtain ⟨a0, len0, cap0, rfl⟩ := okWide_slice Try.underlying52 (hval 0 52 v0 rfl rfl)
  have k0 := h0
  have lt0 : ∀ x ∈ p0, x.block < W.heap.size := by obtain ⟨m, hm⟩ := k0; exact DataW.trod_lt m _ _ _ hm
  obtain ⟨zs0, hrel0, wf0, ml0⟩ : ∃ l : List (Ev.Ty.den .block), Ev.RelA (fun _ => none) (fun b => b < W.heap.size) W (.lst .block l) (.slice a0 len0 cap0) ∧ (∀ d ∈ l, Ev.Wf .block d) ∧ l.length ≤ maxLen := by
    obtain ⟨fuel, hf⟩ := h0
    exact Ev.open_rows (l := [(65, .run), (69, .run), (61, .block), (62, .block)]) (by kernel_rfl) (by kernel_rfl) hf
  obtain ⟨n1, rfl, rfl, rfl, w1⟩ := open_int Try.underlying3 (hval 1 3 v1 rfl rfl) h1
  clear hA0 hval0 hsz0
  refine (Ev.calls_true (av := [.lst .block zs0, .int .i64 n1]) (out := []) Ev.ok14' (by
    exact Ev.sem_of (ps := Ev.p14) (rs := Ev.r14) (a := (zs0, n1, ())) rfl (Ev.F14_eq zs0 n1 (And.intro wf0 ml0) (Ev.wf_i64 w1))) (w := W) (ca := #[.slice a0 len0 cap0, .int .i64 n1]) rfl (Ev.args_arr (Ev.argsS (hrel0) (Ev.argsS (rfl) Ev.args0)))).mono fun e W' ⟨he, bel⟩ => ?_
  subst he
  exact ⟨_, rfl, _, _, _, [], _, [], hW', trodAll_mk1 (shut_bool Try.underlying4 _), (trodAll_cons_mk (Below.trod laidOut (by kernel_rfl) (of_decide_eq_true (by kernel_rfl)) k0 bel lt0) (trodAll_cons_mk (shut_int Try.underlying3 w1) trodAll_mk0)), rfl, bel.frame _, fun h => by cases h⟩
theorem over : Rows.fnExactTrackFromRow.holds Try.pinned (OpenSpec.ofChange Rows.fnExactTrackFromSpec) :=
  OpenClaim.holds_of_wide 14 Try.f14 rfl rfl rfl rfl rfl rfl rfl ⟨rfl, rfl, rfl, rfl, rfl⟩ rfl rfl rfl rfl rfl (by kernel_rfl) Try.func14 (by kernel_rfl)
    (of_decide_eq_true (by kernel_rfl)) (by unfold Func.isWrapper; first | (rw [if_pos (by decide +kernel)]; kernel_rfl) | (rw [if_neg (by decide +kernel)]; exact ⟨rfl, rfl⟩))
    (fun os started H enc _ => lifted os started H enc)
theorem proved : Rows.FnExactTrackFromSaid := over
#print axioms proved
end Go.Proofs.Ytmnahocockdpcaa.fnExactTrackFrom
