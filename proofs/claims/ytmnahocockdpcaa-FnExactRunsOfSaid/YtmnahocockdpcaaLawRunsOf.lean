/- The program's RunsOf returns what the reference's returns, for all arguments: on no condition. -/
import Derived.Test.YtmnahocockdpcaaRows
import Derived.Test.YtmnahocockdpcaaFact
import Derived.Test.YtmnahocockdpcaaRow
import Derived.WalkKit
import Derived.ProofKit
import Derived.OpenShut
import Derived.ShutString
import Derived.ChangeOld
import Derived.Below
import Derived.SizedLaws
set_option linter.unusedVariables false
set_option maxRecDepth 100000

namespace Ev
open Go
theorem last_ix {α : Type} (r : List α) (d : α) (h : r.length ≤ 1048576) : w64 (Int.ofNat (r ++ [d]).length - 1) = (r.length : Int) := by
  rw [w64_id (by simp <;> omega) (by simp <;> omega)]; simp
theorem last_at {α : Type} (r : List α) (d : α) : (r ++ [d])[r.length]? = some d := by simp
theorem last_set {α : Type} (r : List α) (d v : α) : List.set (r ++ [d]) r.length v = r ++ [v] := by simp
theorem F38_F39 (l : List Int) (hl : l.length ≤ 1048576) : ∃ m, F38 (F15 F54) (l, ()) = some (m, ()) ∧ F39 (F17 F55) (l, ()) = some (m, ()) ∧ m.length ≤ 1048576 := by
  obtain ⟨b, h1, h2, h3⟩ := F15_ok l hl
  cases b with
  | false =>
    refine ⟨[], ?_, ?_, by simp⟩
    · unfold F38
      rw [show fuel = (fuel - 1) + 1 by rw [fuel_eq], iterF_succ]
      simp only [s38_0, h1, Option.bind_some]
      cases l with
      | nil => rfl
      | cons x l => rw [cond_true_dec (by simp <;> omega), show (0 : Int) = ((0 : Nat) : Int) from rfl, rdL_at (x := x) rfl]; rfl
    · unfold F39; simp only [h2, Option.bind_some]; rfl
  | true =>
    have key : ∀ (d i n : Nat) (r : List Run), i + d = l.length → d < n → r.length ≤ i → (i = 0 → r = []) → (∀ j, i = j + 1 → ∃ r' e, r = r' ++ [e] ∧ l[j]? = some e.Level ∧ 0 ≤ e.Count ∧ e.Count ≤ (i : Int)) → ∃ m : List Run, m.length ≤ l.length ∧
        iterF (s38_0 (F15 F54)) n (l, r, l, Int.ofNat l.length, (i : Int), ()) (fun t11 => some (t11.2.1, ())) = some (m, ()) ∧
        iterF (s39_0 (F17 F55)) n (r, l, Int.ofNat l.length, (i : Int), ()) (fun t7 => some (t7.1, ())) = some (m, ()) := by
      intro d
      induction d with
      | zero =>
        intro i n r hd hn hr h0 hS
        obtain ⟨n, rfl⟩ : ∃ k, n = k + 1 := ⟨n - 1, by omega⟩
        refine ⟨r, by omega, ?_, ?_⟩
        · rw [iterF_succ]; simp only [s38_0]; rw [cond_false_dec (by simp <;> omega)]
        · rw [iterF_succ]; simp only [s39_0]; rw [cond_false_dec (by simp <;> omega)]
      | succ d ih =>
        intro i n r hd hn hr h0 hS
        obtain ⟨n, rfl⟩ : ∃ k, n = k + 1 := ⟨n - 1, by omega⟩
        have hi : i < l.length := by omega
        have hx : l[i]? = some l[i] := by simp
        -- a new run
        have fresh : ∀ m : List Run, m = r ++ [⟨l[i], 1⟩] → ∃ k : List Run, k.length ≤ l.length ∧
            iterF (s38_0 (F15 F54)) n (l, m, l, Int.ofNat l.length, ((i + 1 : Nat) : Int), ()) (fun t11 => some (t11.2.1, ())) = some (k, ()) ∧
            iterF (s39_0 (F17 F55)) n (m, l, Int.ofNat l.length, ((i + 1 : Nat) : Int), ()) (fun t7 => some (t7.1, ())) = some (k, ()) := fun m hm =>
          ih (i + 1) n m (by omega) (by omega) (by rw [hm]; simp; omega) (fun h => by omega) (fun j hj => by
            have : j = i := by omega
            subst this
            exact ⟨r, _, hm, hx, by simp, by simp; omega⟩)
        have app : ∀ rec : List Int × List Run × List Int × Int × Int × Unit → Option (List Run × Unit), (capK (List.length r + List.length ([(⟨l[i], 0⟩ : Run)] : List Run)) (rdL (r ++ ([(⟨l[i], 0⟩ : Run)] : List Run)) (w64 ((Int.ofNat (List.length (r ++ ([(⟨l[i], 0⟩ : Run)] : List Run)))) - 1)) fun _ => ((r ++ ([(⟨l[i], 0⟩ : Run)] : List Run))[(Int.toNat (w64 ((Int.ofNat (List.length (r ++ ([(⟨l[i], 0⟩ : Run)] : List Run)))) - 1)))]?).bind fun d5 => rdL (r ++ ([(⟨l[i], 0⟩ : Run)] : List Run)) (w64 ((Int.ofNat (List.length (r ++ ([(⟨l[i], 0⟩ : Run)] : List Run)))) - 1)) fun _ => ((r ++ ([(⟨l[i], 0⟩ : Run)] : List Run))[(Int.toNat (w64 ((Int.ofNat (List.length (r ++ ([(⟨l[i], 0⟩ : Run)] : List Run)))) - 1)))]?).bind fun d6 => rec (l, (List.set (r ++ ([(⟨l[i], 0⟩ : Run)] : List Run)) (Int.toNat (w64 ((Int.ofNat (List.length (r ++ ([(⟨l[i], 0⟩ : Run)] : List Run)))) - 1))) (⟨d6.Level, (w64 (d5.Count + 1))⟩ : Run)), l, Int.ofNat l.length, (w64 ((i : Int) + 1)), ()))) = rec (l, r ++ [⟨l[i], 1⟩], l, Int.ofNat l.length, ((i + 1 : Nat) : Int), ()) := by
          intro rec
          rw [capK_le (by simp <;> omega), last_ix r _ (by omega), rdL_at (last_at r _)]
          simp only [Int.toNat_natCast, last_at, Option.bind_some]
          rw [rdL_at (last_at r _), last_set, w64_id (by omega) (by omega), w64_id (by omega) (by omega)]
          rfl
        by_cases hz : i = 0
        · subst hz
          have hr0 := h0 rfl
          subst hr0
          obtain ⟨k, hk, e1, e2⟩ := fresh _ rfl
          refine ⟨k, hk, ?_, ?_⟩
          · rw [iterF_succ]
            simp only [s38_0]
            rw [cond_true_dec (by simp <;> omega), rdL_at hx, h1, Option.bind_some]
            simp only [Bool.not_true, cond_false, show (((0 : Nat) : Int) = 0) = True from by simp, decide_true]
            exact (app (fun t => iterF (s38_0 (F15 F54)) n t _)).trans e1
          · rw [iterF_succ]
            simp only [s39_0]
            rw [cond_true_dec (by simp <;> omega), rdL_at hx, cond_false_dec (by rw [w64_id (by simp) (by simp)]; simp), capK_le (by simp), w64_id (by omega) (by omega)]
            exact e2
        · obtain ⟨j, rfl⟩ : ∃ j, i = j + 1 := ⟨i - 1, by omega⟩
          obtain ⟨r', e, rfl, hlev, hc0, hc1⟩ := hS j rfl
          have e1 : w64 (((j + 1 : Nat) : Int) - 1) = (j : Int) := by rw [w64_id (by omega) (by omega)]; omega
          have hr' : r'.length ≤ 1048576 := by simp at hr; omega
          by_cases hsame : e.Level = l[j + 1]
          · obtain ⟨k, hk, f1, f2⟩ := ih (j + 1 + 1) n (r' ++ [⟨e.Level, e.Count + 1⟩]) (by omega) (by omega) (by simp at hr ⊢ <;> omega) (fun h => by omega) (fun j' hj' => by
              have : j' = j + 1 := by omega
              subst this
              exact ⟨r', _, rfl, by rw [hx, hsame], by simp; omega, by simp; omega⟩)
            refine ⟨k, hk, ?_, ?_⟩
            · rw [iterF_succ]
              simp only [s38_0]
              rw [cond_true_dec (by simp <;> omega), rdL_at hx, h1, Option.bind_some]
              have d1 : ¬ ((j + 1 : Nat) : Int) = 0 := by omega
              simp only [Bool.not_true, Bool.not_false, cond_false, cond_true, d1, decide_false]
              rw [e1, rdL_at hlev]
              simp only [hsame, decide_true, Bool.not_true, cond_false]
              rw [last_ix r' _ hr', rdL_at (last_at r' _)]
              simp only [Int.toNat_natCast, last_at, Option.bind_some]
              rw [rdL_at (last_at r' _), last_set, w64_id (by omega) (by omega), w64_id (by omega) (by omega)]
              rw [hsame] at f1
              simpa [hsame] using f1
            · rw [iterF_succ]
              simp only [s39_0]
              rw [cond_true_dec (by simp <;> omega), rdL_at hx, last_ix r' _ hr', cond_true_dec (by omega), rdL_at (last_at r' _)]
              simp only [Int.toNat_natCast, last_at, Option.bind_some, hsame, decide_true, cond_true]
              rw [rdL_at (last_at r' _), rdL_at (last_at r' _), last_set, w64_id (by omega) (by omega), w64_id (by omega) (by omega)]
              simpa [hsame] using f2
          · obtain ⟨k, hk, f1, f2⟩ := fresh _ rfl
            refine ⟨k, hk, ?_, ?_⟩
            · rw [iterF_succ]
              simp only [s38_0]
              rw [cond_true_dec (by simp <;> omega), rdL_at hx, h1, Option.bind_some]
              have d1 : ¬ ((j + 1 : Nat) : Int) = 0 := by omega
              simp only [Bool.not_true, Bool.not_false, cond_false, cond_true, d1, decide_false]
              rw [e1, rdL_at hlev]
              simp only [hsame, decide_false, Bool.not_false, cond_true]
              exact (app (fun t => iterF (s38_0 (F15 F54)) n t _)).trans f1
            · rw [iterF_succ]
              simp only [s39_0]
              rw [cond_true_dec (by simp <;> omega), rdL_at hx, last_ix r' _ hr', cond_true_dec (by omega), rdL_at (last_at r' _)]
              simp only [Int.toNat_natCast, last_at, Option.bind_some, hsame, decide_false, cond_false]
              rw [capK_le (by simp <;> omega), w64_id (by omega) (by omega)]
              exact f2
    obtain ⟨m, hm, e1, e2⟩ := key l.length 0 fuel [] (by omega) (by rw [fuel_eq]; omega) (by simp) (fun _ => rfl) (fun j hj => by omega)
    refine ⟨m, ?_, ?_, by omega⟩
    · unfold F38; exact e1
    · unfold F39
      simp only [h2, Option.bind_some, Bool.not_true, cond_false]
      exact e2
theorem F64_eq (a : Run) : F64 (a, a, ()) = some (true, ()) := by
  unfold F64; simp
theorem F40_eq (l : List Run) (hl : l.length ≤ 1048576) : F40 F64 (l, l, ()) = some (true, ()) := by
  unfold F40
  simp only [decide_true, Bool.not_true, cond_false]
  obtain ⟨t, ⟨_, rfl⟩, e⟩ := iterF_all (f := s40_0 F64) (K := fun _ => some (true, ())) (t := (l, l, 0, ())) l.length
    (fun i t => True ∧ t = (l, l, (i : Int), ())) (by omega) ⟨trivial, rfl⟩
    (by
      rintro i _ hi ⟨_, rfl⟩
      have hx : l[i]? = some l[i] := by simp
      refine ⟨_, ⟨trivial, rfl⟩, fun rec K => ?_⟩
      simp only [s40_0]
      rw [cond_true_dec (by simp <;> omega), rdL_at hx, rdL_at hx, F64_eq, w64_id (by omega) (by omega)]
      rfl)
    (by
      rintro _ ⟨_, rfl⟩ rec K
      simp only [s40_0]
      rw [cond_false_dec (by simp)])
  exact e
def marksR : Nat → Int → List Run
  | 0, _ => []
  | n + 1, k => ⟨k, k + 1⟩ :: marksR n (k + 2)
theorem marksR_len : ∀ (n : Nat) (k : Int), (marksR n k).length = n
  | 0, _ => rfl
  | n + 1, k => by simp [marksR, marksR_len n]
theorem marksR_at : ∀ (n : Nat) (k : Int) (i : Nat), i < n → (marksR n k)[i]? = some ⟨k + 2 * i, k + 2 * i + 1⟩
  | 0, _, _, h => by omega
  | n + 1, k, 0, _ => by simp [marksR]
  | n + 1, k, i + 1, h => by
    simp only [marksR, List.getElem?_cons_succ]
    rw [marksR_at n (k + 2) i (by omega)]
    rw [show k + 2 + 2 * (i : Int) = k + 2 * ((i + 1 : Nat) : Int) by omega]
theorem F41_eq (l : List Run) (hl : l.length ≤ 1048576) : F41 (l, 1, ()) = some (marksR l.length 1, 1 + 2 * (l.length : Int), ()) := by
  unfold F41
  obtain ⟨t, ⟨m, rfl, h1, h2⟩, e⟩ := iterF_all (f := s41_0) (K := fun t3 => some (t3.1, t3.2.1, ())) (t := (l, 1, 0, ())) l.length
    (fun i t => ∃ m : List Run, t = (m, 1 + 2 * (i : Int), (i : Int), ()) ∧ m.length = l.length ∧ ∀ j : Nat, j < i → m[j]? = some ⟨1 + 2 * (j : Int), 1 + 2 * (j : Int) + 1⟩) (by omega) ⟨l, rfl, rfl, fun j hj => by omega⟩
    (by
      rintro i _ hi ⟨m, rfl, h1, h2⟩
      have hd : m[i]? = some m[i] := by simp
      have hd2 : (m.set i ⟨1 + 2 * (i : Int), m[i].Count⟩)[i]? = some ⟨1 + 2 * (i : Int), m[i].Count⟩ := by
        rw [List.getElem?_set]; simp [show i < m.length by omega]
      refine ⟨_, ⟨(m.set i ⟨1 + 2 * (i : Int), m[i].Count⟩).set i ⟨1 + 2 * (i : Int), 1 + 2 * (i : Int) + 1⟩, rfl, by simp [h1], fun j hj => ?_⟩, fun rec K => ?_⟩
      · rw [List.getElem?_set]
        by_cases hji : i = j
        · subst hji; simp [h1, hi]
        · simp only [if_neg hji]; rw [List.getElem?_set, if_neg hji]; exact h2 j (by omega)
      · simp only [s41_0]
        rw [cond_true_dec (by simp <;> omega), rdL_at hd]
        simp only [Int.toNat_natCast]
        rw [hd]
        simp only [Option.bind_some]
        rw [rdL_at hd2, hd2]
        simp only [Option.bind_some]
        rw [w64_id (n := 1 + 2 * (i : Int) + 1) (by omega) (by omega), w64_id (by omega) (by omega), w64_id (by omega) (by omega)]
        rw [show (1 : Int) + 2 * (i : Int) + 1 + 1 = 1 + 2 * ((i + 1 : Nat) : Int) by omega]
        rfl)
    (by
      rintro _ ⟨m, rfl, h1, h2⟩ rec K
      simp only [s41_0]
      rw [cond_false_dec (by simp <;> omega)])
  have : m = marksR l.length 1 := List.ext_getElem? fun j => by
    by_cases hj : j < l.length
    · rw [h2 j hj, marksR_at _ _ _ hj]
    · rw [List.getElem?_eq_none (by omega), List.getElem?_eq_none (by rw [marksR_len]; omega)]
  subst this
  exact e
theorem F42_eq (n : Nat) (hn : n ≤ 1048576) : F42 (marksR n 1, 1, ()) = some (1 + 2 * (n : Int), ()) := by
  unfold F42
  obtain ⟨t, ⟨_, rfl⟩, e⟩ := iterF_all (f := s42_0) (K := fun t3 => some (t3.2.1, ())) (t := (marksR n 1, 1, 0, ())) n
    (fun i t => True ∧ t = (marksR n 1, 1 + 2 * (i : Int), (i : Int), ())) (by omega) ⟨trivial, rfl⟩
    (by
      rintro i _ hi ⟨_, rfl⟩
      refine ⟨_, ⟨trivial, rfl⟩, fun rec K => ?_⟩
      simp only [s42_0]
      rw [cond_true_dec (by simp [marksR_len] <;> omega), rdL_at (marksR_at n 1 i hi)]
      simp only [decide_true, Bool.not_true, cond_false]
      rw [rdL_at (marksR_at n 1 i hi), w64_id (n := 1 + 2 * (i : Int) + 1) (by omega) (by omega), w64_id (by omega) (by omega), w64_id (by omega) (by omega)]
      simp only [decide_true, Bool.not_true, cond_false]
      rw [show (1 : Int) + 2 * (i : Int) + 1 + 1 = 1 + 2 * ((i + 1 : Nat) : Int) by omega]
      rfl)
    (by
      rintro _ ⟨_, rfl⟩ rec K
      simp only [s42_0]
      rw [cond_false_dec (by simp [marksR_len])])
  exact e
theorem F11_eq (l : List Int) : F11 F16 (F38 (F15 F54)) (F39 (F17 F55)) (F40 F64) F18 F25 F41 F42 (l, ()) = some (true, ()) := by
  unfold F11
  by_cases hl : l.length ≤ 1048576
  · rw [cond_false_dec (by simp <;> omega)]
    obtain ⟨m, h1, h2, hm⟩ := F38_F39 l hl
    have c1 : ¬ (1 + (l.length : Int) < 0) := by omega
    have c2 : ¬ (1 + 2 * (m.length : Int) < 0) := by omega
    simp only [F16_eq l hl, Option.bind_some, h1, h2, F18_eq l hl, F40_eq m hm, F25_eq l hl, F41_eq m hm, F42_eq m.length hm, c1, c2, decide_true, decide_false, Bool.not_true, Bool.not_false, cond_true, cond_false]
  · rw [cond_true_dec (by simp <;> omega)]
theorem ok11' : OK Proofs.Try.prog 11 (mkE p11 r11 false (F11 F16 (F38 (F15 F54)) (F39 (F17 F55)) (F40 F64) F18 F25 F41 F42)) := ok11 ok16 (ok38 (ok15 ok54)) (ok39 (ok17 ok55)) (ok40 ok64) ok18 ok25 ok41 ok42
end Ev
namespace Go.Proofs.Ytmnahocockdpcaa.fnExactRunsOf
open Go.ChangeShapes Go.WideShapes Go.ChangeAt Go.RowKit
open Go.ChangeMaps (open_string shut_string)
theorem own : ownKnob Try.prog.godebug = none := by kernel_rfl
theorem laidOut : laidOutB Try.prog = true := by kernel_rfl
theorem lifted (os : Os) (started : os.Started) (H : Type) (enc : TypeId × Value → H) :
    ReturnsInHanded {} Try.checked os 11 .any (Rows.fnExactRunsOfSpec.pre6 enc Try.prog Try.f11 Rows.fnExactRunsOfRow.domain false) (Rows.fnExactRunsOfSpec.post enc Try.prog Try.f11 false true false false) := by
  refine returnsInHanded_of_change_sized (C := Try.checked) own started (by kernel_rfl) Try.func11
    (ChangeSpec.witness6 (enc := enc) (C := Try.checked) false ⟨#[], #[.slice none 0 0], []⟩ 8 (by kernel_rfl) (by kernel_rfl) (by kernel_rfl) (by kernel_rfl)) ?_
  intro W base args ds gs before hval0 hW hcnd hsz0 _
  have hval : ∀ (j : Nat) t v, Try.f11.params[j]? = some t → args[j]? = some v → Value.okWide Try.prog W .any base t v := hval0
  have hW' := hW
  obtain ⟨p, q, hA0, hV, rfl, hfz, hnd⟩ := hW
  have hA : DataW.TrodAll enc Try.prog W 0 (fun _ => true) true Try.f11.params.toList args.toList ds p := hA0
  rw [Try.params11] at hA hval
  obtain ⟨v0, vs0, d0, ds0, p0, q0, hargs, rfl, rfl, h0, r0⟩ := trodAll_cons hA
  obtain ⟨rfl, rfl, rfl⟩ := trodAll_nil r0
  obtain rfl : args = #[v0] := by cases args; simp_all
  obtain ⟨rfl, rfl⟩ := trodVars_none hV
  obtain ⟨a0, len0, cap0, rfl⟩ := okWide_slice Try.underlying22 (hval 0 22 v0 rfl rfl)
  have k0 := h0
  have lt0 : ∀ x ∈ p0, x.block < W.heap.size := by obtain ⟨m, hm⟩ := k0; exact DataW.trod_lt m _ _ _ hm
  obtain ⟨zs0, hrel0⟩ : ∃ l : List Int, Ev.RelA (fun _ => none) (fun b => b < W.heap.size) W (.lst .int l) (.slice a0 len0 cap0) := by
    obtain ⟨fuel, hf⟩ := h0
    rcases open_ints Try.underlying22 Try.underlying3 (by kernel_rfl) hf with ⟨hcs, _⟩ | ⟨x, l, c, zs, hcs, _, hl, hm, hz, hp, hcell, hwz⟩
    · simp [Value.cells] at hcs
      obtain ⟨rfl, rfl, rfl⟩ := hcs
      exact ⟨[], none, 0, rfl, Nat.le_refl _, .inl rfl⟩
    · simp [Value.cells] at hcs
      obtain ⟨rfl, rfl, rfl⟩ := hcs
      exact ⟨zs.take len0, Ev.rel_ints hl (by simp at hz; omega) (fun h => by cases h) (fun y hy => by cases hy; exact hcell)⟩
  clear hA0 hval0 hsz0
  refine (Ev.calls_true (av := [.lst .int zs0]) (out := []) Ev.ok11' (by
    exact Ev.sem_of (ps := Ev.p11) (rs := Ev.r11) (a := (zs0, ())) rfl (Ev.F11_eq zs0)) (w := W) (ca := #[.slice a0 len0 cap0]) rfl (Ev.args_arr (Ev.argsS (hrel0) Ev.args0))).mono fun e W' ⟨he, bel⟩ => ?_
  subst he
  exact ⟨_, rfl, _, _, _, [], _, [], hW', trodAll_mk1 (shut_bool Try.underlying4 _), (trodAll_cons_mk (Below.trod laidOut (by kernel_rfl) (of_decide_eq_true (by kernel_rfl)) k0 bel lt0) trodAll_mk0), rfl, bel.frame _, fun h => by cases h⟩
theorem over : Rows.fnExactRunsOfRow.holds Try.pinned (OpenSpec.ofChange Rows.fnExactRunsOfSpec) :=
  OpenClaim.holds_of_wide 11 Try.f11 rfl rfl rfl rfl rfl rfl rfl ⟨rfl, rfl, rfl, rfl, rfl⟩ rfl rfl rfl rfl rfl (by kernel_rfl) Try.func11 (by kernel_rfl)
    (of_decide_eq_true (by kernel_rfl)) (by unfold Func.isWrapper; first | (rw [if_pos (by decide +kernel)]; kernel_rfl) | (rw [if_neg (by decide +kernel)]; exact ⟨rfl, rfl⟩))
    (fun os started H enc _ => lifted os started H enc)
theorem proved : Rows.FnExactRunsOfSaid := over
#print axioms proved
end Go.Proofs.Ytmnahocockdpcaa.fnExactRunsOf
