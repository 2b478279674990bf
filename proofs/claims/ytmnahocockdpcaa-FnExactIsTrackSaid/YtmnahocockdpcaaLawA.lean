/- The program's IsTrack returns what the reference's returns, for all arguments: on no condition. -/
import Derived.Test.YtmnahocockdpcaaRows
import Derived.Test.YtmnahocockdpcaaFA
import Derived.Test.YtmnahocockdpcaaPure
import Derived.Test.YtmnahocockdpcaaRow
import Derived.WalkKit
import Derived.ProofKit
import Derived.OpenShut
import Derived.ShutString
import Derived.ChangeOld
import Derived.Below
import Derived.SizedLaws
set_option linter.unusedVariables false
set_option maxRecDepth 100000
namespace Ev
open Go
/-! ### Plain facts -/
theorem F16_eq (l : List Int) (hl : l.length ≤ 1048576) : F16 (l, ()) = some (l, ()) := by
  unfold F16
  rw [okIf_pos (by simp), capK_le (by simp; omega)]
  obtain ⟨t, ⟨m, rfl, h1, h2⟩, e⟩ := iterF_all (f := s16_0) (K := fun t4 => some (t4.2.1, ())) (t := (l, List.replicate (Int.toNat (Int.ofNat l.length)) (Ty.zero .int), 0, ())) l.length
    (fun i t => ∃ m : List Int, t = (l, m, (i : Int), ()) ∧ m.length = l.length ∧ ∀ j, j < i → m[j]? = l[j]?) (by omega) ⟨_, rfl, by simp, fun j hj => by omega⟩
    (by
      rintro i _ hi ⟨m, rfl, h1, h2⟩
      have hx : l[i]? = some l[i] := by simp
      have hd : m[i]? = some m[i] := by simp
      refine ⟨_, ⟨m.set i l[i], rfl, by simp [h1], fun j hj => ?_⟩, fun rec K => ?_⟩
      · rw [List.getElem?_set]
        by_cases hji : i = j
        · subst hji; simp [h1, hi]
        · simp only [if_neg hji]; exact h2 j (by omega)
      · simp only [s16_0]
        rw [cond_dec, if_pos (by simp; omega), rdL_at hx, rdL_at hd]
        simp only [Int.toNat_natCast]
        rw [hd, w64_id (by omega) (by omega)]
        rfl)
    (by
      rintro _ ⟨m, rfl, h1, h2⟩ rec K
      simp only [s16_0]
      rw [cond_dec, if_neg (by simp)])
  have : m = l := List.ext_getElem? fun j => by
    by_cases hj : j < l.length
    · exact h2 j hj
    · rw [List.getElem?_eq_none (by omega), List.getElem?_eq_none (by omega)]
  subst this
  exact e
theorem F18_eq (l : List Int) (hl : l.length ≤ 1048576) : F18 (l, l, ()) = some (true, ()) := by
  unfold F18
  simp only [decide_true, Bool.not_true, cond_false]
  obtain ⟨t, ⟨_, rfl⟩, e⟩ := iterF_all (f := s18_0) (K := fun _ => some (true, ())) (t := (l, l, 0, ())) l.length
    (fun i t => True ∧ t = (l, l, (i : Int), ())) (by omega) ⟨trivial, rfl⟩
    (by
      rintro i _ hi ⟨_, rfl⟩
      have hx : l[i]? = some l[i] := by simp
      refine ⟨_, ⟨trivial, rfl⟩, fun rec K => ?_⟩
      simp only [s18_0]
      rw [cond_dec, if_pos (by simp; omega), rdL_at hx, rdL_at hx, w64_id (by omega) (by omega)]
      simp)
    (by
      rintro _ ⟨_, rfl⟩ rec K
      simp only [s18_0]
      rw [cond_dec, if_neg (by simp)])
  exact e
theorem F54_eq (a : Int) : F54 (a, 0, 32, ()) = some (decide (0 ≤ a) && decide (a ≤ 32), ()) := by
  unfold F54
  by_cases h : 0 ≤ a <;> simp [h]
theorem F55_eq (a : Int) : F55 (a, 0, 32, ()) = some (decide (0 ≤ a) && decide (a ≤ 32), ()) := by
  unfold F55
  by_cases h : 0 ≤ a <;> simp [h]
theorem F15_some (l : List Int) (hl : l.length ≤ 1048576) : ∃ b, F15 F54 (l, ()) = some (b, ()) := by
  unfold F15
  rcases iterF_rule (f := s15_0 F54) (K := fun t4 => some (decide (Int.ofNat (List.length t4.1) ≤ 64), ())) (t := (l, l, Int.ofNat l.length, 0, ())) l.length
    (fun i t => t = (l, l, Int.ofNat l.length, (i : Int), ())) (fun r => ∃ b, r = some (b, ())) (fun _ => True) (by omega) rfl
    (by
      rintro i _ hi rfl
      have hx : l[i]? = some l[i] := by simp
      have e : ∀ rec K, s15_0 F54 (l, l, Int.ofNat l.length, (i : Int), ()) rec K = cond (!(decide (0 ≤ l[i]) && decide (l[i] ≤ 32))) (some (false, ())) (rec (l, l, Int.ofNat l.length, ((i + 1 : Nat) : Int), ())) := by
        intro rec K
        simp only [s15_0]
        rw [cond_dec, if_pos (by simp; omega), rdL_at hx, F54_eq, w64_id (by omega) (by omega)]
        rfl
      cases hb : (decide (0 ≤ l[i]) && decide (l[i] ≤ 32))
      · exact .inr (.inl ⟨_, ⟨false, rfl⟩, fun rec K => by rw [e, hb]; rfl⟩)
      · exact .inl ⟨_, rfl, fun rec K => by rw [e, hb]; rfl⟩)
    (by
      rintro _ rfl
      refine .inr ⟨(l, l, Int.ofNat l.length, (l.length : Int), ()), trivial, fun rec K => ?_⟩
      simp only [s15_0]
      rw [cond_dec, if_neg (by simp)]) with ⟨r, ⟨b, rfl⟩, h⟩ | ⟨t, _, h⟩
  · exact ⟨b, h⟩
  · exact ⟨_, h⟩
theorem F17_F15 : F17 F55 = F15 F54 := by
  have e : s17_0 F55 = s15_0 F54 := by
    funext t rec K
    simp only [s17_0, s15_0, F54_eq, F55_eq]
  funext a
  unfold F17 F15
  rw [e]
theorem F3_eq (l : List Int) : F3 F16 (F15 F54) (F17 F55) F18 (l, ()) = some (true, ()) := by
  unfold F3
  by_cases hl : l.length ≤ 1048576
  · rw [cond_dec, if_neg (by simp; omega), F17_F15]
    obtain ⟨b, hb⟩ := F15_some l hl
    simp only [F16_eq l hl, Option.bind_some, hb, F18_eq l hl]
    simp
  · rw [cond_dec, if_pos (by simp; omega)]
theorem ok3' : OK Proofs.Try.prog 3 (mkE p3 r3 false (F3 F16 (F15 F54) (F17 F55) F18)) := ok3 ok16 (ok15 ok54) (ok17 ok55) ok18
end Ev
namespace Go.Proofs.Ytmnahocockdpcaa.fnExactIsTrack
open Go.ChangeShapes Go.WideShapes Go.ChangeAt Go.RowKit
open Go.ChangeMaps (open_string shut_string)
theorem own : ownKnob Try.prog.godebug = none := by kernel_rfl
theorem laidOut : laidOutB Try.prog = true := by kernel_rfl
theorem lifted (os : Os) (started : os.Started) (H : Type) (enc : TypeId × Value → H) :
    ReturnsInHanded {} Try.checked os 3 .any (Rows.fnExactIsTrackSpec.pre6 enc Try.prog Try.f3 Rows.fnExactIsTrackRow.domain false) (Rows.fnExactIsTrackSpec.post enc Try.prog Try.f3 false true false false) := by
  refine returnsInHanded_of_change_sized (C := Try.checked) own started (by kernel_rfl) Try.func3
    (ChangeSpec.witness6 (enc := enc) (C := Try.checked) false ⟨#[], #[.slice none 0 0], []⟩ 8 (by kernel_rfl) (by kernel_rfl) (by kernel_rfl) (by kernel_rfl)) ?_
  intro W base args ds gs before hval0 hW hcnd hsz0 _
  have hval : ∀ (j : Nat) t v, Try.f3.params[j]? = some t → args[j]? = some v → Value.okWide Try.prog W .any base t v := hval0
  have hW' := hW
  obtain ⟨p, q, hA0, hV, rfl, hfz, hnd⟩ := hW
  have hA : DataW.TrodAll enc Try.prog W 0 (fun _ => true) true Try.f3.params.toList args.toList ds p := hA0
  rw [Try.params3] at hA hval
  obtain ⟨v0, vs0, d0, ds0, p0, q0, hargs, rfl, rfl, h0, r0⟩ := trodAll_cons hA
  obtain ⟨rfl, rfl, rfl⟩ := trodAll_nil r0
  obtain rfl : args = #[v0] := by cases args; simp_all
  obtain ⟨rfl, rfl⟩ := trodVars_none hV
  obtain ⟨a0, len0, cap0, rfl⟩ := okWide_slice Try.underlying22 (hval 0 22 v0 rfl rfl)
  have k0 := h0
  have lt0 : ∀ x ∈ p0, x.block < W.heap.size := by obtain ⟨m, hm⟩ := k0; exact DataW.trod_lt m _ _ _ hm
  obtain ⟨zs, hrel⟩ : ∃ l : List Int, Ev.RelA (fun _ => none) (fun b => b < W.heap.size) W (.lst .int l) (.slice a0 len0 cap0) := by
    obtain ⟨fuel, hf⟩ := h0
    rcases open_ints Try.underlying22 Try.underlying3 (by kernel_rfl) hf with ⟨hcs, _⟩ | ⟨x, l, c, zs, hcs, _, hl, hm, hz, hp, hcell, hwz⟩
    · simp [Value.cells] at hcs
      obtain ⟨rfl, rfl, rfl⟩ := hcs
      exact ⟨[], none, 0, rfl, Nat.le_refl _, .inl rfl⟩
    · simp [Value.cells] at hcs
      obtain ⟨rfl, rfl, rfl⟩ := hcs
      refine ⟨zs.take len0, Ev.rel_ints hl (by simp at hz; omega) (fun h => by cases h) (fun y hy => by cases hy; exact hcell)⟩
  clear hA0 hval0 hsz0
  refine (Ev.calls_true (av := [.lst .int zs]) (out := []) Ev.ok3' (by
    show (Ev.F3 _ _ _ _ (zs, ())).bind _ = _
    rw [Ev.F3_eq]; rfl) (w := W) (ca := #[.slice a0 len0 cap0]) rfl (Ev.args1 hrel)).mono fun e W' ⟨he, bel⟩ => ?_
  subst he
  exact ⟨_, rfl, _, _, _, [], _, [], hW', trodAll_mk1 (shut_bool Try.underlying4 _), (trodAll_cons_mk (Below.trod laidOut (by kernel_rfl) (of_decide_eq_true (by kernel_rfl)) k0 bel lt0) trodAll_mk0), rfl, bel.frame _, fun h => by cases h⟩
theorem over : Rows.fnExactIsTrackRow.holds Try.pinned (OpenSpec.ofChange Rows.fnExactIsTrackSpec) :=
  OpenClaim.holds_of_wide 3 Try.f3 rfl rfl rfl rfl rfl rfl rfl ⟨rfl, rfl, rfl, rfl, rfl⟩ rfl rfl rfl rfl rfl (by kernel_rfl) Try.func3 (by kernel_rfl)
    (of_decide_eq_true (by kernel_rfl)) (by unfold Func.isWrapper; first | (rw [if_pos (by decide +kernel)]; kernel_rfl) | (rw [if_neg (by decide +kernel)]; exact ⟨rfl, rfl⟩))
    (fun os started H enc _ => lifted os started H enc)
theorem proved : Rows.FnExactIsTrackSaid := over
#print axioms proved
end Go.Proofs.Ytmnahocockdpcaa.fnExactIsTrack
