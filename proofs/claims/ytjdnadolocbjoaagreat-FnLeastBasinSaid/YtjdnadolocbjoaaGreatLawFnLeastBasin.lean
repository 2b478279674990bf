/- A drawn show is safe around its least basin, and around no box from which a side of it is cut: on no condition. -/
import Derived.Test.YtjdnadolocbjoaaGreatRows
import Derived.Test.YtjdnadolocbjoaaGreatBasin
import Derived.Test.YtjdnadolocbjoaaGreatPureA
import Derived.WalkKit
import Derived.ProofKit
import Derived.OpenShut
import Derived.ShutString
import Derived.ChangeOld
import Derived.Below
import Derived.SizedLaws
set_option linter.unusedVariables false
set_option linter.unusedSimpArgs false
set_option maxRecDepth 100000
namespace Ev
open Go
theorem rdB {l : List Box} {n : Nat} {x : Box} (h : l[n]? = some x) (i : Int) (hi : i = (n : Int)) (K : Box → Option (Bool × Unit)) : rdL l i K = K x := by subst hi; exact rdL_at h
theorem low_high {l : List Place} {B : Box} (h : BoxP l B) : B.Low.X ≤ B.High.X ∧ B.Low.Y ≤ B.High.Y := by
  obtain ⟨p, hp, _⟩ := h.lx
  have := h.inn p hp
  omega
theorem isBx_of {l : List Place} {B : Box} (h : BoxP l B) (h1 : Sm 1816 B.Low) (h2 : Sm 1816 B.High) : isBx B = true := by
  obtain ⟨g1, g2⟩ := low_high h
  unfold isBx isPl
  rw [wi_of (by have := h1.1; omega) (by have := h1.1; omega), wi_of (by have := h1.2; omega) (by have := h1.2; omega), wi_of (by have := h2.1; omega) (by have := h2.1; omega), wi_of (by have := h2.2; omega) (by have := h2.2; omega), decide_eq_true g1, decide_eq_true g2]
  rfl
theorem G8_eq (b : List Int) (hw : (∀ d ∈ b, Wf .u8 d) ∧ b.length ≤ maxLen) : G8 (b, ()) = some (true, ()) := by
  unfold G8 F8 G14 F14
  simp only [Option.bind_some]
  by_cases hb : b.length ≤ 4096
  · rw [cond_false_dec (by simp; omega)]
    obtain ⟨⟨s, r, c, w, u⟩, e, hD⟩ := drawBasin_w hb
    have hD : DrawB s r c w := hD
    rw [e]
    have hv := hD.show_
    have hr := hD.rose
    obtain ⟨C, hC1, hC, hB⟩ := roseBox_is hr
    have safe := safeI_is hv hr hC hB
    simp only [Option.bind_some, es_show, landI_is hv]
    rcases leastI_is hv hr hC hB with ⟨h0, eL⟩ | ⟨h0, B, eL, hP, hs1, hs2⟩
    · have hl : (landL s).length = 0 := by rw [landL_len, h0]; rfl
      obtain ⟨v, ev, hiff⟩ := safe ⟨⟨0, 0⟩, ⟨0, 0⟩⟩
      have hvt : v = true := hiff.2 ⟨by decide, fun x hx => by rw [h0] at hx; cases hx⟩
      rw [eL]
      simp only [Option.bind_some, hl, ev, hvt]
      rfl
    · have hl : (landL s).length > 0 := by
        rw [landL_len]
        cases ht : throwsL s with
        | nil => exact absurd ht h0
        | cons x l => simp
      have hlt : decide (Int.ofNat (landL s).length > 0) = true := decide_eq_true (by simp only [Int.ofNat_eq_natCast]; omega)
      rw [eL]
      simp only [Option.bind_some, hlt, decide_true, Bool.not_true, cond_false]
      have w1 : w64 (B.Low.X + 1) = B.Low.X + 1 := w64_id (by have := hs1.1; omega) (by have := hs1.1; omega)
      have w2 : w64 (B.Low.Y + 1) = B.Low.Y + 1 := w64_id (by have := hs1.2; omega) (by have := hs1.2; omega)
      have w3 : w64 (B.High.X - 1) = B.High.X - 1 := w64_id (by have := hs2.1; omega) (by have := hs2.1; omega)
      have w4 : w64 (B.High.Y - 1) = B.High.Y - 1 := w64_id (by have := hs2.2; omega) (by have := hs2.2; omega)
      rw [w1, w2, w3, w4]
      suffices h : iterF (s8_0 G14 G15 G46 G16 G29) fuel (s, r, B, ([⟨⟨B.Low.X + 1, B.Low.Y⟩, ⟨B.High.X, B.High.Y⟩⟩, ⟨⟨B.Low.X, B.Low.Y + 1⟩, ⟨B.High.X, B.High.Y⟩⟩, ⟨⟨B.Low.X, B.Low.Y⟩, ⟨B.High.X - 1, B.High.Y⟩⟩, ⟨⟨B.Low.X, B.Low.Y⟩, ⟨B.High.X, B.High.Y - 1⟩⟩] : List Box), 0, ()) (fun t13 => (G29 ((t13.1.1, t13.1.2.1, t13.1.2.2.1, t13.1.2.2.2.1, ()), t13.2.1, t13.2.2.1, ())).bind fun x14 => some (x14.1, ())) = some (true, ()) by
        rw [rdB (n := 0) rfl 0 rfl, show ∀ (l : List Box), l[Int.toNat 0]? = l[0]? from fun _ => rfl]
        simp only [List.getElem?_cons_zero, Option.bind_some]
        rw [rdB (n := 1) rfl 1 rfl, show ∀ (l : List Box), l[Int.toNat 1]? = l[1]? from fun _ => rfl]
        exact h
      have bad : ∀ bx : Box, ¬ (InP bx B.Low ∧ InP bx B.High) → G29 (s, r, bx, ()) = some (false, ()) := fun bx hn => by
        obtain ⟨v, ev, hiff⟩ := safe bx
        cases v
        · exact ev
        · exact absurd ((hull_in hP).2 (hiff.1 rfl).2) hn
      generalize hL : ([⟨⟨B.Low.X + 1, B.Low.Y⟩, ⟨B.High.X, B.High.Y⟩⟩, ⟨⟨B.Low.X, B.Low.Y + 1⟩, ⟨B.High.X, B.High.Y⟩⟩, ⟨⟨B.Low.X, B.Low.Y⟩, ⟨B.High.X - 1, B.High.Y⟩⟩, ⟨⟨B.Low.X, B.Low.Y⟩, ⟨B.High.X, B.High.Y - 1⟩⟩] : List Box) = L
      have hLl : L.length = 4 := by rw [← hL]; rfl
      have hno : ∀ bx ∈ L, ¬ (InP bx B.Low ∧ InP bx B.High) := fun bx hm => by
        rw [← hL] at hm
        simp only [List.mem_cons, List.not_mem_nil, or_false] at hm
        unfold InP
        rcases hm with rfl | rfl | rfl | rfl <;> simp only <;> omega
      refine (iterF_for (f := s8_0 G14 G15 G46 G16 G29) (fun i => (s, r, B, L, (i : Int), ())) 4 (by omega) ?_ ?_).trans ?_
      · intro i hi rec K
        have hx : L[i]? = some (L[i]'(by omega)) := by simp
        have hx' := fun (K : Box → Option (Bool × Unit)) => rdL_at (K := K) hx
        have e1 : w64 ((i : Int) + 1) = ((i + 1 : Nat) : Int) := w64_id (by omega) (by omega)
        have hbad := bad _ (hno (L[i]'(by omega)) (by simp))
        simp only [s8_0, es_show]
        rw [cond_true_dec (by omega)]
        simp only [hx', hx, Int.toNat_natCast, Option.bind_some, hbad, cond_false, e1]
      · intro rec K
        simp only [s8_0, es_show]
        rw [cond_false_dec (by omega)]
      · obtain ⟨v, ev, hiff⟩ := safe B
        obtain ⟨g1, g2⟩ := low_high hP
        have hvt : v = true := hiff.2 ⟨isBx_of hP hs1 hs2, (hull_in hP).1 ⟨⟨⟨by omega, by omega⟩, by omega, by omega⟩, ⟨by omega, by omega⟩, by omega, by omega⟩⟩
        simp only [es_show, ev, hvt, Option.bind_some]
  · rw [cond_true_dec (by simp; omega)]
end Ev
namespace Go.Proofs.YtjdnadolocbjoaaGreat.fnLeastBasin
open Go.ChangeShapes Go.WideShapes Go.ChangeAt Go.RowKit
open Go.ChangeMaps (open_string shut_string)
theorem own : ownKnob Tryz.prog.godebug = none := by kernel_rfl
theorem laidOut : laidOutB Tryz.prog = true := by kernel_rfl
theorem lifted (os : Os) (started : os.Started) (H : Type) (enc : TypeId × Value → H) :
    ReturnsInHanded {} Tryz.checked os 8 .any (Rows.fnLeastBasinSpec.pre6 enc Tryz.prog Tryz.f8 Rows.fnLeastBasinRow.domain false) (Rows.fnLeastBasinSpec.post enc Tryz.prog Tryz.f8 false true false false) := by
  refine returnsInHanded_of_change_sized (C := Tryz.checked) own started (by kernel_rfl) Tryz.func8
    (ChangeSpec.witness6 (enc := enc) (C := Tryz.checked) false ⟨#[], #[.slice none 0 0], []⟩ 8 (by kernel_rfl) (by kernel_rfl) (by kernel_rfl) (by kernel_rfl)) ?_
  intro W base args ds gs before hval0 hW hcnd hsz0 _
  have hval : ∀ (j : Nat) t v, Tryz.f8.params[j]? = some t → args[j]? = some v → Value.okWide Tryz.prog W .any base t v := hval0
  have hW' := hW
  obtain ⟨p, q, hA0, hV, rfl, hfz, hnd⟩ := hW
  have hA : DataW.TrodAll enc Tryz.prog W 0 (fun _ => true) true Tryz.f8.params.toList args.toList ds p := hA0
  rw [Tryz.params8] at hA hval
  obtain ⟨v0, vs0, d0, ds0, p0, q0, hargs, rfl, rfl, h0, r0⟩ := trodAll_cons hA
  obtain ⟨rfl, rfl, rfl⟩ := trodAll_nil r0
  obtain rfl : args = #[v0] := by cases args; simp_all
  obtain ⟨rfl, rfl⟩ := trodVars_none hV
  obtain ⟨a0, len0, cap0, rfl⟩ := okWide_slice Tryz.underlying22 (hval 0 22 v0 rfl rfl)
  have k0 := h0
  have lt0 : ∀ x ∈ p0, x.block < W.heap.size := by obtain ⟨m, hm⟩ := k0; exact DataW.trod_lt m _ _ _ hm
  obtain ⟨zs0, hrel0, wf0, ml0⟩ : ∃ l : List (Ev.Ty.den .u8), Ev.RelA (fun _ => none) (fun b => b < W.heap.size) W (.lst .u8 l) (.slice a0 len0 cap0) ∧ (∀ d ∈ l, Ev.Wf .u8 d) ∧ l.length ≤ maxLen := by
    obtain ⟨fuel, hf⟩ := h0
    exact Ev.open_rows (l := [(5, .u8)]) (by kernel_rfl) (by kernel_rfl) hf
  clear hA0 hval0 hsz0
  refine (Ev.calls_true (av := [.lst .u8 zs0]) (out := []) Ev.okG8 (by
    exact Ev.sem_of (ps := Ev.p8) (rs := Ev.r8) (a := (zs0, ())) rfl (Ev.G8_eq zs0 (And.intro wf0 ml0))) (w := W) (ca := #[.slice a0 len0 cap0]) rfl (Ev.args_arr (Ev.argsS (hrel0) Ev.args0))).mono fun e W' ⟨he, bel⟩ => ?_
  subst he
  exact ⟨_, rfl, _, _, _, [], _, [], hW', trodAll_mk1 (shut_bool Tryz.underlying4 _), (trodAll_cons_mk (Below.trod laidOut (by kernel_rfl) (of_decide_eq_true (by kernel_rfl)) k0 bel lt0) trodAll_mk0), rfl, bel.frame _, fun h => by cases h⟩
theorem over : Rows.fnLeastBasinRow.holds Tryz.pinned (OpenSpec.ofChange Rows.fnLeastBasinSpec) :=
  OpenClaim.holds_of_wide 8 Tryz.f8 rfl rfl rfl rfl rfl rfl rfl ⟨rfl, rfl, rfl, rfl, rfl⟩ rfl rfl rfl rfl rfl (by kernel_rfl) Tryz.func8 (by kernel_rfl)
    (of_decide_eq_true (by kernel_rfl)) (by unfold Func.isWrapper; first | (rw [if_pos (by decide +kernel)]; kernel_rfl) | (rw [if_neg (by decide +kernel)]; exact ⟨rfl, rfl⟩))
    (fun os started H enc _ => lifted os started H enc)
theorem proved : Rows.FnLeastBasinSaid := over
#print axioms proved
end Go.Proofs.YtjdnadolocbjoaaGreat.fnLeastBasin
