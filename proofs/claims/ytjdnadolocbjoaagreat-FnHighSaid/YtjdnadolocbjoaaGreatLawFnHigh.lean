/- No drop is ever above the greatest height of the show: on no condition. -/
import Derived.Test.YtjdnadolocbjoaaGreatRows
import Derived.Test.YtjdnadolocbjoaaGreatDrawA
import Derived.Test.YtjdnadolocbjoaaGreatPureA
import Derived.WalkKit
import Derived.ProofKit
import Derived.OpenShut
import Derived.ShutString
import Derived.ChangeOld
import Derived.Below
import Derived.SizedLaws
set_option linter.unusedVariables false
set_option linter.unusedSimpArgs false
set_option maxRecDepth 100000
namespace Ev
open Go
theorem wp_true {o : Option (Bool × Unit)} (h : wp o (fun r => r.1 = true)) : o = some (true, ()) := by
  obtain ⟨⟨r, u⟩, e, hr⟩ := h
  rw [e, show r = true from hr]
noncomputable def hitB (s : ShowT) (k i : Nat) : Bool := match s.1[i]? with
  | some d => (jetV s d.Name (k : Int)).isSome && decide (pk ((jetV s d.Name (k : Int)).getD ⟨⟨0, 0⟩, 0, 0, 0⟩) = highV s)
  | none => false
theorem high_hit {s : ShowT} (h : ShowV s) (h0 : throwsL s ≠ []) : ∃ k i : Nat, (k : Int) < s.2.2.2.1 ∧ i < s.1.length ∧ hitB s k i = true := by
  obtain ⟨_, g2, g3⟩ := high_ge (throwsL s) 0
  have hp : ∃ x ∈ throwsL s, pk x.jet = highV s := by
    rcases g3 with g3 | g3
    · exfalso
      cases hx : throwsL s with
      | nil => exact h0 hx
      | cons x l =>
        have hm : x ∈ throwsL s := by rw [hx]; simp
        have h1 := g2 x hm
        rw [g3] at h1
        have hj := (throws_fly h hm).jet
        have hf := fl_two h hm
        have h3 := ht_pk hj (t := 1) (by omega) (by omega)
        have h4 : ht x.jet 1 = 1 * (x.jet.Lift + 1 - 1) := by unfold ht; rw [if_pos ⟨hj, by omega, by omega⟩]
        omega
    · exact g3
  obtain ⟨x, hx, hpk⟩ := hp
  have tp := throws_mem h hx
  obtain ⟨i, d, hd, hk, hn, _⟩ := tp.dev
  have hb := tp.born
  refine ⟨x.born.toNat, i, by omega, (List.getElem?_eq_some_iff.mp hd).1, ?_⟩
  have hj := jet_throw h hx
  unfold hitB
  rw [hd]
  simp only
  rw [show ((x.born.toNat : Nat) : Int) = x.born by omega, ← hn, hj]
  simp [hpk]
theorem any_snoc (p : Nat → Bool) (n : Nat) : (List.range (n + 1)).any p = ((List.range n).any p || p n) := by
  rw [List.range_succ, List.any_append]; simp
theorem G5_eq (b : List Int) (hw : (∀ d ∈ b, Wf .u8 d) ∧ b.length ≤ maxLen) : G5 (b, ()) = some (true, ()) := by
  unfold G5 F5 G14 F14
  simp only [Option.bind_some]
  by_cases hb : b.length ≤ 4096
  · rw [cond_false_dec (by simp; omega)]
    obtain ⟨⟨s, t, u⟩, e, hv, h1, ht0, ht1⟩ := drawShow_w hb
    have hv : ShowV s := hv
    rw [e]
    have hl := nowL_len hv t
    have hlen := hv.rig.len
    obtain ⟨n, hn, h64⟩ := tick_nat hv
    simp only [Option.bind_some, es_show, highI_is hv, highS_is hv, nowI_is hv, decide_true, Bool.not_true, cond_false]
    refine (iterF_for (f := s5_0 G14 G33 G35 G36 G25 G16 G17 G37) (fun i => (s, highV s, nowL s t, (i : Int), ())) (nowL s t).length (by omega) ?_ ?_).trans ?_
    · intro i hi rec K
      have hx : (nowL s t)[i]? = some (nowL s t)[i] := by simp
      have hx' := fun (K : Drop → Option (Bool × Unit)) => rdL_at (K := K) hx
      have e1 : w64 ((i : Int) + 1) = ((i + 1 : Nat) : Int) := w64_id (by omega) (by omega)
      have hh := now_high hv (show (nowL s t)[i] ∈ nowL s t by simp)
      simp only [s5_0, es_show]
      rw [cond_true_dec (by simp; omega)]
      simp only [hx', hx, Int.toNat_natCast, Option.bind_some, e1]
      rw [decide_eq_false (show ¬ (nowL s t)[i].Height > highV s by omega), cond_false_dec (show ¬ (nowL s t)[i].Height < 0 by omega)]
      rfl
    · intro rec K
      simp only [s5_0, es_show]
      rw [cond_false_dec (by simp)]
    simp only [landI_is hv, Option.bind_some, es_show]
    have main : ∀ f0 : Bool, (f0 = true ∨ throwsL s ≠ []) → iterF (s5_2 G14 G33 G35 G36 G25 G16 G17 G37) fuel (s, highV s, f0, 0, ()) (fun t19 => some (t19.2.2.1, ())) = some (true, ()) := by
      intro f0 hf0
      refine wp_true (wp_iter n (fun j t => ∃ (k : Nat) (fd : Bool), t = (s, highV s, fd, (k : Int), ()) ∧ k + j = n ∧ (fd = false → throwsL s ≠ [] ∧ ∀ (k' i : Nat), k' < k → i < s.1.length → hitB s k' i = false)) (by omega) ⟨0, f0, rfl, by omega, fun hf => ⟨hf0.resolve_left (by rw [hf]; simp), fun k' i h => by omega⟩⟩ ?_)
      rintro j _ ⟨k, fd, rfl, hkj, hinv⟩ rec hrec
      simp only [s5_2, es_show]
      by_cases hk : k < n
      · rw [cond_true_dec (by rw [hn]; omega)]
        cases fd
        · obtain ⟨hne, hno⟩ := hinv rfl
          have e1 : w64 ((k : Int) + 1) = ((k + 1 : Nat) : Int) := w64_id (by omega) (by omega)
          simp only [Bool.not_false, cond_true]
          have inner := iterF_for (f := s5_4 G14 G33 G35 G36 G25 G16 G17 G37) (K := fun t18 => rec (t18.1, t18.2.1, t18.2.2.1, (w64 (t18.2.2.2.1 + 1)), ())) (fun i => (s, highV s, (List.range i).any (hitB s k), (k : Int), (i : Int), ())) s.1.length (by omega)
            (by
              intro i hi rec K
              have hx : s.1[i]? = some s.1[i] := by simp
              have hx' := fun (K : Device → Option (Bool × Unit)) => rdL_at (K := K) hx
              have e2 : w64 ((i : Int) + 1) = ((i + 1 : Nat) : Int) := w64_id (by omega) (by omega)
              simp only [s5_4, es_show]
              rw [cond_true_dec (by simp; omega)]
              simp only [hx', hx, Int.toNat_natCast, Option.bind_some, e2, jetAtI_is hv, peakI_is]
              rw [any_snoc]
              have eh : hitB s k i = ((jetV s s.1[i].Name (k : Int)).isSome && decide (pk ((jetV s s.1[i].Name (k : Int)).getD ⟨⟨0, 0⟩, 0, 0, 0⟩) = highV s)) := by unfold hitB; rw [hx]
              rw [eh]
              cases (List.range i).any (hitB s k)
              · cases (jetV s s.1[i].Name (k : Int)).isSome <;> simp
              · simp)
            (by
              intro rec K
              simp only [s5_4, es_show]
              rw [cond_false_dec (by simp)])
          have e0 : (List.range 0).any (hitB s k) = false := rfl
          rw [e0, show (((0 : Nat) : Int)) = 0 from rfl] at inner
          rw [inner]
          simp only [es_show, e1]
          refine hrec (j - 1) _ (by omega) ⟨k + 1, _, rfl, by omega, fun hf => ⟨hne, fun k' i hk' hi => ?_⟩⟩
          by_cases hkk : k' = k
          · subst hkk
            rw [List.any_eq_false] at hf
            have := hf i (by simpa using hi)
            simpa using this
          · exact hno k' i (by omega) hi
        · simp only [Bool.not_true, cond_false]
          exact wp_some rfl
      · rw [cond_false_dec (by rw [hn]; omega)]
        refine wp_some ?_
        simp only
        cases fd
        · obtain ⟨hne, hno⟩ := hinv rfl
          obtain ⟨k', i, h2, h3, h4⟩ := high_hit hv hne
          rw [hno k' i (by omega) h3] at h4
          cases h4
        · rfl
    by_cases h0 : highV s = 0
    · rw [cond_true_dec h0]
      refine main _ ?_
      by_cases hne : throwsL s = []
      · left
        rw [decide_eq_true (by rw [landL_len, hne]; rfl)]
      · exact .inr hne
    · rw [cond_false_dec h0]
      refine main _ (.inr fun hne => h0 ?_)
      unfold highV
      rw [hne]; rfl
  · rw [cond_true_dec (by simp; omega)]
end Ev
namespace Go.Proofs.YtjdnadolocbjoaaGreat.fnHigh
open Go.ChangeShapes Go.WideShapes Go.ChangeAt Go.RowKit
open Go.ChangeMaps (open_string shut_string)
theorem own : ownKnob Tryz.prog.godebug = none := by kernel_rfl
theorem laidOut : laidOutB Tryz.prog = true := by kernel_rfl
theorem lifted (os : Os) (started : os.Started) (H : Type) (enc : TypeId × Value → H) :
    ReturnsInHanded {} Tryz.checked os 5 .any (Rows.fnHighSpec.pre6 enc Tryz.prog Tryz.f5 Rows.fnHighRow.domain false) (Rows.fnHighSpec.post enc Tryz.prog Tryz.f5 false true false false) := by
  refine returnsInHanded_of_change_sized (C := Tryz.checked) own started (by kernel_rfl) Tryz.func5
    (ChangeSpec.witness6 (enc := enc) (C := Tryz.checked) false ⟨#[], #[.slice none 0 0], []⟩ 8 (by kernel_rfl) (by kernel_rfl) (by kernel_rfl) (by kernel_rfl)) ?_
  intro W base args ds gs before hval0 hW hcnd hsz0 _
  have hval : ∀ (j : Nat) t v, Tryz.f5.params[j]? = some t → args[j]? = some v → Value.okWide Tryz.prog W .any base t v := hval0
  have hW' := hW
  obtain ⟨p, q, hA0, hV, rfl, hfz, hnd⟩ := hW
  have hA : DataW.TrodAll enc Tryz.prog W 0 (fun _ => true) true Tryz.f5.params.toList args.toList ds p := hA0
  rw [Tryz.params5] at hA hval
  obtain ⟨v0, vs0, d0, ds0, p0, q0, hargs, rfl, rfl, h0, r0⟩ := trodAll_cons hA
  obtain ⟨rfl, rfl, rfl⟩ := trodAll_nil r0
  obtain rfl : args = #[v0] := by cases args; simp_all
  obtain ⟨rfl, rfl⟩ := trodVars_none hV
  obtain ⟨a0, len0, cap0, rfl⟩ := okWide_slice Tryz.underlying22 (hval 0 22 v0 rfl rfl)
  have k0 := h0
  have lt0 : ∀ x ∈ p0, x.block < W.heap.size := by obtain ⟨m, hm⟩ := k0; exact DataW.trod_lt m _ _ _ hm
  obtain ⟨zs0, hrel0, wf0, ml0⟩ : ∃ l : List (Ev.Ty.den .u8), Ev.RelA (fun _ => none) (fun b => b < W.heap.size) W (.lst .u8 l) (.slice a0 len0 cap0) ∧ (∀ d ∈ l, Ev.Wf .u8 d) ∧ l.length ≤ maxLen := by
    obtain ⟨fuel, hf⟩ := h0
    exact Ev.open_rows (l := [(5, .u8)]) (by kernel_rfl) (by kernel_rfl) hf
  clear hA0 hval0 hsz0
  refine (Ev.calls_true (av := [.lst .u8 zs0]) (out := []) Ev.okG5 (by
    exact Ev.sem_of (ps := Ev.p5) (rs := Ev.r5) (a := (zs0, ())) rfl (Ev.G5_eq zs0 (And.intro wf0 ml0))) (w := W) (ca := #[.slice a0 len0 cap0]) rfl (Ev.args_arr (Ev.argsS (hrel0) Ev.args0))).mono fun e W' ⟨he, bel⟩ => ?_
  subst he
  exact ⟨_, rfl, _, _, _, [], _, [], hW', trodAll_mk1 (shut_bool Tryz.underlying4 _), (trodAll_cons_mk (Below.trod laidOut (by kernel_rfl) (of_decide_eq_true (by kernel_rfl)) k0 bel lt0) trodAll_mk0), rfl, bel.frame _, fun h => by cases h⟩
theorem over : Rows.fnHighRow.holds Tryz.pinned (OpenSpec.ofChange Rows.fnHighSpec) :=
  OpenClaim.holds_of_wide 5 Tryz.f5 rfl rfl rfl rfl rfl rfl rfl ⟨rfl, rfl, rfl, rfl, rfl⟩ rfl rfl rfl rfl rfl (by kernel_rfl) Tryz.func5 (by kernel_rfl)
    (of_decide_eq_true (by kernel_rfl)) (by unfold Func.isWrapper; first | (rw [if_pos (by decide +kernel)]; kernel_rfl) | (rw [if_neg (by decide +kernel)]; exact ⟨rfl, rfl⟩))
    (fun os started H enc _ => lifted os started H enc)
theorem proved : Rows.FnHighSaid := over
#print axioms proved
end Go.Proofs.YtjdnadolocbjoaaGreat.fnHigh
