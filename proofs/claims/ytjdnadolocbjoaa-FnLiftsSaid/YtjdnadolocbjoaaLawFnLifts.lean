/- The lifts of the nozzles of a pump are a fair share of what it gives, of their levels, and nothing else has a lift: on no condition. -/
import Derived.Test.YtjdnadolocbjoaaRows
import Derived.Test.YtjdnadolocbjoaaDrawA
import Derived.Test.YtjdnadolocbjoaaFair2
import Derived.Test.YtjdnadolocbjoaaPureA
import Derived.WalkKit
import Derived.ProofKit
import Derived.OpenShut
import Derived.ShutString
import Derived.ChangeOld
import Derived.Below
import Derived.SizedLaws
set_option linter.unusedVariables false
set_option linter.unusedSimpArgs false
set_option maxRecDepth 100000
namespace Ev
open Go
theorem map_ext {A B : Type} {l : List A} {f : A → B} {m : List B} (hl : l.length = m.length) (h : ∀ (k : Nat) (i : A), l[k]? = some i → m[k]? = some (f i)) : l.map f = m := by
  refine List.ext_getElem? fun k => ?_
  rw [List.getElem?_map]
  cases hk : l[k]? with
  | none =>
    rw [List.getElem?_eq_none_iff] at hk
    rw [List.getElem?_eq_none (by omega)]; rfl
  | some i => rw [h k i hk]; rfl
def getI (x : List Int) (i : Nat) : Int := (x[i]?).getD 0
theorem G5_eq (b : List Int) (hw : (∀ d ∈ b, Wf .u8 d) ∧ b.length ≤ maxLen) : G5 (b, ()) = some (true, ()) := by
  unfold G5 F5 G10 F10
  simp only [Option.bind_some]
  by_cases hb : b.length ≤ 4096
  · rw [cond_false_dec (by simp; omega)]
    obtain ⟨⟨s, t, u⟩, e, hv, h1, ht0, ht1⟩ := drawShow_w hb
    have hv : ShowV s := hv
    have h1 : 1 ≤ s.1.length := h1
    have ht0 : 0 ≤ t := ht0
    have ht1 : t < 30 := ht1
    rw [e]
    simp only [Option.bind_some, es_show]
    have hlen := hv.rig.len
    have hL := liftsL_len s t
    rw [liftsI_is hv]
    simp only [Option.bind_some]
    rw [decide_eq_true (by simp [hL])]
    simp only [Bool.not_true, cond_false]
    refine iterF_for (f := s5_0 G10 G26 G27 G14 G28 G29) (K := fun t29 => some (true, ())) (fun q => (s, t, liftsL s t, (q : Int), ())) s.1.length (by omega) ?_ ?_
    · intro q hq rec K
      have hp : s.1[q]? = some s.1[q] := by simp
      have hp' := fun (K : Device → Option (Bool × Unit)) => rdL_at (K := K) hp
      have eq1 : w64 ((q : Int) + 1) = ((q + 1 : Nat) : Int) := w64_id (by omega) (by omega)
      generalize hpd : s.1[q] = p at hp hp'
      simp only [s5_0, es_show]
      rw [cond_true_dec (by simp; omega)]
      refine (iterF_for (f := s5_2 G10 G26 G27 G14 G28 G29) (fun i => (s, t, liftsL s t, (q : Int), (pickL (onS p true) s.1 i).map (demAt s.2.1 t s.1), (pickL (onS p true) s.1 i).map (getI (liftsL s t)), (i : Int), ())) s.1.length (by omega) ?_ ?_).trans ?_
      · intro i hi rec K
        have hx : s.1[i]? = some s.1[i] := by simp
        have hx' := fun (K : Device → Option (Bool × Unit)) => rdL_at (K := K) hx
        have hy : (liftsL s t)[i]? = some (liftsL s t)[i] := by simp
        have hy' := fun (K : Int → Option (Bool × Unit)) => rdL_at (K := K) hy
        have e1 : w64 ((i : Int) + 1) = ((i + 1 : Nat) : Int) := w64_id (by omega) (by omega)
        have hpl := pickL_len (onS p true) s.1 i
        have hlv := lvlI_is hv.ok.names hv.ok.score s.1[i].Name t
        rw [pickL_succ (onS p true) s.1 i hi]
        simp only [s5_2, es_show]
        rw [cond_true_dec (by simp; omega)]
        simp only [hx', hx, hp', hp, Int.toNat_natCast, Option.bind_some, e1]
        have ho : onS p true s.1[i] = (decide (s.1[i].Kind = 2) && (decide (s.1[i].Line = p.Name) && true)) := rfl
        rw [ho]
        by_cases k2 : s.1[i].Kind = 2
        · rw [cond_true_dec k2, decide_eq_true k2]
          by_cases kl : s.1[i].Line = p.Name
          · rw [cond_true_dec kl, decide_eq_true kl]
            rw [hlv]
            simp only [Option.bind_some]
            rw [capK_le (by simp; omega)]
            simp only [hy', hy, Option.bind_some]
            rw [capK_le (by simp; omega)]
            simp only [Bool.true_and, if_true, List.map_append, List.map_cons, List.map_nil, demAt_is hx]
            have eg : getI (liftsL s t) i = (liftsL s t)[i] := by unfold getI; rw [hy]; rfl
            rw [eg]
            rfl
          · rw [cond_false_dec kl, decide_eq_false kl]
            simp
        · rw [cond_false_dec k2, decide_eq_false k2]
          simp
      · intro rec K
        simp only [s5_2, es_show]
        rw [cond_false_dec (by simp)]
      have hz : (liftsL s t)[q]? = some ((liftsL s t)[q]'(by rw [hL]; exact hq)) := by simp
      generalize (liftsL s t)[q]'(by rw [hL]; exact hq) = z at hz
      have hz' := fun (K : Int → Option (Bool × Unit)) => rdL_at (K := K) hz
      have hat := liftsL_at hv t hz hp
      have hno : p.Kind ≠ 2 → z = 0 := fun hk => by
        rcases hat with e | e
        · exact e
        · exact absurd e.1 hk
      have fair : t < s.2.2.2.1 → p.Kind = 1 → G28 (p.Most, (pickL (onS p true) s.1 s.1.length).map (demAt s.2.1 t s.1), (pickL (onS p true) s.1 s.1.length).map (getI (liftsL s t)), ()) = some (true, ()) := fun ht hk => by
        have hwi : wi t 0 (s.2.2.2.1 - 1) = true := wi_of (by omega) (by omega)
        have hc : pickL (onS p true) s.1 s.1.length = pickL (onI p) s.1 s.1.length := pickL_congr (fun d hd => by
          unfold onS onI
          by_cases hl : d.Line = p.Name
          · have := on_kind hv.rig (mem_at hp) hd hl
            rw [decide_eq_true hl, decide_eq_true (show d.Kind = 2 by omega)]; rfl
          · rw [decide_eq_false hl]; simp) _
        have hS := want_share hv (t := t) (mem_at hp) hk
        have hg : (pickL (onI p) s.1 s.1.length).map (getI (liftsL s t)) = shr p.Most (wantL s t p) := by
          refine map_ext (by rw [hS.len]; unfold wantL; simp) fun k i hki => ?_
          have h2 := lifts_own hv hwi hp hk hki
          have hkl : k < (shr p.Most (wantL s t p)).length := by
            rw [hS.len]; unfold wantL
            simpa using (List.getElem?_eq_some_iff.mp hki).1
          have hsk : (shr p.Most (wantL s t p))[k]? = some (shr p.Most (wantL s t p))[k] := by simp
          unfold getI
          rw [h2, hsk]; rfl
        rw [hc, hg]
        exact isFair_is (pump_most hv (mem_at hp) hk) (want_dem hv (mem_at hp) hk) hS
      simp only [hp', hp, hz', hz, Int.toNat_natCast, Option.bind_some, es_show, eq1, totalL_is hv]
      have hsum : s.2.2.2.1 ≤ t → sumL (liftsL s t) = 0 := fun hle => by
        have : liftsL s t = List.replicate s.1.length 0 := by
          unfold liftsL
          rw [if_neg (by rw [wi_true]; omega)]
        rw [this]
        have rep : ∀ m : Nat, sumL (List.replicate m (0 : Int)) = 0 := fun m => by
          induction m with
          | zero => rfl
          | succ m ih => rw [List.replicate_succ]; simp only [sumL, ih]; rfl
        exact rep _
      by_cases ct : t < s.2.2.2.1
      · rw [cond_true_dec ct]
        rw [decide_eq_false (show ¬ t ≥ s.2.2.2.1 by omega)]
        by_cases k1 : p.Kind = 1
        · rw [cond_true_dec k1, fair ct k1]
          have hz0 := hno (by omega)
          rw [decide_eq_false (show ¬ p.Kind = 2 by omega)]
          simp [hz0]
        · rw [cond_false_dec k1]
          by_cases k2 : p.Kind = 2
          · rw [decide_eq_true k2]; simp
          · rw [decide_eq_false k2, hno k2]; simp
      · rw [cond_false_dec ct, hsum (by omega)]
        rw [decide_eq_true (show t ≥ s.2.2.2.1 by omega)]
        by_cases k2 : p.Kind = 2
        · rw [decide_eq_true k2]; simp
        · rw [decide_eq_false k2, hno k2]; simp
    · intro rec K
      simp only [s5_0, es_show]
      rw [cond_false_dec (by simp)]
  · rw [cond_true_dec (by simp; omega)]
end Ev
namespace Go.Proofs.Ytjdnadolocbjoaa.fnLifts
open Go.ChangeShapes Go.WideShapes Go.ChangeAt Go.RowKit
open Go.ChangeMaps (open_string shut_string)
theorem own : ownKnob Try.prog.godebug = none := by kernel_rfl
theorem laidOut : laidOutB Try.prog = true := by kernel_rfl
theorem lifted (os : Os) (started : os.Started) (H : Type) (enc : TypeId × Value → H) :
    ReturnsInHanded {} Try.checked os 5 .any (Rows.fnLiftsSpec.pre6 enc Try.prog Try.f5 Rows.fnLiftsRow.domain false) (Rows.fnLiftsSpec.post enc Try.prog Try.f5 false true false false) := by
  refine returnsInHanded_of_change_sized (C := Try.checked) own started (by kernel_rfl) Try.func5
    (ChangeSpec.witness6 (enc := enc) (C := Try.checked) false ⟨#[], #[.slice none 0 0], []⟩ 8 (by kernel_rfl) (by kernel_rfl) (by kernel_rfl) (by kernel_rfl)) ?_
  intro W base args ds gs before hval0 hW hcnd hsz0 _
  have hval : ∀ (j : Nat) t v, Try.f5.params[j]? = some t → args[j]? = some v → Value.okWide Try.prog W .any base t v := hval0
  have hW' := hW
  obtain ⟨p, q, hA0, hV, rfl, hfz, hnd⟩ := hW
  have hA : DataW.TrodAll enc Try.prog W 0 (fun _ => true) true Try.f5.params.toList args.toList ds p := hA0
  rw [Try.params5] at hA hval
  obtain ⟨v0, vs0, d0, ds0, p0, q0, hargs, rfl, rfl, h0, r0⟩ := trodAll_cons hA
  obtain ⟨rfl, rfl, rfl⟩ := trodAll_nil r0
  obtain rfl : args = #[v0] := by cases args; simp_all
  obtain ⟨rfl, rfl⟩ := trodVars_none hV
  obtain ⟨a0, len0, cap0, rfl⟩ := okWide_slice Try.underlying22 (hval 0 22 v0 rfl rfl)
  have k0 := h0
  have lt0 : ∀ x ∈ p0, x.block < W.heap.size := by obtain ⟨m, hm⟩ := k0; exact DataW.trod_lt m _ _ _ hm
  obtain ⟨zs0, hrel0, wf0, ml0⟩ : ∃ l : List (Ev.Ty.den .u8), Ev.RelA (fun _ => none) (fun b => b < W.heap.size) W (.lst .u8 l) (.slice a0 len0 cap0) ∧ (∀ d ∈ l, Ev.Wf .u8 d) ∧ l.length ≤ maxLen := by
    obtain ⟨fuel, hf⟩ := h0
    exact Ev.open_rows (l := [(5, .u8)]) (by kernel_rfl) (by kernel_rfl) hf
  clear hA0 hval0 hsz0
  refine (Ev.calls_true (av := [.lst .u8 zs0]) (out := []) Ev.okG5 (by
    exact Ev.sem_of (ps := Ev.p5) (rs := Ev.r5) (a := (zs0, ())) rfl (Ev.G5_eq zs0 (And.intro wf0 ml0))) (w := W) (ca := #[.slice a0 len0 cap0]) rfl (Ev.args_arr (Ev.argsS (hrel0) Ev.args0))).mono fun e W' ⟨he, bel⟩ => ?_
  subst he
  exact ⟨_, rfl, _, _, _, [], _, [], hW', trodAll_mk1 (shut_bool Try.underlying4 _), (trodAll_cons_mk (Below.trod laidOut (by kernel_rfl) (of_decide_eq_true (by kernel_rfl)) k0 bel lt0) trodAll_mk0), rfl, bel.frame _, fun h => by cases h⟩
theorem over : Rows.fnLiftsRow.holds Try.pinned (OpenSpec.ofChange Rows.fnLiftsSpec) :=
  OpenClaim.holds_of_wide 5 Try.f5 rfl rfl rfl rfl rfl rfl rfl ⟨rfl, rfl, rfl, rfl, rfl⟩ rfl rfl rfl rfl rfl (by kernel_rfl) Try.func5 (by kernel_rfl)
    (of_decide_eq_true (by kernel_rfl)) (by unfold Func.isWrapper; first | (rw [if_pos (by decide +kernel)]; kernel_rfl) | (rw [if_neg (by decide +kernel)]; exact ⟨rfl, rfl⟩))
    (fun os started H enc _ => lifted os started H enc)
theorem proved : Rows.FnLiftsSaid := over
#print axioms proved
end Go.Proofs.Ytjdnadolocbjoaa.fnLifts
