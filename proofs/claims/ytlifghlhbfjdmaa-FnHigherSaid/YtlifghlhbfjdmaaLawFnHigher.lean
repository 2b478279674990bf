/- The higher of two tracks is below neither, and one of them at each tick; cut at a level, it is the higher of both cut ones: on no condition. -/
import Derived.Test.YtlifghlhbfjdmaaRows
import Derived.Test.YtlifghlhbfjdmaaHigher
import Derived.Test.YtlifghlhbfjdmaaOpen
import Derived.Test.YtlifghlhbfjdmaaRow
import Derived.WalkKit
import Derived.ProofKit
import Derived.OpenShut
import Derived.ShutString
import Derived.ChangeOld
import Derived.Below
import Derived.SizedLaws
set_option linter.unusedVariables false
set_option maxRecDepth 100000
namespace Ev
open Go
theorem ints_eq (l : List Int) (hl : l.length ≤ 1048576) : F17 (l, l, ()) = some (true, ()) := by
  unfold F17
  simp only [decide_true, Bool.not_true, cond_false]
  obtain ⟨t, ⟨_, rfl⟩, e⟩ := iterF_all (f := s17_0) (K := fun _ => some (true, ())) (t := (l, l, 0, ())) l.length
    (fun i t => True ∧ t = (l, l, (i : Int), ())) (by omega) ⟨trivial, rfl⟩
    (by
      rintro i _ hi ⟨_, rfl⟩
      have hx : l[i]? = some l[i] := by simp
      refine ⟨_, ⟨trivial, rfl⟩, fun rec K => ?_⟩
      simp only [s17_0]
      rw [cond_dec, if_pos (by simp; omega), rdL_at hx, rdL_at hx, w64_id (by omega) (by omega)]
      simp)
    (by
      rintro _ ⟨_, rfl⟩ rec K
      simp only [s17_0]
      rw [cond_dec, if_neg (by simp)])
  exact e
noncomputable abbrev fK := F22 F72
noncomputable abbrev fH := F20 fK F77
noncomputable abbrev fHs := F21 (F78 F119) F79
noncomputable abbrev fDr := F19 F71 fA
noncomputable abbrev fC := F23 fK
theorem loop4 (a b : List Int) (ha : a.length ≤ 64) (hb : b.length ≤ 64) (i : Nat) (hi : i < (higher a b).length) (rec K) :
    s4_0 F13 fDr fH fHs fK F17 fC (a, b, higher a b, (i : Int), ()) rec K = rec (a, b, higher a b, ((i + 1 : Nat) : Int), ()) := by
  have hlen := higher_len a b
  have hx : (higher a b)[i]? = some (higher a b)[i] := by simp
  have hx' := fun (K : Int → Option (Bool × Unit)) => rdL_at (K := K) hx
  have d0 : (i : Int) < Int.ofNat (higher a b).length := by simp; omega
  have ew : w64 ((i : Int) + 1) = ((i + 1 : Nat) : Int) := w64_id (by omega) (by omega)
  have hat := higher_at a b i
  rw [hx] at hat
  generalize (higher a b)[i] = v at hx hx' hat
  by_cases c1 : i < a.length
  · have h1 : a[i]? = some a[i] := by simp
    have h1' := fun (K : Int → Option (Bool × Unit)) => rdL_at (K := K) h1
    have d1 : (i : Int) < Int.ofNat a.length := by simp; omega
    by_cases c2 : i < b.length
    · have h2 : b[i]? = some b[i] := by simp
      have h2' := fun (K : Int → Option (Bool × Unit)) => rdL_at (K := K) h2
      have d2 : (i : Int) < Int.ofNat b.length := by simp; omega
      rw [h1, h2] at hat
      simp only [Option.some.injEq] at hat
      generalize a[i] = u at h1 h1' hat
      generalize b[i] = w at h2 h2' hat
      have hv : (v = u ∧ ¬ w > u) ∨ (v = w ∧ ¬ v = u ∧ ¬ u > v) := by
        rw [mx_eq] at hat; split at hat <;> omega
      rcases hv with ⟨e1, e2⟩ | ⟨e1, e2, e3⟩
      · subst e1
        have e3 : ¬ v > v := by omega
        simp only [s4_0, d0, d1, d2, hx', h1', h2', Int.toNat_natCast, hx, h1, h2, Option.bind_some, decide_true, decide_false, Bool.not_true, Bool.not_false, cond_true, cond_false, e2, e3, ew]
      · have e4 : ¬ w > v := by omega
        have e5 : (v = w) = True := by simp [e1]
        simp only [s4_0, d0, d1, d2, hx', h1', h2', Int.toNat_natCast, hx, h1, h2, Option.bind_some, decide_true, decide_false, Bool.not_true, Bool.not_false, cond_true, cond_false, e2, e3, e4, e5, ew]
    · have h2 : b[i]? = none := by simp; omega
      have d2 : ¬ (i : Int) < Int.ofNat b.length := by simp; omega
      rw [h1, h2] at hat
      simp only [Option.some.injEq] at hat
      generalize a[i] = u at h1 h1' hat
      subst hat
      have e3 : ¬ v > v := by omega
      simp only [s4_0, d0, d1, d2, hx', h1', Int.toNat_natCast, hx, h1, Option.bind_some, decide_true, decide_false, Bool.not_true, Bool.not_false, cond_true, cond_false, e3, ew]
  · have c2 : i < b.length := by omega
    have h1 : a[i]? = none := by simp; omega
    have d1 : ¬ (i : Int) < Int.ofNat a.length := by simp; omega
    have h2 : b[i]? = some b[i] := by simp
    have h2' := fun (K : Int → Option (Bool × Unit)) => rdL_at (K := K) h2
    have d2 : (i : Int) < Int.ofNat b.length := by simp; omega
    rw [h1, h2] at hat
    simp only [Option.some.injEq] at hat
    generalize b[i] = w at h2 h2' hat
    subst hat
    have e3 : ¬ v > v := by omega
    simp only [s4_0, d0, d1, d2, hx', h2', Int.toNat_natCast, hx, h2, Option.bind_some, decide_true, decide_false, Bool.not_true, Bool.not_false, cond_true, cond_false, e3, ew]
theorem F4_eq (c : List Int) (hw : (∀ d ∈ c, Wf .u8 d) ∧ c.length ≤ maxLen) : F4 F13 fDr fH fHs fK F17 fC (c, ()) = some (true, ()) := by
  unfold F4
  simp only [F13, Option.bind_some]
  by_cases hb : c.length ≤ 4096
  · rw [cond_false_dec (by simp; omega)]
    obtain ⟨h, e⟩ := new_ok c hb
    obtain ⟨i1, h1, a, e1, p1, _, hal⟩ := any8_ok c (by omega) 0 h (by omega)
    obtain ⟨i2, h2, b, e2, p2, _, hbl⟩ := any8_ok c (by omega) i1 h1 p1
    have ed : fDr (c, ()) = some (a, b, ()) := by
      unfold fDr F19
      simp only [e, e1, e2, Option.bind_some]
    obtain ⟨m, g1, g2, gm⟩ := F21_F37 a b (by omega) (by omega)
    obtain ⟨m', g3, g4, gm'⟩ := F21_F37 b a (by omega) (by omega)
    obtain ⟨m'', g5, g6, gm''⟩ := F21_F37 a a (by omega) (by omega)
    simp only [ed, g2, g1, Option.bind_some, decide_true, Bool.not_true, cond_false, F22_is a (by omega), F22_is b (by omega)]
    by_cases ta : isTr a = true
    · rw [ta]
      simp only [Bool.not_true, Bool.not_false, cond_true]
      by_cases tb : isTr b = true
      · rw [tb]
        rw [if_pos ⟨ta, tb⟩] at gm
        rw [if_pos ⟨tb, ta⟩, higher_comm] at gm'
        rw [if_pos ⟨ta, ta⟩, higher_self] at gm''
        subst gm; subst gm'
        rw [gm''] at g6
        obtain ⟨sa, ra⟩ := isTr_spec a ta
        obtain ⟨sb, rb⟩ := isTr_spec b tb
        have hlen := higher_len a b
        have ht : isTr (higher a b) = true := isTr_of _ (by omega) fun x hx => by
          rcases higher_mem a b x hx with h | h
          · exact ra x h
          · exact rb x h
        have hmx : Int.ofNat (higher a b).length = mx (Int.ofNat a.length) (Int.ofNat b.length) := by
          rw [mx_eq, hlen]; simp only [Int.ofNat_eq_natCast]; split <;> omega
        simp only [g4, g6, Option.bind_some, Bool.not_true, Bool.not_false, cond_true, cond_false, ints_eq (higher a b) (by omega), ints_eq a (by omega), hmx, decide_true]
        obtain ⟨t, ⟨_, rfl⟩, e⟩ := iterF_all (f := s4_0 F13 fDr fH fHs fK F17 fC) (K := fun t42 => (fC (t42.2.2.1, 12, ())).bind fun x43 => (fC (t42.1, 12, ())).bind fun x44 => (fC (t42.2.1, 12, ())).bind fun x45 => (fH (x44.1, x45.1, ())).bind fun x46 => (F17 (x43.1, x46.1, ())).bind fun x47 => some (x47.1, ()))
          (t := (a, b, higher a b, 0, ())) (higher a b).length (fun i t => True ∧ t = (a, b, higher a b, (i : Int), ())) (by omega) ⟨trivial, rfl⟩
          (by
            rintro i _ hi ⟨_, rfl⟩
            exact ⟨_, ⟨trivial, rfl⟩, fun rec K => loop4 a b sa sb i hi rec K⟩)
          (by
            rintro _ ⟨_, rfl⟩ rec K
            simp only [s4_0]
            rw [cond_false_dec (by simp)])
        refine e.trans ?_
        have cut : ∀ l : List Int, isTr l = true → isTr (l.map fun x => mn x 12) = true := fun l hl => by
          obtain ⟨q1, q2⟩ := isTr_spec l hl
          refine isTr_of _ (by simpa using q1) fun x hx => ?_
          simp only [List.mem_map] at hx
          obtain ⟨y, hy, rfl⟩ := hx
          have := q2 y hy
          rw [mn_eq]; split <;> omega
        obtain ⟨m3, g7, g8, gm3⟩ := F21_F37 (a.map fun x => mn x 12) (b.map fun x => mn x 12) (by simp; omega) (by simp; omega)
        rw [if_pos ⟨cut a ta, cut b tb⟩, higher_map (fun x => mn x 12) (fun x y => by
          simp only [mx_eq, mn_eq]
          repeat' split
          all_goals omega)] at gm3
        subst gm3
        have k1 : fC (higher a b, 12, ()) = _ := F23_eq (higher a b) (by omega) 12 (by omega) ht
        have k2 : fC (a, 12, ()) = _ := F23_eq a (by omega) 12 (by omega) ta
        have k3 : fC (b, 12, ()) = _ := F23_eq b (by omega) 12 (by omega) tb
        simp only [k1, k2, k3, g8, Option.bind_some]
        rw [ints_eq _ (by simp; omega)]
        rfl
      · have tb' : isTr b = false := by simpa using tb
        rw [if_neg (by simp [tb'])] at gm
        subst gm
        rw [tb']
        rfl
    · have ta' : isTr a = false := by simpa using ta
      rw [if_neg (by simp [ta'])] at gm
      subst gm
      rw [ta']
      rfl
  · rw [cond_true_dec (by simp; omega)]
theorem ok4' : OK Proofs.Try.prog 4 (mkE p4 r4 false (F4 F13 fDr fH fHs fK F17 fC)) :=
  have kB := ok75 ok137
  have kI := ok136 kB
  have kT := ok70 kB kI (ok80 kB)
  have kA := ok74 kT kB (ok76 kI) kI
  have kK := ok22 ok72
  ok4 ok13 (ok19 ok71 kA) (ok20 kK ok77) (ok21 (ok78 ok119) ok79) kK ok17 (ok23 kK)
end Ev
namespace Go.Proofs.Ytlifghlhbfjdmaa.fnHigher
open Go.ChangeShapes Go.WideShapes Go.ChangeAt Go.RowKit
open Go.ChangeMaps (open_string shut_string)
theorem own : ownKnob Try.prog.godebug = none := by kernel_rfl
theorem laidOut : laidOutB Try.prog = true := by kernel_rfl
theorem lifted (os : Os) (started : os.Started) (H : Type) (enc : TypeId × Value → H) :
    ReturnsInHanded {} Try.checked os 4 .any (Rows.fnHigherSpec.pre6 enc Try.prog Try.f4 Rows.fnHigherRow.domain false) (Rows.fnHigherSpec.post enc Try.prog Try.f4 false true false false) := by
  refine returnsInHanded_of_change_sized (C := Try.checked) own started (by kernel_rfl) Try.func4
    (ChangeSpec.witness6 (enc := enc) (C := Try.checked) false ⟨#[], #[.slice none 0 0], []⟩ 8 (by kernel_rfl) (by kernel_rfl) (by kernel_rfl) (by kernel_rfl)) ?_
  intro W base args ds gs before hval0 hW hcnd hsz0 _
  have hval : ∀ (j : Nat) t v, Try.f4.params[j]? = some t → args[j]? = some v → Value.okWide Try.prog W .any base t v := hval0
  have hW' := hW
  obtain ⟨p, q, hA0, hV, rfl, hfz, hnd⟩ := hW
  have hA : DataW.TrodAll enc Try.prog W 0 (fun _ => true) true Try.f4.params.toList args.toList ds p := hA0
  rw [Try.params4] at hA hval
  obtain ⟨v0, vs0, d0, ds0, p0, q0, hargs, rfl, rfl, h0, r0⟩ := trodAll_cons hA
  obtain ⟨rfl, rfl, rfl⟩ := trodAll_nil r0
  obtain rfl : args = #[v0] := by cases args; simp_all
  obtain ⟨rfl, rfl⟩ := trodVars_none hV
  obtain ⟨a0, len0, cap0, rfl⟩ := okWide_slice Try.underlying22 (hval 0 22 v0 rfl rfl)
  have k0 := h0
  have lt0 : ∀ x ∈ p0, x.block < W.heap.size := by obtain ⟨m, hm⟩ := k0; exact DataW.trod_lt m _ _ _ hm
  obtain ⟨zs0, hrel0, wf0, ml0⟩ : ∃ l : List (Ev.Ty.den .u8), Ev.RelA (fun _ => none) (fun b => b < W.heap.size) W (.lst .u8 l) (.slice a0 len0 cap0) ∧ (∀ d ∈ l, Ev.Wf .u8 d) ∧ l.length ≤ maxLen := by
    obtain ⟨fuel, hf⟩ := h0
    exact Ev.open_rows (l := [(5, .u8)]) (by kernel_rfl) (by kernel_rfl) hf
  clear hA0 hval0 hsz0
  refine (Ev.calls_true (av := [.lst .u8 zs0]) (out := []) Ev.ok4' (by
    exact Ev.sem_of (ps := Ev.p4) (rs := Ev.r4) (a := (zs0, ())) rfl (Ev.F4_eq zs0 (And.intro wf0 ml0))) (w := W) (ca := #[.slice a0 len0 cap0]) rfl (Ev.args_arr (Ev.argsS (hrel0) Ev.args0))).mono fun e W' ⟨he, bel⟩ => ?_
  subst he
  exact ⟨_, rfl, _, _, _, [], _, [], hW', trodAll_mk1 (shut_bool Try.underlying4 _), (trodAll_cons_mk (Below.trod laidOut (by kernel_rfl) (of_decide_eq_true (by kernel_rfl)) k0 bel lt0) trodAll_mk0), rfl, bel.frame _, fun h => by cases h⟩
theorem over : Rows.fnHigherRow.holds Try.pinned (OpenSpec.ofChange Rows.fnHigherSpec) :=
  OpenClaim.holds_of_wide 4 Try.f4 rfl rfl rfl rfl rfl rfl rfl ⟨rfl, rfl, rfl, rfl, rfl⟩ rfl rfl rfl rfl rfl (by kernel_rfl) Try.func4 (by kernel_rfl)
    (of_decide_eq_true (by kernel_rfl)) (by unfold Func.isWrapper; first | (rw [if_pos (by decide +kernel)]; kernel_rfl) | (rw [if_neg (by decide +kernel)]; exact ⟨rfl, rfl⟩))
    (fun os started H enc _ => lifted os started H enc)
theorem proved : Rows.FnHigherSaid := over
#print axioms proved
end Go.Proofs.Ytlifghlhbfjdmaa.fnHigher
