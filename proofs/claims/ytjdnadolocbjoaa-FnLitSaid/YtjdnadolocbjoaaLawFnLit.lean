/- A lamp is lit exactly while its nozzle throws: on no condition. -/
import Derived.Test.YtjdnadolocbjoaaRows
import Derived.Test.YtjdnadolocbjoaaDrawA
import Derived.Test.YtjdnadolocbjoaaPureA
import Derived.WalkKit
import Derived.ProofKit
import Derived.OpenShut
import Derived.ShutString
import Derived.ChangeOld
import Derived.Below
import Derived.SizedLaws
set_option linter.unusedVariables false
set_option linter.unusedSimpArgs false
set_option maxRecDepth 100000
namespace Ev
open Go
theorem has_is {l : List Str} (hl : l.length ≤ 1048576) (x : Str) : G38 (l, x, ()) = some (decide (x ∈ l), ()) := by
  unfold G38 F38
  dsimp only
  have := iterF_chk (f := s38_0) (K := fun t3 => some (false, ())) (fun i => (l, x, (i : Int), ())) (fun i => match l[i]? with | some d => !decide (d = x) | none => true) (some (true, ())) l.length (by omega)
    (by
      intro i hi rec K
      have hx : l[i]? = some l[i] := by simp
      have e1 : w64 ((i : Int) + 1) = ((i + 1 : Nat) : Int) := w64_id (by omega) (by omega)
      simp only [s38_0]
      rw [cond_true_dec (by simp; omega), rdL_at hx, e1, hx]
      simp only
      cases decide (l[i] = x) <;> rfl)
    (by
      intro rec K
      simp only [s38_0]
      rw [cond_false_dec (by simp)])
  refine this.trans ?_
  by_cases h : x ∈ l
  · obtain ⟨i, hi⟩ := List.mem_iff_getElem?.mp h
    have : (List.range l.length).all (fun i => match l[i]? with | some d => !decide (d = x) | none => true) = false := by
      rw [← Bool.not_eq_true, List.all_eq_true]
      intro hall
      have := hall i (by simpa using (List.getElem?_eq_some_iff.mp hi).1)
      rw [hi] at this
      simp at this
    rw [this, decide_eq_true h]; rfl
  · have : (List.range l.length).all (fun i => match l[i]? with | some d => !decide (d = x) | none => true) = true := by
      rw [List.all_eq_true]
      intro i hi
      have hi : i < l.length := by simpa using hi
      have hx : l[i]? = some l[i] := by simp
      rw [hx]
      simp only [Bool.not_eq_true', decide_eq_false_iff_not]
      exact fun e => h (by rw [← e]; simp)
    rw [this, decide_eq_false h]; rfl
theorem lit_fold (s : ShowT) (t : Int) : ∀ (l : List Device) (a : List Str) (x : Str), x ∈ l.foldl (litF s t) a ↔ x ∈ a ∨ ∃ d ∈ l, lit1 s t d = true ∧ d.Name = x
  | [], a, x => by simp
  | d :: l, a, x => by
    rw [List.foldl_cons, lit_fold s t l]
    unfold litF
    cases hd : lit1 s t d
    · rw [if_neg (by simp)]
      simp [hd]
    · rw [if_pos rfl]
      simp only [List.mem_append, List.mem_cons, List.not_mem_nil, or_false]
      constructor
      · rintro ((h | h) | ⟨e, he, h1, h2⟩)
        · exact .inl h
        · exact .inr ⟨d, .inl rfl, hd, h.symm⟩
        · exact .inr ⟨e, .inr he, h1, h2⟩
      · rintro (h | ⟨e, rfl | he, h1, h2⟩)
        · exact .inl (.inl h)
        · exact .inl (.inr h2.symm)
        · exact .inr ⟨e, he, h1, h2⟩
theorem lit_dev {s : ShowT} (h : ShowV s) {t : Int} {d : Device} (hd : d ∈ s.1) : decide (d.Name ∈ s.1.foldl (litF s t) []) = lit1 s t d := by
  rw [Bool.eq_iff_iff, decide_eq_true_eq, lit_fold]
  constructor
  · rintro (h0 | ⟨e, he, h1, h2⟩)
    · cases h0
    · obtain ⟨i, hi⟩ := List.mem_iff_getElem?.mp hd
      obtain ⟨j, hj⟩ := List.mem_iff_getElem?.mp he
      have := rig_uniq h.rig hi hj h2.symm
      subst this
      rw [hi] at hj; cases hj
      exact h1
  · exact fun h1 => .inr ⟨d, hd, h1, rfl⟩
theorem litJ {s : ShowT} (h : ShowV s) {t : Int} {d : Device} (hd : d ∈ s.1) (hk : d.Kind = 3) : lit1 s t d = (jetV s d.Line t).isSome := by
  obtain ⟨k, x, e, hx, _, hkx⟩ := rig_line h.rig hd (by omega)
  have hkl : k < s.1.length := (List.getElem?_eq_some_iff.mp hx).1
  have hy : (liftsL s t)[k]? = some ((liftsL s t)[k]'(by rw [liftsL_len]; exact hkl)) := by simp
  generalize (liftsL s t)[k]'(by rw [liftsL_len]; exact hkl) = y at hy
  have hat := liftsL_at h t hy hx
  unfold lit1 jetV
  rw [decide_eq_true hk, e, if_neg (by omega), Int.toNat_natCast, hx, hy]
  simp only [Bool.true_and, Option.getD_some]
  by_cases h0 : y = 0
  · rw [if_neg (by simp [h0]), h0]; rfl
  · rw [if_pos ⟨by omega, h0⟩, decide_eq_true (by omega)]; rfl
theorem G7_eq (b : List Int) (hw : (∀ d ∈ b, Wf .u8 d) ∧ b.length ≤ maxLen) : G7 (b, ()) = some (true, ()) := by
  unfold G7 F7 G10 F10
  simp only [Option.bind_some]
  by_cases hb : b.length ≤ 4096
  · rw [cond_false_dec (by simp; omega)]
    obtain ⟨⟨s, t, u⟩, e, hv, h1, ht0, ht1⟩ := drawShow_w hb
    have hv : ShowV s := hv
    have h1 : 1 ≤ s.1.length := h1
    have ht0 : 0 ≤ t := ht0
    have ht1 : t < 30 := ht1
    rw [e]
    simp only [Option.bind_some, es_show]
    have hlen := hv.rig.len
    obtain ⟨L, g1, g2, g3⟩ := litV_ok hv t
    rw [g1, g2]
    simp only [Option.bind_some, decide_true, Bool.not_true, cond_false]
    have hll := lit_len s t s.1 []
    simp only [List.length_nil] at hll
    refine iterF_for (f := s7_0 G10 G26 G35 G36 G37 G38) (K := fun t13 => some (true, ())) (fun i => (s, t, L, (i : Int), ())) s.1.length (by omega) ?_ ?_
    · intro i hi rec K
      have hx : s.1[i]? = some s.1[i] := by simp
      have hx' := fun (K : Device → Option (Bool × Unit)) => rdL_at (K := K) hx
      have e1 : w64 ((i : Int) + 1) = ((i + 1 : Nat) : Int) := w64_id (by omega) (by omega)
      have hm : s.1[i] ∈ s.1 := by simp
      simp only [s7_0, es_show]
      rw [cond_true_dec (by simp; omega)]
      simp only [hx', hx, Int.toNat_natCast, Option.bind_some, e1, jetAtI_is hv]
      rw [has_is (by rw [g3]; omega)]
      simp only [Option.bind_some]
      rw [g3, lit_dev hv hm]
      by_cases k3 : s.1[i].Kind = 3
      · rw [cond_true_dec k3, litJ hv hm k3]
        simp
      · rw [cond_false_dec k3]
        have : lit1 s t s.1[i] = false := by unfold lit1; rw [decide_eq_false k3]; rfl
        rw [this]; simp
    · intro rec K
      simp only [s7_0, es_show]
      rw [cond_false_dec (by simp)]
  · rw [cond_true_dec (by simp; omega)]
end Ev
namespace Go.Proofs.Ytjdnadolocbjoaa.fnLit
open Go.ChangeShapes Go.WideShapes Go.ChangeAt Go.RowKit
open Go.ChangeMaps (open_string shut_string)
theorem own : ownKnob Try.prog.godebug = none := by kernel_rfl
theorem laidOut : laidOutB Try.prog = true := by kernel_rfl
theorem lifted (os : Os) (started : os.Started) (H : Type) (enc : TypeId × Value → H) :
    ReturnsInHanded {} Try.checked os 7 .any (Rows.fnLitSpec.pre6 enc Try.prog Try.f7 Rows.fnLitRow.domain false) (Rows.fnLitSpec.post enc Try.prog Try.f7 false true false false) := by
  refine returnsInHanded_of_change_sized (C := Try.checked) own started (by kernel_rfl) Try.func7
    (ChangeSpec.witness6 (enc := enc) (C := Try.checked) false ⟨#[], #[.slice none 0 0], []⟩ 8 (by kernel_rfl) (by kernel_rfl) (by kernel_rfl) (by kernel_rfl)) ?_
  intro W base args ds gs before hval0 hW hcnd hsz0 _
  have hval : ∀ (j : Nat) t v, Try.f7.params[j]? = some t → args[j]? = some v → Value.okWide Try.prog W .any base t v := hval0
  have hW' := hW
  obtain ⟨p, q, hA0, hV, rfl, hfz, hnd⟩ := hW
  have hA : DataW.TrodAll enc Try.prog W 0 (fun _ => true) true Try.f7.params.toList args.toList ds p := hA0
  rw [Try.params7] at hA hval
  obtain ⟨v0, vs0, d0, ds0, p0, q0, hargs, rfl, rfl, h0, r0⟩ := trodAll_cons hA
  obtain ⟨rfl, rfl, rfl⟩ := trodAll_nil r0
  obtain rfl : args = #[v0] := by cases args; simp_all
  obtain ⟨rfl, rfl⟩ := trodVars_none hV
  obtain ⟨a0, len0, cap0, rfl⟩ := okWide_slice Try.underlying22 (hval 0 22 v0 rfl rfl)
  have k0 := h0
  have lt0 : ∀ x ∈ p0, x.block < W.heap.size := by obtain ⟨m, hm⟩ := k0; exact DataW.trod_lt m _ _ _ hm
  obtain ⟨zs0, hrel0, wf0, ml0⟩ : ∃ l : List (Ev.Ty.den .u8), Ev.RelA (fun _ => none) (fun b => b < W.heap.size) W (.lst .u8 l) (.slice a0 len0 cap0) ∧ (∀ d ∈ l, Ev.Wf .u8 d) ∧ l.length ≤ maxLen := by
    obtain ⟨fuel, hf⟩ := h0
    exact Ev.open_rows (l := [(5, .u8)]) (by kernel_rfl) (by kernel_rfl) hf
  clear hA0 hval0 hsz0
  refine (Ev.calls_true (av := [.lst .u8 zs0]) (out := []) Ev.okG7 (by
    exact Ev.sem_of (ps := Ev.p7) (rs := Ev.r7) (a := (zs0, ())) rfl (Ev.G7_eq zs0 (And.intro wf0 ml0))) (w := W) (ca := #[.slice a0 len0 cap0]) rfl (Ev.args_arr (Ev.argsS (hrel0) Ev.args0))).mono fun e W' ⟨he, bel⟩ => ?_
  subst he
  exact ⟨_, rfl, _, _, _, [], _, [], hW', trodAll_mk1 (shut_bool Try.underlying4 _), (trodAll_cons_mk (Below.trod laidOut (by kernel_rfl) (of_decide_eq_true (by kernel_rfl)) k0 bel lt0) trodAll_mk0), rfl, bel.frame _, fun h => by cases h⟩
theorem over : Rows.fnLitRow.holds Try.pinned (OpenSpec.ofChange Rows.fnLitSpec) :=
  OpenClaim.holds_of_wide 7 Try.f7 rfl rfl rfl rfl rfl rfl rfl ⟨rfl, rfl, rfl, rfl, rfl⟩ rfl rfl rfl rfl rfl (by kernel_rfl) Try.func7 (by kernel_rfl)
    (of_decide_eq_true (by kernel_rfl)) (by unfold Func.isWrapper; first | (rw [if_pos (by decide +kernel)]; kernel_rfl) | (rw [if_neg (by decide +kernel)]; exact ⟨rfl, rfl⟩))
    (fun os started H enc _ => lifted os started H enc)
theorem proved : Rows.FnLitSaid := over
#print axioms proved
end Go.Proofs.Ytjdnadolocbjoaa.fnLit
