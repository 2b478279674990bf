/- A track in blocks is the track again; there are no more blocks than it takes: on no condition. -/
import Derived.Test.YtmnahocockdpcaaRows
import Derived.Test.YtmnahocockdpcaaBlocks
import Derived.Test.YtmnahocockdpcaaDraw
import Derived.Test.YtmnahocockdpcaaOpen
import Derived.Test.YtmnahocockdpcaaRow
import Derived.WalkKit
import Derived.ProofKit
import Derived.OpenShut
import Derived.ShutString
import Derived.ChangeOld
import Derived.Below
import Derived.SizedLaws
set_option linter.unusedVariables false
set_option maxRecDepth 100000
namespace Ev
open Go
theorem ints_eq (l : List Int) (hl : l.length ≤ 1048576) : F33 (l, l, ()) = some (true, ()) := by
  unfold F33
  simp only [decide_true, Bool.not_true, cond_false]
  obtain ⟨t, ⟨_, rfl⟩, e⟩ := iterF_all (f := s33_0) (K := fun _ => some (true, ())) (t := (l, l, 0, ())) l.length
    (fun i t => True ∧ t = (l, l, (i : Int), ())) (by omega) ⟨trivial, rfl⟩
    (by
      rintro i _ hi ⟨_, rfl⟩
      have hx : l[i]? = some l[i] := by simp
      refine ⟨_, ⟨trivial, rfl⟩, fun rec K => ?_⟩
      simp only [s33_0]
      rw [cond_dec, if_pos (by simp; omega), rdL_at hx, rdL_at hx, w64_id (by omega) (by omega)]
      simp)
    (by
      rintro _ ⟨_, rfl⟩ rec K
      simp only [s33_0]
      rw [cond_dec, if_neg (by simp)])
  exact e
theorem bat_fill (g : Nat → Int) (k : Nat) (h : k < 8) : bat (fill zb g 8) k = g k := by
  rcases k8 h with rfl | rfl | rfl | rfl | rfl | rfl | rfl | rfl <;> rfl
theorem atB_blocks (l : List Int) (i : Nat) (h : i < 8 * ((l.length + 7) / 8)) : atB (blocks l) i = lastAt l i := by
  have hb : (blocks l).getD (i / 8) zb = blk l (i / 8) := by
    rw [List.getD_eq_getElem?_getD]
    unfold blocks
    rw [List.getElem?_map, List.getElem?_range (by omega)]
    rfl
  unfold atB
  rw [hb]
  unfold blk
  rw [bat_fill _ _ (by omega)]
  congr 1
  omega
theorem lastAt_lt (l : List Int) (i : Nat) (h : i < l.length) : lastAt l i = l[i] := by
  unfold lastAt
  rw [show min i (l.length - 1) = i by omega, List.getD_eq_getElem?_getD, List.getElem?_eq_getElem h]; rfl
theorem lastAt_mem (l : List Int) (i : Nat) (h : 0 < l.length) : lastAt l i ∈ l := by
  have := lastAt_at h i
  exact List.mem_of_getElem? this
theorem map_l (l : List Int) : (List.range l.length).map (atB (blocks l)) = l := by
  refine List.ext_getElem? fun i => ?_
  rw [List.getElem?_map]
  by_cases hi : i < l.length
  · rw [List.getElem?_range hi, Option.map_some, atB_blocks l i (by omega), lastAt_lt l i hi, List.getElem?_eq_getElem hi]
  · rw [List.getElem?_eq_none (by simp; omega), List.getElem?_eq_none (by omega)]; rfl
theorem F8_eq (b : List Int) (hw : (∀ d ∈ b, Wf .u8 d) ∧ b.length ≤ maxLen) :
    F8 F29 (F30 F62 fT) (F31 (F17 F55)) (F32 (F17 F55)) F33 (b, ()) = some (true, ()) := by
  unfold F8
  simp only [F29, Option.bind_some]
  by_cases hb : b.length ≤ 4096
  · rw [cond_false_dec (by simp; omega)]
    obtain ⟨l, e1, ht, hl⟩ := track_ok b hb
    have hB := blocks_len l
    have htl : l.all inR = true := by simp only [isTr, Bool.and_eq_true] at ht; exact ht.1
    generalize hm : (l.length + 7) / 8 = m at hB
    have t2 : isTr ((List.range (8 * m)).map (atB (blocks l))) = true := by
      simp only [isTr, Bool.and_eq_true, decide_eq_true_eq]
      refine ⟨List.all_eq_true.mpr fun x hx => ?_, by simp; omega⟩
      simp only [List.mem_map, List.mem_range] at hx
      obtain ⟨i, hi, rfl⟩ := hx
      rw [atB_blocks l i (by omega)]
      exact List.all_eq_true.mp htl _ (lastAt_mem l i (by omega))
    have f1 : F32 (F17 F55) (blocks l, Int.ofNat l.length, ()) = some (l, true, ()) := by
      rw [F32_eq _ (by omega) _ (by simp <;> omega) (by simp <;> omega)]
      have : (Int.ofNat l.length).toNat = l.length := rfl
      rw [this, map_l, if_pos ⟨by simp, by simp <;> omega, ht⟩]
    have e8 : w64 (8 * (m : Int)) = 8 * (m : Int) := w64_id (by omega) (by omega)
    have f2 : F32 (F17 F55) (blocks l, 8 * (m : Int), ()) = some ((List.range (8 * m)).map (atB (blocks l)), true, ()) := by
      rw [F32_eq _ (by omega) _ (by omega) (by omega)]
      have : (8 * (m : Int)).toNat = 8 * m := by omega
      rw [this, if_pos ⟨by omega, by omega, t2⟩]
    have f3 : F32 (F17 F55) (blocks l, 8 * (m : Int) + 1, ()) = some ([], false, ()) := by
      rw [F32_eq _ (by omega) _ (by omega) (by omega), if_neg (by omega)]
    have e9 : w64 (8 * (m : Int) + 1) = 8 * (m : Int) + 1 := w64_id (by omega) (by omega)
    have e7 : w64 (Int.tdiv (w64 (w64 (Int.ofNat l.length + 8) - 1)) 8) = (m : Int) := by
      rw [w64_id (n := Int.ofNat l.length + 8) (by simp; omega) (by simp; omega), w64_id (n := Int.ofNat l.length + 8 - 1) (by simp; omega) (by simp; omega),
        show Int.ofNat l.length + 8 - 1 = ((l.length + 7 : Nat) : Int) by simp; omega, show Int.tdiv ((l.length + 7 : Nat) : Int) 8 = (((l.length + 7) / 8 : Nat) : Int) from rfl, hm]
      exact w64_id (by omega) (by omega)
    have hB' : Int.ofNat (blocks l).length = (m : Int) := by rw [hB]; rfl
    simp only [e1, F31_eq l (by omega), if_pos ht, f1, ints_eq l (by omega), e7, e8, e9, f2, f3, hB', Option.bind_some, decide_true, Bool.not_true, Bool.not_false, cond_true, cond_false]
    generalize hy : (List.range (8 * m)).map (atB (blocks l)) = y
    have hyl : y.length = 8 * m := by rw [← hy]; simp
    rcases iterF_rule (f := s8_0 F29 (F30 F62 fT) (F31 (F17 F55)) (F32 (F17 F55)) F33)
      (K := fun t11 => cond t11.2.2.1 (some ((!t11.2.2.2.1), ())) (some (false, ()))) (t := (l, y, true, false, Int.ofNat l.length, ())) (8 * m - l.length)
      (fun i t => t = (l, y, true, false, ((l.length + i : Nat) : Int), ())) (fun _ => False) (fun t => t.2.2.1 = true ∧ t.2.2.2.1 = false) (by omega) (by simp)
      (by
        rintro i _ hi rfl
        have hi2 : l.length + i < 8 * m := by omega
        have hp : 0 < l.length := by omega
        have hx : y[l.length + i]? = some (lastAt l (l.length + i)) := by
          rw [← hy, List.getElem?_map, List.getElem?_range hi2, Option.map_some, atB_blocks l _ (by omega)]
        have hz : l[l.length - 1]? = some (lastAt l (l.length + i)) := by
          have := lastAt_at hp (l.length + i)
          rwa [show min (l.length + i) (l.length - 1) = l.length - 1 by omega] at this
        have hw' : w64 (Int.ofNat l.length - 1) = ((l.length - 1 : Nat) : Int) := by rw [w64_id (by simp; omega) (by simp; omega)]; simp; omega
        refine .inl ⟨_, rfl, fun rec K => ?_⟩
        simp only [s8_0, cond_true]
        rw [cond_true_dec (by simp; omega), rdL_at hx]
        simp only [Int.toNat_natCast, hx, Option.bind_some]
        rw [hw', rdL_at hz]
        simp only [Int.toNat_natCast, hx, hz, Option.bind_some, decide_true, Bool.not_true, cond_false]
        rw [w64_id (by omega) (by omega)]
        rfl)
      (by
        rintro _ rfl
        refine .inr ⟨(l, y, true, false, ((l.length + (8 * m - l.length) : Nat) : Int), ()), ⟨rfl, rfl⟩, fun rec K => ?_⟩
        simp only [s8_0, cond_true]
        rw [cond_false_dec (by simp; omega)]) with ⟨r, h, _⟩ | ⟨t, ⟨h1, h2⟩, e⟩
    · exact h.elim
    · refine e.trans ?_
      simp only [h1, h2]; rfl
  · rw [cond_true_dec (by simp; omega)]
theorem ok8' : OK Proofs.Try.prog 8 (mkE p8 r8 false (F8 F29 (F30 F62 fT) (F31 (F17 F55)) (F32 (F17 F55)) F33)) :=
  have kB := ok68 ok72
  have kI := ok69 kB
  have kT := ok61 kB kI (ok70 kB)
  ok8 ok29 (ok30 ok62 kT) (ok31 (ok17 ok55)) (ok32 (ok17 ok55)) ok33
end Ev
namespace Go.Proofs.Ytmnahocockdpcaa.fnBlocks
open Go.ChangeShapes Go.WideShapes Go.ChangeAt Go.RowKit
open Go.ChangeMaps (open_string shut_string)
theorem own : ownKnob Try.prog.godebug = none := by kernel_rfl
theorem laidOut : laidOutB Try.prog = true := by kernel_rfl
theorem lifted (os : Os) (started : os.Started) (H : Type) (enc : TypeId × Value → H) :
    ReturnsInHanded {} Try.checked os 8 .any (Rows.fnBlocksSpec.pre6 enc Try.prog Try.f8 Rows.fnBlocksRow.domain false) (Rows.fnBlocksSpec.post enc Try.prog Try.f8 false true false false) := by
  refine returnsInHanded_of_change_sized (C := Try.checked) own started (by kernel_rfl) Try.func8
    (ChangeSpec.witness6 (enc := enc) (C := Try.checked) false ⟨#[], #[.slice none 0 0], []⟩ 8 (by kernel_rfl) (by kernel_rfl) (by kernel_rfl) (by kernel_rfl)) ?_
  intro W base args ds gs before hval0 hW hcnd hsz0 _
  have hval : ∀ (j : Nat) t v, Try.f8.params[j]? = some t → args[j]? = some v → Value.okWide Try.prog W .any base t v := hval0
  have hW' := hW
  obtain ⟨p, q, hA0, hV, rfl, hfz, hnd⟩ := hW
  have hA : DataW.TrodAll enc Try.prog W 0 (fun _ => true) true Try.f8.params.toList args.toList ds p := hA0
  rw [Try.params8] at hA hval
  obtain ⟨v0, vs0, d0, ds0, p0, q0, hargs, rfl, rfl, h0, r0⟩ := trodAll_cons hA
  obtain ⟨rfl, rfl, rfl⟩ := trodAll_nil r0
  obtain rfl : args = #[v0] := by cases args; simp_all
  obtain ⟨rfl, rfl⟩ := trodVars_none hV
  obtain ⟨a0, len0, cap0, rfl⟩ := okWide_slice Try.underlying33 (hval 0 33 v0 rfl rfl)
  have k0 := h0
  have lt0 : ∀ x ∈ p0, x.block < W.heap.size := by obtain ⟨m, hm⟩ := k0; exact DataW.trod_lt m _ _ _ hm
  obtain ⟨zs0, hrel0, wf0, ml0⟩ : ∃ l : List (Ev.Ty.den .u8), Ev.RelA (fun _ => none) (fun b => b < W.heap.size) W (.lst .u8 l) (.slice a0 len0 cap0) ∧ (∀ d ∈ l, Ev.Wf .u8 d) ∧ l.length ≤ maxLen := by
    obtain ⟨fuel, hf⟩ := h0
    exact Ev.open_rows (l := [(5, .u8)]) (by kernel_rfl) (by kernel_rfl) hf
  clear hA0 hval0 hsz0
  refine (Ev.calls_true (av := [.lst .u8 zs0]) (out := []) Ev.ok8' (by
    exact Ev.sem_of (ps := Ev.p8) (rs := Ev.r8) (a := (zs0, ())) rfl (Ev.F8_eq zs0 (And.intro wf0 ml0))) (w := W) (ca := #[.slice a0 len0 cap0]) rfl (Ev.args_arr (Ev.argsS (hrel0) Ev.args0))).mono fun e W' ⟨he, bel⟩ => ?_
  subst he
  exact ⟨_, rfl, _, _, _, [], _, [], hW', trodAll_mk1 (shut_bool Try.underlying4 _), (trodAll_cons_mk (Below.trod laidOut (by kernel_rfl) (of_decide_eq_true (by kernel_rfl)) k0 bel lt0) trodAll_mk0), rfl, bel.frame _, fun h => by cases h⟩
theorem over : Rows.fnBlocksRow.holds Try.pinned (OpenSpec.ofChange Rows.fnBlocksSpec) :=
  OpenClaim.holds_of_wide 8 Try.f8 rfl rfl rfl rfl rfl rfl rfl ⟨rfl, rfl, rfl, rfl, rfl⟩ rfl rfl rfl rfl rfl (by kernel_rfl) Try.func8 (by kernel_rfl)
    (of_decide_eq_true (by kernel_rfl)) (by unfold Func.isWrapper; first | (rw [if_pos (by decide +kernel)]; kernel_rfl) | (rw [if_neg (by decide +kernel)]; exact ⟨rfl, rfl⟩))
    (fun os started H enc _ => lifted os started H enc)
theorem proved : Rows.FnBlocksSaid := over
#print axioms proved
end Go.Proofs.Ytmnahocockdpcaa.fnBlocks
