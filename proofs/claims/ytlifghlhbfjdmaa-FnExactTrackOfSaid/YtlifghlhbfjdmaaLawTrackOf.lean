/- The program's TrackOf returns what the reference's returns, for all arguments: on no condition. -/
import Derived.Test.YtlifghlhbfjdmaaRows
import Derived.Test.YtlifghlhbfjdmaaScore
import Derived.Test.YtlifghlhbfjdmaaFact3
import Derived.Test.YtlifghlhbfjdmaaOpen
import Derived.Test.YtlifghlhbfjdmaaRow
import Derived.WalkKit
import Derived.ProofKit
import Derived.OpenShut
import Derived.ShutString
import Derived.ChangeOld
import Derived.Below
import Derived.SizedLaws
set_option linter.unusedVariables false
set_option linter.unusedSimpArgs false
set_option maxRecDepth 100000
namespace Ev
open Go
/-! ### Lists of cues: sizes, copied, compared, marked -/
theorem szCues (l : List Cue) (hw : ∀ c ∈ l, c.Name.length ≤ 9223372036854775807) (hm : l.length ≤ 9223372036854775807) : ∃ x, F41 F97 (l, 1048576, ()) = some (x, ()) ∧ (0 ≤ x → l.length ≤ 1048576 ∧ NamesOK l) := by
  unfold F41
  have e0 : w64 (1048576 - Int.ofNat l.length) = 1048576 - (l.length : Int) := w64_id (by simp; omega) (by simp; omega)
  simp only [e0]
  by_cases hl : l.length ≤ 1048576
  · rw [cond_false_dec (by omega)]
    rcases iterF_rule (f := s41_0 F97) (K := fun t4 => some (t4.2.1, ())) (t := (l, 1048576 - (l.length : Int), 0, ())) l.length
      (fun i t => ∃ x, t = (l, x, (i : Int), ()) ∧ 0 ≤ x ∧ x ≤ 1048576 ∧ ∀ c ∈ l.take i, c.Name.length ≤ 1048576) (fun r => r = some (-1, ())) (fun t => NamesOK l) (by omega) ⟨_, rfl, by omega, by omega, by simp⟩
      (by
        rintro i _ hi ⟨x, rfl, x0, x1, hall⟩
        have hx : l[i]? = some l[i] := by simp
        have hb := hw l[i] (by simp)
        have e1 : w64 ((i : Int) + 1) = ((i + 1 : Nat) : Int) := w64_id (by omega) (by omega)
        have e2 : w64 (x - Int.ofNat l[i].Name.length) = x - (l[i].Name.length : Int) := w64_id (by simp; omega) (by simp; omega)
        by_cases c : x - (l[i].Name.length : Int) < 0
        · refine .inr (.inl ⟨_, rfl, fun rec K => ?_⟩)
          simp only [s41_0, F97]
          rw [cond_true_dec (by simp; omega), rdL_at hx]
          simp only [e2]
          rw [cond_true_dec c]
          rfl
        · refine .inl ⟨_, ⟨x - (l[i].Name.length : Int), rfl, by omega, by omega, fun c hc => ?_⟩, fun rec K => ?_⟩
          · rw [List.take_add_one, hx] at hc
            rcases List.mem_append.mp hc with h | h
            · exact hall c h
            · simp at h; subst h; omega
          · simp only [s41_0, F97]
            rw [cond_true_dec (by simp; omega), rdL_at hx]
            simp only [e2]
            rw [cond_false_dec c]
            simp only [Option.bind_some]
            rw [cond_false_dec c, e1])
      (by
        rintro _ ⟨x, rfl, x0, x1, hall⟩
        refine .inr ⟨(l, x, (l.length : Int), ()), fun c hc => hall c (by simpa using hc), fun rec K => ?_⟩
        simp only [s41_0]
        rw [cond_false_dec (by simp)]) with ⟨r, rfl, h⟩ | ⟨t, hn, h⟩
    · exact ⟨-1, h, fun h => by omega⟩
    · exact ⟨_, h, fun _ => ⟨hl, hn⟩⟩
  · rw [cond_true_dec (by omega)]
    exact ⟨-1, rfl, fun h => by omega⟩
theorem toCues (l : List Cue) (hl : l.length ≤ 1048576) : F43 F100 (l, ()) = some (l, ()) := by
  unfold F43
  rw [okIf_pos (by simp), capK_le (by simp; omega)]
  obtain ⟨t, ⟨m, rfl, h1, h2⟩, e⟩ := iterF_all (f := s43_0 F100) (K := fun t4 => some (t4.2.1, ())) (t := (l, List.replicate (Int.toNat (Int.ofNat l.length)) (Ty.zero .cue), 0, ())) l.length
    (fun i t => ∃ m : List Cue, t = (l, m, (i : Int), ()) ∧ m.length = l.length ∧ ∀ j, j < i → m[j]? = l[j]?) (by omega) ⟨_, rfl, by simp, fun j hj => by omega⟩
    (by
      rintro i _ hi ⟨m, rfl, h1, h2⟩
      have hx : l[i]? = some l[i] := by simp
      have hd : m[i]? = some m[i] := by simp
      refine ⟨_, ⟨m.set i l[i], rfl, by simp [h1], fun j hj => ?_⟩, fun rec K => ?_⟩
      · rw [List.getElem?_set]
        by_cases hji : i = j
        · subst hji; simp [h1, hi]
        · simp only [if_neg hji]; exact h2 j (by omega)
      · simp only [s43_0]
        rw [cond_dec, if_pos (by simp; omega), rdL_at hx]
        simp only [F100, Option.bind_some]
        rw [rdL_at hd]
        simp only [Int.toNat_natCast]
        rw [hd, w64_id (by omega) (by omega)]
        rfl)
    (by
      rintro _ ⟨m, rfl, h1, h2⟩ rec K
      simp only [s43_0]
      rw [cond_dec, if_neg (by simp)])
  have : m = l := List.ext_getElem? fun j => by
    by_cases hj : j < l.length
    · exact h2 j hj
    · rw [List.getElem?_eq_none (by omega), List.getElem?_eq_none (by omega)]
  subst this
  exact e
theorem eqCue_self (a : Cue) : F101 (a, a, ()) = some (true, ()) := by
  unfold F101; simp
theorem eqCues (l : List Cue) (hl : l.length ≤ 1048576) : F45 F101 (l, l, ()) = some (true, ()) := by
  unfold F45
  simp only [decide_true, Bool.not_true, cond_false]
  obtain ⟨t, ⟨_, rfl⟩, e⟩ := iterF_all (f := s45_0 F101) (K := fun _ => some (true, ())) (t := (l, l, 0, ())) l.length
    (fun i t => True ∧ t = (l, l, (i : Int), ())) (by omega) ⟨trivial, rfl⟩
    (by
      rintro i _ hi ⟨_, rfl⟩
      have hx : l[i]? = some l[i] := by simp
      refine ⟨_, ⟨trivial, rfl⟩, fun rec K => ?_⟩
      simp only [s45_0]
      rw [cond_true_dec (by simp <;> omega), rdL_at hx, rdL_at hx, eqCue_self, w64_id (by omega) (by omega)]
      rfl)
    (by
      rintro _ ⟨_, rfl⟩ rec K
      simp only [s45_0]
      rw [cond_false_dec (by simp)])
  exact e
theorem markText_some (n : Int) (h0 : 0 ≤ n) (h1 : n ≤ 1099511627) : ∃ s, F102 (n, ()) = some (s, ()) := by
  unfold F102
  by_cases hz : n ≤ 0
  · rw [cond_true_dec hz]; exact ⟨_, rfl⟩
  · rw [cond_false_dec hz]
    rcases iterF_rule (f := s102_0) (K := fun t2 => capK (List.length [109] + List.length t2.2.1) (some (([109] ++ t2.2.1), ()))) (t := (n, [], ())) n.toNat
      (fun i t => ∃ (k : Int) (s : Str), t = (k, s, ()) ∧ 0 ≤ k ∧ k + i ≤ n ∧ s.length ≤ i) (fun _ => False) (fun t => t.2.1.length ≤ n.toNat) (by omega) ⟨n, [], rfl, by omega, by omega, by simp⟩
      (by
        rintro i _ hi ⟨k, s, rfl, k0, k1, hs⟩
        by_cases hk : k > 0
        · have ed : Int.tdiv k 10 = k / 10 := Int.tdiv_eq_ediv_of_nonneg k0
          have e : w64 (Int.tdiv k 10) = Int.tdiv k 10 := w64_id (by omega) (by omega)
          refine .inl ⟨(Int.tdiv k 10, (List.map (fun n => UInt8.ofNat (Int.toNat n)) ([(IntKind.wrap .u8 (w64 (48 + (Int.tmod k 10))))] : List Int)) ++ s, ()), ⟨Int.tdiv k 10, _, rfl, by omega, by omega, by simp; omega⟩, fun rec K => ?_⟩
          simp only [s102_0]
          rw [cond_true_dec hk, capK_le (by simp; omega), e]
        · refine .inr (.inr ⟨(k, s, ()), by simp only; omega, fun rec K => ?_⟩)
          simp only [s102_0]
          rw [cond_false_dec hk])
      (by
        rintro _ ⟨k, s, rfl, k0, k1, hs⟩
        refine .inr ⟨(k, s, ()), by simp only; omega, fun rec K => ?_⟩
        simp only [s102_0]
        rw [cond_false_dec (by omega)]) with ⟨r, h, _⟩ | ⟨t, ht, h⟩
    · exact h.elim
    · rw [h, capK_le (by simp; omega)]
      exact ⟨_, rfl⟩
theorem markCues (l : List Cue) (hl : l.length ≤ 1048576) : ∃ m, F46 F102 (l, 1, ()) = some (m, 1 + 4 * (l.length : Int), ()) := by
  unfold F46
  obtain ⟨t, ⟨m, rfl, h1⟩, e⟩ := iterF_all (f := s46_0 F102) (K := fun t7 => some (t7.1, t7.2.1, ())) (t := (l, 1, 0, ())) l.length
    (fun i t => ∃ m : List Cue, t = (m, 1 + 4 * (i : Int), (i : Int), ()) ∧ m.length = l.length) (by omega) ⟨l, rfl, rfl⟩
    (by
      rintro i _ hi ⟨m, rfl, h1⟩
      have hd : m[i]? = some m[i] := by simp
      have hset : ∀ x : Cue, (m.set i x)[i]? = some x := fun x => by rw [List.getElem?_set]; simp [show i < m.length by omega]
      have hset' := fun (x : Cue) (K : Cue → Option (List Cue × Int × Unit)) => rdL_at (K := K) (hset x)
      have hd' := fun (K : Cue → Option (List Cue × Int × Unit)) => rdL_at (K := K) hd
      obtain ⟨s, hs⟩ := markText_some (1 + 4 * (i : Int) + 1) (by omega) (by omega)
      have e1 : w64 (1 + 4 * (i : Int) + 1) = 1 + 4 * (i : Int) + 1 := w64_id (by omega) (by omega)
      have e2 : w64 (1 + 4 * (i : Int) + 1 + 1) = 1 + 4 * (i : Int) + 1 + 1 := w64_id (by omega) (by omega)
      have e3 : w64 (1 + 4 * (i : Int) + 1 + 1 + 1) = 1 + 4 * (i : Int) + 1 + 1 + 1 := w64_id (by omega) (by omega)
      have e4 : w64 (1 + 4 * (i : Int) + 1 + 1 + 1 + 1) = 1 + 4 * ((i + 1 : Nat) : Int) := by rw [w64_id (by omega) (by omega)]; omega
      have e5 : w64 ((i : Int) + 1) = ((i + 1 : Nat) : Int) := w64_id (by omega) (by omega)
      refine ⟨(m.set i ⟨1 + 4 * (i : Int), s, 1 + 4 * (i : Int) + 1 + 1, 1 + 4 * (i : Int) + 1 + 1 + 1⟩, 1 + 4 * ((i + 1 : Nat) : Int), ((i + 1 : Nat) : Int), ()), ⟨_, rfl, by simp [h1]⟩, fun rec K => ?_⟩
      simp only [s46_0]
      rw [cond_true_dec (by simp <;> omega)]
      simp only [hd', hd, Int.toNat_natCast, Option.bind_some, e1, hs, e2, e3, e4, e5, hset', hset, List.set_set])
    (by
      rintro _ ⟨m, rfl, h1⟩ rec K
      simp only [s46_0]
      rw [cond_false_dec (by simp <;> omega)])
  exact ⟨m, e⟩
theorem eqInts (l : List Int) (hl : l.length ≤ 1048576) : F44 (l, l, ()) = some (true, ()) := F44_eq l hl
theorem F8_eq (l : List Cue) (name : Str) (n : Int) (hw : (∀ c ∈ l, Wf .cue c) ∧ l.length ≤ maxLen) (hname : name.length ≤ maxLen) (hn : -9223372036854775808 ≤ n ∧ n < 9223372036854775808) :
    F8 (F41 F97) (F43 F100) gTrkS gTrk F44 (F45 F101) (F46 F102) F47 F48 (l, name, n, ()) = some (true, ()) := by
  have w1 : ∀ c ∈ l, c.Name.length ≤ 9223372036854775807 := fun c hc => Nat.le_trans (hw.1 c hc (.str c.Name) (by simp [Ty.cells])) (by decide)
  have w2 : l.length ≤ 9223372036854775807 := Nat.le_trans hw.2 (by decide)
  obtain ⟨x, hx, hxx⟩ := szCues l w1 w2
  unfold F8
  by_cases c0 : Int.ofNat name.length > 1048576
  · rw [cond_true_dec c0]
  · rw [cond_false_dec c0, hx, Option.bind_some]
    by_cases c1 : x < 0
    · rw [cond_true_dec c1]
    · rw [cond_false_dec c1]
      obtain ⟨hl, hnm⟩ := hxx (by omega)
      obtain ⟨m, t1, t2, hm⟩ := trk_ok l hnm hl name n
      obtain ⟨mk, hmk⟩ := markCues l hl
      have q1 : ¬ (1 + 4 * (l.length : Int) < 0) := by omega
      have q2 : ¬ (1 + (m.length : Int) < 0) := by omega
      simp only [toCues l hl, Option.bind_some, t1, t2, eqInts m (by omega), eqCues l hl, hmk, q1, F47_eq m (by omega), F48_eq m.length (by omega), q2, decide_true, decide_false, Bool.not_true, Bool.not_false, cond_true, cond_false]
theorem ok8' : OK Proofs.Try.prog 8 (mkE p8 r8 false (F8 (F41 F97) (F43 F100) gTrkS gTrk F44 (F45 F101) (F46 F102) F47 F48)) :=
  have kScore := ok85 (ok142 ok72 (ok112 ok72)) (ok143 (ok172 ok192) (ok182 ok195) ok171)
  have sScore := ok98 (ok152 ok119 ok116) ok153
  have kLev := ok32 kScore (ok86 (ok144 ok72) ok145)
  have sLev := ok99 sScore (ok154 (ok189 ok170 ok199))
  ok8 (ok41 ok97) (ok43 ok100) (ok42 sScore sLev) (ok31 kScore ok72 kLev) ok44 (ok45 ok101) (ok46 ok102) ok47 ok48
end Ev
namespace Go.Proofs.Ytlifghlhbfjdmaa.fnExactTrackOf
open Go.ChangeShapes Go.WideShapes Go.ChangeAt Go.RowKit
open Go.ChangeMaps (open_string shut_string)
theorem own : ownKnob Try.prog.godebug = none := by kernel_rfl
theorem laidOut : laidOutB Try.prog = true := by kernel_rfl
theorem lifted (os : Os) (started : os.Started) (H : Type) (enc : TypeId × Value → H) :
    ReturnsInHanded {} Try.checked os 8 .any (Rows.fnExactTrackOfSpec.pre6 enc Try.prog Try.f8 Rows.fnExactTrackOfRow.domain false) (Rows.fnExactTrackOfSpec.post enc Try.prog Try.f8 false true false false) := by
  refine returnsInHanded_of_change_sized (C := Try.checked) own started (by kernel_rfl) Try.func8
    (ChangeSpec.witness6 (enc := enc) (C := Try.checked) false ⟨#[], #[.slice none 0 0, .string ⟨#[]⟩, .int .i64 0], []⟩ 8 (by kernel_rfl) (by kernel_rfl) (by kernel_rfl) (by kernel_rfl)) ?_
  intro W base args ds gs before hval0 hW hcnd hsz0 _
  have hval : ∀ (j : Nat) t v, Try.f8.params[j]? = some t → args[j]? = some v → Value.okWide Try.prog W .any base t v := hval0
  have hW' := hW
  obtain ⟨p, q, hA0, hV, rfl, hfz, hnd⟩ := hW
  have hA : DataW.TrodAll enc Try.prog W 0 (fun _ => true) true Try.f8.params.toList args.toList ds p := hA0
  rw [Try.params8] at hA hval
  obtain ⟨v0, vs0, d0, ds0, p0, q0, hargs, rfl, rfl, h0, r0⟩ := trodAll_cons hA
  obtain ⟨v1, vs1, d1, ds1, p1, q1, rfl, rfl, rfl, h1, r1⟩ := trodAll_cons r0
  obtain ⟨v2, vs2, d2, ds2, p2, q2, rfl, rfl, rfl, h2, r2⟩ := trodAll_cons r1
  obtain ⟨rfl, rfl, rfl⟩ := trodAll_nil r2
  obtain rfl : args = #[v0, v1, v2] := by cases args; simp_all
  obtain ⟨rfl, rfl⟩ := trodVars_none hV
  obtain ⟨a0, len0, cap0, rfl⟩ := okWide_slice Try.underlying70 (hval 0 70 v0 rfl rfl)
  have k0 := h0
  have lt0 : ∀ x ∈ p0, x.block < W.heap.size := by obtain ⟨m, hm⟩ := k0; exact DataW.trod_lt m _ _ _ hm
  obtain ⟨zs0, hrel0, wf0, ml0⟩ : ∃ l : List (Ev.Ty.den .cue), Ev.RelA (fun _ => none) (fun b => b < W.heap.size) W (.lst .cue l) (.slice a0 len0 cap0) ∧ (∀ d ∈ l, Ev.Wf .cue d) ∧ l.length ≤ maxLen := by
    obtain ⟨fuel, hf⟩ := h0
    exact Ev.open_rows (l := [(138, .cue)]) (by kernel_rfl) (by kernel_rfl) hf
  obtain ⟨s1, rfl, rfl, rfl, ws1⟩ := open_string Try.underlying9 (hval 1 9 v1 rfl rfl) h1
  obtain ⟨n2, rfl, rfl, rfl, w2⟩ := open_int Try.underlying3 (hval 2 3 v2 rfl rfl) h2
  clear hA0 hval0 hsz0
  refine (Ev.calls_true (av := [.lst .cue zs0, .str s1.data.toList, .int .i64 n2]) (out := []) Ev.ok8' (by
    exact Ev.sem_of (ps := Ev.p8) (rs := Ev.r8) (a := (zs0, s1.data.toList, n2, ())) rfl (Ev.F8_eq zs0 s1.data.toList n2 (And.intro wf0 ml0) (by simpa using ws1) (Ev.wf_i64 w2))) (w := W) (ca := #[.slice a0 len0 cap0, .string s1, .int .i64 n2]) rfl (Ev.args_arr (Ev.argsS (hrel0) (Ev.argsS (rfl) (Ev.argsS (rfl) Ev.args0))))).mono fun e W' ⟨he, bel⟩ => ?_
  subst he
  exact ⟨_, rfl, _, _, _, [], _, [], hW', trodAll_mk1 (shut_bool Try.underlying4 _), (trodAll_cons_mk (Below.trod laidOut (by kernel_rfl) (of_decide_eq_true (by kernel_rfl)) k0 bel lt0) (trodAll_cons_mk (shut_string Try.underlying9 ws1) (trodAll_cons_mk (shut_int Try.underlying3 w2) trodAll_mk0))), rfl, bel.frame _, fun h => by cases h⟩
theorem over : Rows.fnExactTrackOfRow.holds Try.pinned (OpenSpec.ofChange Rows.fnExactTrackOfSpec) :=
  OpenClaim.holds_of_wide 8 Try.f8 rfl rfl rfl rfl rfl rfl rfl ⟨rfl, rfl, rfl, rfl, rfl⟩ rfl rfl rfl rfl rfl (by kernel_rfl) Try.func8 (by kernel_rfl)
    (of_decide_eq_true (by kernel_rfl)) (by unfold Func.isWrapper; first | (rw [if_pos (by decide +kernel)]; kernel_rfl) | (rw [if_neg (by decide +kernel)]; exact ⟨rfl, rfl⟩))
    (fun os started H enc _ => lifted os started H enc)
theorem proved : Rows.FnExactTrackOfSaid := over
#print axioms proved
end Go.Proofs.Ytlifghlhbfjdmaa.fnExactTrackOf
