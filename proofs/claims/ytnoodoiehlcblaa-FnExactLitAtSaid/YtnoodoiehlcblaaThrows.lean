/- All that a show throws. -/
import Derived.Test.YtnoodoiehlcblaaLifts
set_option linter.unusedVariables false
set_option linter.unusedSimpArgs false
set_option maxRecDepth 100000
namespace Ev
open Go
noncomputable def thr1 (s : ShowT) (t : Int) (i : Nat) : List Throw := match s.1[i]?, (liftsL s t)[i]? with
  | some d, some x => if x > 0 then [⟨d.Name, t, ⟨⟨d.At.X, d.At.Y⟩, d.Heading, d.Tilt, x⟩⟩] else []
  | _, _ => []
noncomputable def thrN (s : ShowT) (t : Int) (n : Nat) : List Throw := (List.range n).flatMap (thr1 s t)
noncomputable def thrAll (s : ShowT) (n : Nat) : List Throw := (List.range n).flatMap fun (t : Nat) => thrN s (t : Int) s.1.length
theorem thrN_succ (s : ShowT) (t : Int) (n : Nat) : thrN s t (n + 1) = thrN s t n ++ thr1 s t n := by
  unfold thrN; rw [List.range_succ, List.flatMap_append]; simp
theorem thrAll_succ (s : ShowT) (n : Nat) : thrAll s (n + 1) = thrAll s n ++ thrN s (n : Int) s.1.length := by
  unfold thrAll; rw [List.range_succ, List.flatMap_append]; simp
theorem thr1_len (s : ShowT) (t : Int) (i : Nat) : (thr1 s t i).length ≤ 1 := by
  unfold thr1
  split
  · split <;> simp
  · simp
theorem thrN_len (s : ShowT) (t : Int) : ∀ n, (thrN s t n).length ≤ n
  | 0 => by simp [thrN]
  | n + 1 => by
    have := thrN_len s t n
    have := thr1_len s t n
    rw [thrN_succ]; simp; omega
theorem thrAll_len (s : ShowT) (h : s.1.length ≤ 8) : ∀ n, (thrAll s n).length ≤ 8 * n
  | 0 => by simp [thrAll]
  | n + 1 => by
    have := thrAll_len s h n
    have := thrN_len s (n : Int) s.1.length
    rw [thrAll_succ]; simp; omega
section
variable {s : ShowT} (h : ShowV s)
include h
theorem roundS (t : Int) (acc : List Throw) (ha : acc.length ≤ 1048576) (K : (List Device × List Cue × List Gust × Int × Unit) × List Throw × Int × List Int × Int × Int × Unit → Option (List Throw × Unit)) :
    iterF (s57_2 G39 G54) fuel (s, acc, t, liftsL s t, Int.ofNat (liftsL s t).length, 0, ()) K = K (s, acc ++ thrN s t s.1.length, t, liftsL s t, Int.ofNat (liftsL s t).length, Int.ofNat (liftsL s t).length, ()) := by
  have es : (s.1, s.2.1, s.2.2.1, s.2.2.2.1, ()) = s := rfl
  have hlen := h.rig.len
  have hL := liftsL_len s t
  have e0 : acc = acc ++ thrN s t 0 := by simp [thrN]
  rw [hL]
  conv => lhs; rw [e0]
  refine iterF_for (f := s57_2 G39 G54) (K := K) (fun i => (s, acc ++ thrN s t i, t, liftsL s t, Int.ofNat s.1.length, (i : Int), ())) s.1.length (by omega) ?_ ?_
  · intro i hi rec K
    have hx : s.1[i]? = some s.1[i] := by simp
    have hy : (liftsL s t)[i]? = some (liftsL s t)[i] := by simp
    have e1 : w64 ((i : Int) + 1) = ((i + 1 : Nat) : Int) := w64_id (by omega) (by omega)
    have hn := thrN_len s t i
    have hx' := fun (K : Device → Option (List Throw × Unit)) => rdL_at (K := K) hx
    have hy' := fun (K : Int → Option (List Throw × Unit)) => rdL_at (K := K) hy
    have ej : ∀ x : Int, G54 (s.1[i], x, ()) = some ((⟨⟨s.1[i].At.X, s.1[i].At.Y⟩, s.1[i].Heading, s.1[i].Tilt, x⟩ : Jet), ()) := fun x => rfl
    rw [thrN_succ]
    unfold thr1
    rw [hx, hy]
    simp only [s57_2]
    rw [cond_true_dec (by simp; omega)]
    simp only [hx', hx, hy', hy, Int.toNat_natCast, Option.bind_some, e1, ej, es]
    by_cases hc : (liftsL s t)[i] > 0
    · rw [cond_true_dec hc, if_pos hc, capK_le (by simp; omega), List.append_assoc]
    · rw [cond_false_dec hc, if_neg hc, List.append_nil]
  · intro rec K
    simp only [s57_2]
    rw [cond_false_dec (by simp)]
theorem roundI (t n i0 : Int) (acc : List Throw) (ha : acc.length ≤ 1048576) (K : (List Device × List Cue × List Gust × Int × Unit) × List Throw × Int × Int × Int × List Int × Int × Int × Unit → Option (List Throw × Unit)) :
    iterF (s58_2 G43 G13) fuel (s, acc, t, n, i0, liftsL s t, Int.ofNat (liftsL s t).length, 0, ()) K = K (s, acc ++ thrN s t s.1.length, t, n, i0, liftsL s t, Int.ofNat (liftsL s t).length, Int.ofNat (liftsL s t).length, ()) := by
  have es : (s.1, s.2.1, s.2.2.1, s.2.2.2.1, ()) = s := rfl
  have hlen := h.rig.len
  have hL := liftsL_len s t
  have e0 : acc = acc ++ thrN s t 0 := by simp [thrN]
  rw [hL]
  conv => lhs; rw [e0]
  refine iterF_for (f := s58_2 G43 G13) (K := K) (fun i => (s, acc ++ thrN s t i, t, n, i0, liftsL s t, Int.ofNat s.1.length, (i : Int), ())) s.1.length (by omega) ?_ ?_
  · intro i hi rec K
    have hx : s.1[i]? = some s.1[i] := by simp
    have hy : (liftsL s t)[i]? = some (liftsL s t)[i] := by simp
    have e1 : w64 ((i : Int) + 1) = ((i + 1 : Nat) : Int) := w64_id (by omega) (by omega)
    have hn := thrN_len s t i
    have hx' := fun (K : Device → Option (List Throw × Unit)) => rdL_at (K := K) hx
    have hy' := fun (K : Int → Option (List Throw × Unit)) => rdL_at (K := K) hy
    rw [thrN_succ]
    unfold thr1
    rw [hx, hy]
    simp only [s58_2]
    rw [cond_true_dec (by simp; omega)]
    simp only [hx', hx, hy', hy, Int.toNat_natCast, Option.bind_some, e1, es]
    by_cases hc : (liftsL s t)[i] > 0
    · rw [cond_true_dec hc, if_pos hc, capK_le (by simp; omega), List.append_assoc]
    · rw [cond_false_dec hc, if_neg hc, List.append_nil]
  · intro rec K
    simp only [s58_2]
    rw [cond_false_dec (by simp)]
theorem tick_nat : ∃ n : Nat, s.2.2.2.1 = (n : Int) ∧ n ≤ 64 := by
  have := h.tick
  exact ⟨s.2.2.2.1.toNat, by omega, by omega⟩
noncomputable def throwsL (s : ShowT) : List Throw := thrAll s s.2.2.2.1.toNat
theorem throwsL_len : (throwsL s).length ≤ 512 := by
  have := thrAll_len s h.rig.len s.2.2.2.1.toNat
  have := h.tick
  unfold throwsL; omega
theorem allS_is : G57 (s, ()) = some (throwsL s, ()) := by
  obtain ⟨n, hn, h64⟩ := tick_nat h
  have es : (s.1, s.2.1, s.2.2.1, s.2.2.2.1, ()) = s := rfl
  have hlen := h.rig.len
  unfold G57 F57 throwsL
  simp only [es]
  rw [hn, Int.toNat_natCast]
  refine iterF_for (f := s57_0 G39 G54) (K := fun t9 => some (t9.2.1, ())) (fun i => (s, thrAll s i, (i : Int), ())) n (by omega) ?_ ?_
  · intro i hi rec K
    have e1 : w64 ((i : Int) + 1) = ((i + 1 : Nat) : Int) := w64_id (by omega) (by omega)
    have hl := thrAll_len s hlen i
    rw [thrAll_succ]
    simp only [s57_0, es]
    rw [cond_true_dec (by rw [hn]; omega), liftsS_is h]
    simp only [Option.bind_some]
    rw [roundS h _ _ (by omega), e1]
  · intro rec K
    simp only [s57_0]
    rw [cond_false_dec (by rw [hn]; omega)]
theorem allI_is : G58 (s, ()) = some (throwsL s, ()) := by
  obtain ⟨n, hn, h64⟩ := tick_nat h
  have es : (s.1, s.2.1, s.2.2.1, s.2.2.2.1, ()) = s := rfl
  have hlen := h.rig.len
  unfold G58 F58 throwsL
  simp only [es]
  rw [showI_is s h.ok, showB_of h]
  simp only [Option.bind_some, Bool.not_true, cond_false]
  rw [hn, Int.toNat_natCast]
  refine iterF_for (f := s58_0 G43 G13) (K := fun t9 => some (t9.2.1, ())) (fun i => (s, thrAll s i, (n : Int), (i : Int), ())) n (by omega) ?_ ?_
  · intro i hi rec K
    have e1 : w64 ((i : Int) + 1) = ((i + 1 : Nat) : Int) := w64_id (by omega) (by omega)
    have hl := thrAll_len s hlen i
    rw [thrAll_succ]
    simp only [s58_0, es]
    rw [cond_true_dec (by omega), liftsI_is h]
    simp only [Option.bind_some]
    rw [roundI h _ _ _ _ (by omega), e1]
  · intro rec K
    simp only [s58_0]
    rw [cond_false_dec (by omega)]
/-- What is thrown comes of a nozzle, with a lift that it has. -/
structure ThrowP (s : ShowT) (x : Throw) : Prop where
  born : 0 ≤ x.born ∧ x.born < s.2.2.2.1
  jet : isJet x.jet = true
  dev : ∃ (i : Nat) (d : Device), s.1[i]? = some d ∧ d.Kind = 2 ∧ x.name = d.Name ∧ x.jet = ⟨⟨d.At.X, d.At.Y⟩, d.Heading, d.Tilt, x.jet.Lift⟩ ∧ (liftsL s x.born)[i]? = some x.jet.Lift ∧ x.jet.Lift ≤ d.Most
omit h in
theorem noz_jet {d : Device} (hd : devB d = true) (hk : d.Kind = 2) {x : Int} (h1 : 1 ≤ x) (h2 : x ≤ d.Most) : isJet ⟨⟨d.At.X, d.At.Y⟩, d.Heading, d.Tilt, x⟩ = true := by
  unfold devB at hd
  rw [if_neg (by omega), if_pos hk] at hd
  simp only [Bool.and_eq_true] at hd
  have J := jet_ok hd.2.2.2.1
  have hm := wi_true.1 hd.2.2.2.2
  have jx := J.x; have jy := J.y; have jh := J.h; have jt := J.t
  simp only [devJ] at jx jy jh jt
  unfold isJet
  rw [wi_of jx.1 jx.2, wi_of jy.1 jy.2, wi_of jh.1 jh.2, wi_of jt.1 jt.2, wi_of (a := x) (by omega) (by omega)]
  rfl
theorem throws_mem {x : Throw} (hx : x ∈ throwsL s) : ThrowP s x := by
  have ht := h.tick
  unfold throwsL thrAll at hx
  obtain ⟨t, h1, hx⟩ := List.mem_flatMap.mp hx
  have h1 : t < s.2.2.2.1.toNat := by simpa using h1
  unfold thrN at hx
  obtain ⟨i, h2, hx⟩ := List.mem_flatMap.mp hx
  unfold thr1 at hx
  cases hd : s.1[i]? with
  | none => rw [hd] at hx; simp at hx
  | some d =>
    cases hl : (liftsL s (t : Int))[i]? with
    | none => rw [hd, hl] at hx; simp at hx
    | some y =>
      rw [hd, hl] at hx
      simp only at hx
      by_cases hy : y > 0
      · rw [if_pos hy] at hx
        simp at hx
        subst hx
        have hdev := h.rig.dev d (List.mem_iff_getElem?.mpr ⟨i, hd⟩)
        rcases liftsL_at h (t : Int) hl hd with e | ⟨hk, _, hm⟩
        · omega
        · exact ⟨⟨by simp only; omega, by simp only; omega⟩, noz_jet hdev hk (by omega) hm, i, d, hd, hk, rfl, rfl, hl, hm⟩
      · rw [if_neg hy] at hx; simp at hx
end
end Ev
