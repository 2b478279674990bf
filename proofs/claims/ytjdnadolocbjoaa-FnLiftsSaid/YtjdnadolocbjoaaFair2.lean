/- Shares are found fair by the program; sums of lifts. -/
import Derived.Test.YtjdnadolocbjoaaSumA
set_option linter.unusedVariables false
set_option linter.unusedSimpArgs false
set_option maxRecDepth 100000
namespace Ev
open Go
theorem total_is {l : List Int} (hl : l.length ≤ 1000) (h : ∀ x ∈ l, 0 ≤ x ∧ x ≤ 64) : G29 (l, ()) = some (sumL l, ()) := by
  unfold G29 F29
  have := iterF_for (f := s29_0) (K := fun t3 => some (t3.2.1, ())) (fun i => (l, sumL (l.take i), (i : Int), ())) l.length (by omega)
    (by
      intro i hi rec K
      have hx : l[i]? = some l[i] := by simp
      have e1 : w64 ((i : Int) + 1) = ((i + 1 : Nat) : Int) := w64_id (by omega) (by omega)
      have hb := sumL_bound 64 (by omega) (l.take (i + 1)) (fun x hx => h x (List.mem_of_mem_take hx))
      have hlen : (l.take (i + 1)).length ≤ 1000 := by simp; omega
      simp only [s29_0]
      rw [cond_true_dec (by simp; omega), rdL_at hx, e1]
      rw [sumL_take l i hi] at hb ⊢
      rw [w64_id (by omega) (by omega)])
    (by
      intro rec K
      simp only [s29_0]
      rw [cond_false_dec (by simp)])
  have e0 : sumL (l.take 0) = 0 := by simp [sumL]
  have en : l.take l.length = l := List.take_length
  simp only [en] at this
  rw [e0] at this
  exact this
theorem lift_le {s : ShowT} (h : ShowV s) {t : Int} {x : Int} (hx : x ∈ liftsL s t) : 0 ≤ x ∧ x ≤ 64 := by
  obtain ⟨i, hi⟩ := List.mem_iff_getElem?.mp hx
  have hl : i < s.1.length := by rw [← liftsL_len s t]; exact (List.getElem?_eq_some_iff.mp hi).1
  have hd : s.1[i]? = some s.1[i] := by simp
  rcases liftsL_at h t hi hd with e | ⟨k, e1, e2⟩
  · omega
  · have := noz_most h (mem_at hd) k
    omega
theorem totalL_is {s : ShowT} (h : ShowV s) (t : Int) : G29 (liftsL s t, ()) = some (sumL (liftsL s t), ()) :=
  total_is (by rw [liftsL_len]; have := h.rig.len; omega) fun x hx => lift_le h hx
theorem isFair_is {m : Int} {l R : List Int} (hm : 0 ≤ m ∧ m ≤ 512) (hd : demB l = true) (hS : SharesP m l R) : G28 (m, l, R, ()) = some (true, ()) := by
  obtain ⟨h8, hl⟩ := (demB_iff l).1 hd
  have hlen := hS.len
  have hR : ∀ x ∈ R, 0 ≤ x ∧ x ≤ 64 := fun x hx => by
    obtain ⟨j, hj⟩ := List.mem_iff_getElem?.mp hx
    have hjl : j < l.length := by rw [← hlen]; exact (List.getElem?_eq_some_iff.mp hj).1
    have hy : l[j]? = some l[j] := by simp
    have := shares_le hS hd hj hy
    have := hl l[j] (by simp)
    omega
  obtain ⟨q1, q2⟩ := shares_sum hS hd
  have hsh : G79 (l, R, ()) = some (true, ()) := by
    unfold G79 F79
    dsimp only
    rw [demI_is l (by omega), hd]
    simp only [Option.bind_some, Bool.not_true, Bool.not_false, cond_true]
    rw [decide_eq_true (by simp [hlen])]
    simp only [Bool.not_true, cond_false]
    refine iterF_for (f := s79_0 G138 G52) (K := fun t6 => some (true, ())) (fun i => (l, R, Int.ofNat R.length, (i : Int), ())) R.length (by omega) ?_ ?_
    · intro i hi rec K
      have hx : R[i]? = some R[i] := by simp
      have hil : i < l.length := by omega
      have hy : l[i]? = some l[i] := by simp
      have e1 : w64 ((i : Int) + 1) = ((i + 1 : Nat) : Int) := w64_id (by omega) (by omega)
      have hle := shares_le hS hd hx hy
      have hw : G52 (R[i], 0, l[i], ()) = some (wi R[i] 0 l[i], ()) := within_is _ _ _
      simp only [s79_0]
      rw [cond_true_dec (by simp; omega), rdL_at hx, rdL_at hy, hw, wi_of hle.1 hle.2, e1]
      rfl
    · intro rec K
      simp only [s79_0]
      rw [cond_false_dec (by simp)]
  unfold G28 F28
  dsimp only
  rw [supI_is, wi_of hm.1 hm.2, hsh]
  simp only [Option.bind_some, Bool.not_true, Bool.not_false, cond_true]
  rw [sumI_is 64 (by omega) (by omega) R (by omega) hR, sumI_is 64 (by omega) (by omega) l (by omega) hl]
  simp only [Option.bind_some]
  rw [decide_eq_true q1]
  simp only [Bool.not_true, cond_false]
  refine iterF_for (f := s28_0 G63 G79 G80) (K := fun t11 => some (true, ())) (fun i => (l, R, R, Int.ofNat R.length, (i : Int), ())) R.length (by omega) ?_ ?_
  · intro i hi rec K
    have hx : R[i]? = some R[i] := by simp
    have hil : i < l.length := by omega
    have hy : l[i]? = some l[i] := by simp
    have e1 : w64 ((i : Int) + 1) = ((i + 1 : Nat) : Int) := w64_id (by omega) (by omega)
    have hb := hR R[i] (by simp)
    have e2 : w64 (R[i] + 1) = R[i] + 1 := w64_id (by omega) (by omega)
    simp only [s28_0]
    rw [cond_true_dec (by simp; omega), rdL_at hx]
    refine (iterF_for (f := s28_2 G63 G79 G80) (fun j => (l, R, (i : Int), R[i], R, Int.ofNat R.length, (i : Int), R, Int.ofNat R.length, (j : Int), ())) R.length (by omega) ?_ ?_).trans ?_
    · intro j hj rec K
      have hz : R[j]? = some R[j] := by simp
      have e3 : w64 ((j : Int) + 1) = ((j + 1 : Nat) : Int) := w64_id (by omega) (by omega)
      simp only [s28_2]
      rw [cond_true_dec (by simp; omega), rdL_at hz, rdL_at hy, e2, e3]
      by_cases c1 : R[i] < l[i]
      · have := q2 i j _ _ _ hx hy hz c1
        rw [cond_true_dec c1, cond_false_dec (by omega)]
      · rw [cond_false_dec c1]
    · intro rec K
      simp only [s28_2]
      rw [cond_false_dec (by simp)]
    · simp only [e1]
  · intro rec K
    simp only [s28_0]
    rw [cond_false_dec (by simp)]
end Ev
