/- Lists of texts: equal to themselves, marked, held. -/
import Derived.Test.YtnoodoiehlcblaaMark
import Derived.Test.YtnoodoiehlcblaaWp
set_option linter.unusedVariables false
set_option linter.unusedSimpArgs false
namespace Ev
open Go
theorem eqStrs (l : List Str) (hl : l.length ≤ 1048576) : G32 (l, l, ()) = some (true, ()) := by
  unfold G32 F32
  dsimp only
  rw [decide_eq_true rfl]
  simp only [Bool.not_true, cond_false]
  refine iterF_for (f := s32_0) (K := fun t4 => some (true, ())) (fun i => (l, l, (i : Int), ())) l.length (by omega) ?_ ?_
  · intro i hi rec K
    have hx : l[i]? = some l[i] := by simp
    have hx' := fun (K : Str → Option (Bool × Unit)) => rdL_at (K := K) hx
    have e1 : w64 ((i : Int) + 1) = ((i + 1 : Nat) : Int) := w64_id (by omega) (by omega)
    simp only [s32_0]
    rw [cond_true_dec (by simp; omega)]
    simp only [hx', e1, decide_true, Bool.not_true, cond_false]
  · intro rec K
    simp only [s32_0]
    rw [cond_false_dec (by simp)]
noncomputable def mTs (n : Nat) (k : Int) : List Str := (List.range n).map fun (i : Nat) => mt (k + (i : Int))
theorem mTs_len (n : Nat) (k : Int) : (mTs n k).length = n := by simp [mTs]
theorem mTs_at (n : Nat) (k : Int) (i : Nat) (h : i < n) : (mTs n k)[i]? = some (mt (k + (i : Int))) := by
  unfold mTs
  rw [List.getElem?_map, List.getElem?_range h]; rfl
theorem mark_strs (l : List Str) (hl : l.length ≤ 1048576) (k : Int) (hk : 0 ≤ k ∧ k ≤ 100000000) : G33 (l, k, ()) = some (mTs l.length k, k + (l.length : Int), ()) := by
  unfold G33 F33
  have key := iterF_for (f := s33_0 G64) (K := fun t4 => some (t4.1, t4.2.1, ())) (fun i => (mTs i k ++ l.drop i, k + (i : Int), (i : Int), ())) l.length (by omega)
    (by
      intro i hi rec K
      have hlen : (mTs i k ++ l.drop i).length = l.length := by rw [List.length_append, mTs_len, List.length_drop]; omega
      have hx : (mTs i k ++ l.drop i)[i]? = some l[i] := by rw [List.getElem?_append_right (by rw [mTs_len]; exact Nat.le_refl _), mTs_len, Nat.sub_self]; simp [List.getElem?_drop]
      have hx' := fun (K : Str → Option (List Str × Int × Unit)) => rdL_at (K := K) hx
      have e1 : w64 ((i : Int) + 1) = ((i + 1 : Nat) : Int) := w64_id (by omega) (by omega)
      have e2 : w64 (k + (i : Int) + 1) = k + ((i + 1 : Nat) : Int) := by rw [w64_id (by omega) (by omega)]; omega
      have em : G64 (k + (i : Int), ()) = some (mt (k + (i : Int)), ()) := mt_is _ (by omega) (by omega)
      have eset : (mTs i k ++ l.drop i).set i (mt (k + (i : Int))) = mTs (i + 1) k ++ l.drop (i + 1) := by
        rw [List.set_append_right _ _ (by rw [mTs_len]; exact Nat.le_refl _), mTs_len, Nat.sub_self, drop_cons' l i hi]
        unfold mTs
        rw [List.range_succ, List.map_append, List.set_cons_zero, List.append_assoc]; rfl
      simp only [s33_0]
      rw [cond_true_dec (by rw [hlen]; simp; omega), em]
      simp only [Option.bind_some, hx', hx, Int.toNat_natCast, eset, e1, e2])
    (by
      intro rec K
      simp only [s33_0]
      rw [cond_false_dec (by rw [List.length_append, mTs_len, List.length_drop]; simp)])
  have e0 : mTs 0 k ++ l.drop 0 = l := by simp [mTs]
  have en : mTs l.length k ++ l.drop l.length = mTs l.length k := by simp
  simp only [en] at key
  rw [e0] at key
  have ek : k + ((0 : Nat) : Int) = k := by omega
  rw [ek] at key
  exact key
theorem held_strs (n : Nat) (hn : n ≤ 1048576) (k : Int) (hk : 0 ≤ k ∧ k ≤ 100000000) : G34 (mTs n k, k, ()) = some (k + (n : Int), ()) := by
  unfold G34 F34
  have key := iterF_for (f := s34_0 G64) (K := fun t4 => some (t4.2.1, ())) (fun i => (mTs n k, k + (i : Int), (i : Int), ())) n (by omega)
    (by
      intro i hi rec K
      have hx := mTs_at n k i hi
      have hx' := fun (K : Str → Option (Int × Unit)) => rdL_at (K := K) hx
      have e1 : w64 ((i : Int) + 1) = ((i + 1 : Nat) : Int) := w64_id (by omega) (by omega)
      have e2 : w64 (k + (i : Int) + 1) = k + ((i + 1 : Nat) : Int) := by rw [w64_id (by omega) (by omega)]; omega
      have em : G64 (k + (i : Int), ()) = some (mt (k + (i : Int)), ()) := mt_is _ (by omega) (by omega)
      simp only [s34_0]
      rw [cond_true_dec (by rw [mTs_len]; simp; omega)]
      simp only [hx', em, Option.bind_some, decide_true, Bool.not_true, cond_false, e1, e2])
    (by
      intro rec K
      simp only [s34_0]
      rw [cond_false_dec (by rw [mTs_len]; simp)])
  have ek : k + ((0 : Nat) : Int) = k := by omega
  simp only [ek] at key
  exact key
end Ev
