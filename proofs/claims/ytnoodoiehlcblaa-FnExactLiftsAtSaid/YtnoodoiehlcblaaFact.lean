/- Plain facts of the track functions that many laws lean on. -/
import Derived.Test.YtnoodoiehlcblaaAbb
import Derived.Test.YtnoodoiehlcblaaPure
set_option linter.unusedVariables false
set_option linter.unusedSimpArgs false
namespace Ev
open Go
theorem F14_eq (l : List Int) (hl : l.length ≤ 1048576) : F14 (l, l, ()) = some (true, ()) := by
  unfold F14
  simp only [decide_true, Bool.not_true, cond_false]
  obtain ⟨t, ⟨_, rfl⟩, e⟩ := iterF_all (f := s14_0) (K := fun _ => some (true, ())) (t := (l, l, 0, ())) l.length
    (fun i t => True ∧ t = (l, l, (i : Int), ())) (by omega) ⟨trivial, rfl⟩
    (by
      rintro i _ hi ⟨_, rfl⟩
      have hx : l[i]? = some l[i] := by simp
      refine ⟨_, ⟨trivial, rfl⟩, fun rec K => ?_⟩
      simp only [s14_0]
      rw [cond_dec, if_pos (by simp; omega), rdL_at hx, rdL_at hx, w64_id (by omega) (by omega)]
      simp)
    (by
      rintro _ ⟨_, rfl⟩ rec K
      simp only [s14_0]
      rw [cond_dec, if_neg (by simp)])
  exact e
theorem F70_eq (a : Int) : F70 (a, 0, 32, ()) = some (decide (0 ≤ a) && decide (a ≤ 32), ()) := by
  unfold F70
  by_cases h : 0 ≤ a <;> simp [h]
theorem F44_eq (a : Int) : F44 (a, 0, 32, ()) = some (decide (0 ≤ a) && decide (a ≤ 32), ()) := by
  unfold F44
  by_cases h : 0 ≤ a <;> simp [h]
theorem both_self {R : Type} {a : Option R} : both a a = a := by unfold both; rw [if_pos rfl]
/-- What is marked: the numbers from 'k' on. -/
def marks : Nat → Int → List Int
  | 0, _ => []
  | n + 1, k => k :: marks n (k + 1)
theorem marks_len : ∀ (n : Nat) (k : Int), (marks n k).length = n
  | 0, _ => rfl
  | n + 1, k => by simp [marks, marks_len n]
theorem marks_at : ∀ (n : Nat) (k : Int) (i : Nat), i < n → (marks n k)[i]? = some (k + i)
  | 0, _, _, h => by omega
  | n + 1, k, 0, _ => by simp [marks]
  | n + 1, k, i + 1, h => by
    simp only [marks, List.getElem?_cons_succ]
    rw [marks_at n (k + 1) i (by omega)]
    congr 1; omega
theorem F17_eqk (l : List Int) (hl : l.length ≤ 1048576) (k : Int) (hk0 : 0 ≤ k) (hk : k ≤ 1099511627776) : F17 (l, k, ()) = some (marks l.length k, k + (l.length : Int), ()) := by
  unfold F17
  obtain ⟨t, ⟨m, rfl, h1, h2⟩, e⟩ := iterF_all (f := s17_0) (K := fun t3 => some (t3.1, t3.2.1, ())) (t := (l, k, 0, ())) l.length
    (fun i t => ∃ m : List Int, t = (m, k + (i : Int), (i : Int), ()) ∧ m.length = l.length ∧ ∀ j : Nat, j < i → m[j]? = some (k + (j : Int))) (by omega) ⟨l, by simp, rfl, fun j hj => by omega⟩
    (by
      rintro i _ hi ⟨m, rfl, h1, h2⟩
      have hd : m[i]? = some m[i] := by simp
      refine ⟨_, ⟨m.set i (k + (i : Int)), rfl, by simp [h1], fun j hj => ?_⟩, fun rec K => ?_⟩
      · rw [List.getElem?_set]
        by_cases hji : i = j
        · subst hji; simp [h1, hi]
        · simp only [if_neg hji]; exact h2 j (by omega)
      · simp only [s17_0]
        rw [cond_true_dec (by simp; omega), rdL_at hd]
        simp only [Int.toNat_natCast]
        rw [hd, w64_id (by omega) (by omega), w64_id (by omega) (by omega)]
        simp only [Option.bind_some]
        rw [show k + (i : Int) + 1 = k + ((i + 1 : Nat) : Int) by omega]
        rfl)
    (by
      rintro _ ⟨m, rfl, h1, h2⟩ rec K
      simp only [s17_0]
      rw [cond_false_dec (by simp; omega)])
  have : m = marks l.length k := List.ext_getElem? fun j => by
    by_cases hj : j < l.length
    · rw [h2 j hj, marks_at _ _ _ hj]
    · rw [List.getElem?_eq_none (by omega), List.getElem?_eq_none (by rw [marks_len]; omega)]
  subst this
  exact e
theorem F17_eq (l : List Int) (hl : l.length ≤ 1048576) : F17 (l, 1, ()) = some (marks l.length 1, 1 + (l.length : Int), ()) := F17_eqk l hl 1 (by omega) (by omega)
theorem F18_eq (n : Nat) (hn : n ≤ 1048576) : F18 (marks n 1, 1, ()) = some (1 + (n : Int), ()) := by
  unfold F18
  obtain ⟨t, ⟨_, rfl⟩, e⟩ := iterF_all (f := s18_0) (K := fun t3 => some (t3.2.1, ())) (t := (marks n 1, 1, 0, ())) n
    (fun i t => True ∧ t = (marks n 1, 1 + (i : Int), (i : Int), ())) (by omega) ⟨trivial, rfl⟩
    (by
      rintro i _ hi ⟨_, rfl⟩
      refine ⟨_, ⟨trivial, rfl⟩, fun rec K => ?_⟩
      simp only [s18_0]
      rw [cond_true_dec (by simp [marks_len]; omega), rdL_at (marks_at n 1 i hi), w64_id (by omega) (by omega), w64_id (by omega) (by omega)]
      simp only [decide_true, Bool.not_true, cond_false]
      rw [show (1 : Int) + (i : Int) + 1 = 1 + ((i + 1 : Nat) : Int) by omega]
      rfl)
    (by
      rintro _ ⟨_, rfl⟩ rec K
      simp only [s18_0]
      rw [cond_false_dec (by simp [marks_len])])
  exact e
def marksR : Nat → Int → List Run
  | 0, _ => []
  | n + 1, k => ⟨k, k + 1⟩ :: marksR n (k + 2)
theorem marksR_len : ∀ (n : Nat) (k : Int), (marksR n k).length = n
  | 0, _ => rfl
  | n + 1, k => by simp [marksR, marksR_len n]
theorem marksR_at : ∀ (n : Nat) (k : Int) (i : Nat), i < n → (marksR n k)[i]? = some ⟨k + 2 * i, k + 2 * i + 1⟩
  | 0, _, _, h => by omega
  | n + 1, k, 0, _ => by simp [marksR]
  | n + 1, k, i + 1, h => by
    simp only [marksR, List.getElem?_cons_succ]
    rw [marksR_at n (k + 2) i (by omega)]
    rw [show k + 2 + 2 * (i : Int) = k + 2 * ((i + 1 : Nat) : Int) by omega]
theorem rep_succ (j : Nat) (x : Int) : List.replicate j x ++ [x] = List.replicate (j + 1) x := by
  rw [List.replicate_succ']
theorem F44_is (a b c : Int) : F44 (a, b, c, ()) = some (decide (b ≤ a) && decide (a ≤ c), ()) := by
  unfold F44
  by_cases h : b ≤ a <;> simp [h]
/-- What a run does to what was drawn so far. -/
def runOK (l : List Run) (i : Nat) (out : List Int) (d : Run) : Bool :=
  decide (1 ≤ d.Count) && decide (d.Count ≤ 64 - (out.length : Int)) && inR d.Level && !(decide (0 < i) && decide ((l[i - 1]?).map Run.Level = some d.Level))
theorem isTr_app (out : List Int) (d : Run) (ho : isTr out = true) (h1 : 1 ≤ d.Count) : isTr (out ++ List.replicate d.Count.toNat d.Level) = (decide (d.Count ≤ 64 - (out.length : Int)) && inR d.Level) := by
  simp only [isTr, Bool.and_eq_true, decide_eq_true_eq] at ho
  unfold isTr
  rw [List.all_append, ho.1, Bool.true_and, List.all_replicate, if_neg (by omega), Bool.and_comm]
  congr 1
  simp only [List.length_append, List.length_replicate, decide_eq_decide]
  omega
end Ev
