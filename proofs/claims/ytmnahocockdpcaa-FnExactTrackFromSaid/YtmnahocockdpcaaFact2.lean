/- More plain facts of the track functions. -/
import Derived.Test.YtmnahocockdpcaaFact
set_option linter.unusedVariables false
namespace Ev
open Go
def inR (x : Int) : Bool := decide (0 ≤ x) && decide (x ≤ 32)
def isTr (l : List Int) : Bool := l.all inR && decide (l.length ≤ 64)
theorem F15_is (l : List Int) (hl : l.length ≤ 1099511627776) : F15 F54 (l, ()) = some (isTr l, ()) := by
  unfold F15
  rcases iterF_rule (f := s15_0 F54) (K := fun t4 => some (decide (Int.ofNat (List.length t4.1) ≤ 64), ())) (t := (l, l, Int.ofNat l.length, 0, ())) l.length
    (fun i t => t = (l, l, Int.ofNat l.length, (i : Int), ()) ∧ ∀ x ∈ l.take i, inR x = true) (fun r => r = some (false, ()) ∧ l.all inR = false) (fun t => t.1 = l ∧ ∀ x ∈ l, inR x = true) (by omega) ⟨rfl, by simp⟩
    (by
      rintro i _ hi ⟨rfl, hall⟩
      have hx : l[i]? = some l[i] := by simp
      have e : ∀ rec K, s15_0 F54 (l, l, Int.ofNat l.length, (i : Int), ()) rec K = cond (!inR l[i]) (some (false, ())) (rec (l, l, Int.ofNat l.length, ((i + 1 : Nat) : Int), ())) := by
        intro rec K
        simp only [s15_0]
        rw [cond_dec, if_pos (by simp; omega), rdL_at hx, F54_eq, w64_id (by omega) (by omega)]
        rfl
      cases hb : inR l[i]
      · refine .inr (.inl ⟨_, ⟨rfl, ?_⟩, fun rec K => by rw [e, hb]; rfl⟩)
        simp only [List.all_eq_false]
        exact ⟨l[i], by simp, by simp [hb]⟩
      · refine .inl ⟨_, ⟨rfl, fun x hx' => ?_⟩, fun rec K => by rw [e, hb]; rfl⟩
        rw [List.take_add_one, hx] at hx'
        rcases List.mem_append.mp hx' with h | h
        · exact hall x h
        · simp at h; subst h; exact hb)
    (by
      rintro _ ⟨rfl, hall⟩
      refine .inr ⟨(l, l, Int.ofNat l.length, (l.length : Int), ()), ⟨rfl, by simpa using hall⟩, fun rec K => ?_⟩
      simp only [s15_0]
      rw [cond_dec, if_neg (by simp)]) with ⟨r, ⟨rfl, ha⟩, h⟩ | ⟨t, ⟨ht, hall⟩, h⟩
  · rw [h, isTr, ha]; rfl
  · rw [h, isTr, List.all_eq_true.mpr hall, ht]
    simp
    omega
theorem F17_is (l : List Int) (hl : l.length ≤ 1099511627776) : F17 F55 (l, ()) = some (isTr l, ()) := by rw [F17_F15]; exact F15_is l hl
theorem F64_eq (a : Run) : F64 (a, a, ()) = some (true, ()) := by
  unfold F64; simp
theorem F40_eq (l : List Run) (hl : l.length ≤ 1048576) : F40 F64 (l, l, ()) = some (true, ()) := by
  unfold F40
  simp only [decide_true, Bool.not_true, cond_false]
  obtain ⟨t, ⟨_, rfl⟩, e⟩ := iterF_all (f := s40_0 F64) (K := fun _ => some (true, ())) (t := (l, l, 0, ())) l.length
    (fun i t => True ∧ t = (l, l, (i : Int), ())) (by omega) ⟨trivial, rfl⟩
    (by
      rintro i _ hi ⟨_, rfl⟩
      have hx : l[i]? = some l[i] := by simp
      refine ⟨_, ⟨trivial, rfl⟩, fun rec K => ?_⟩
      simp only [s40_0]
      rw [cond_true_dec (by simp <;> omega), rdL_at hx, rdL_at hx, F64_eq, w64_id (by omega) (by omega)]
      rfl)
    (by
      rintro _ ⟨_, rfl⟩ rec K
      simp only [s40_0]
      rw [cond_false_dec (by simp)])
  exact e
def marksR : Nat → Int → List Run
  | 0, _ => []
  | n + 1, k => ⟨k, k + 1⟩ :: marksR n (k + 2)
theorem marksR_len : ∀ (n : Nat) (k : Int), (marksR n k).length = n
  | 0, _ => rfl
  | n + 1, k => by simp [marksR, marksR_len n]
theorem marksR_at : ∀ (n : Nat) (k : Int) (i : Nat), i < n → (marksR n k)[i]? = some ⟨k + 2 * i, k + 2 * i + 1⟩
  | 0, _, _, h => by omega
  | n + 1, k, 0, _ => by simp [marksR]
  | n + 1, k, i + 1, h => by
    simp only [marksR, List.getElem?_cons_succ]
    rw [marksR_at n (k + 2) i (by omega)]
    rw [show k + 2 + 2 * (i : Int) = k + 2 * ((i + 1 : Nat) : Int) by omega]
theorem F41_eq (l : List Run) (hl : l.length ≤ 1048576) : F41 (l, 1, ()) = some (marksR l.length 1, 1 + 2 * (l.length : Int), ()) := by
  unfold F41
  obtain ⟨t, ⟨m, rfl, h1, h2⟩, e⟩ := iterF_all (f := s41_0) (K := fun t3 => some (t3.1, t3.2.1, ())) (t := (l, 1, 0, ())) l.length
    (fun i t => ∃ m : List Run, t = (m, 1 + 2 * (i : Int), (i : Int), ()) ∧ m.length = l.length ∧ ∀ j : Nat, j < i → m[j]? = some ⟨1 + 2 * (j : Int), 1 + 2 * (j : Int) + 1⟩) (by omega) ⟨l, rfl, rfl, fun j hj => by omega⟩
    (by
      rintro i _ hi ⟨m, rfl, h1, h2⟩
      have hd : m[i]? = some m[i] := by simp
      have hd2 : (m.set i ⟨1 + 2 * (i : Int), m[i].Count⟩)[i]? = some ⟨1 + 2 * (i : Int), m[i].Count⟩ := by
        rw [List.getElem?_set]; simp [show i < m.length by omega]
      refine ⟨_, ⟨(m.set i ⟨1 + 2 * (i : Int), m[i].Count⟩).set i ⟨1 + 2 * (i : Int), 1 + 2 * (i : Int) + 1⟩, rfl, by simp [h1], fun j hj => ?_⟩, fun rec K => ?_⟩
      · rw [List.getElem?_set]
        by_cases hji : i = j
        · subst hji; simp [h1, hi]
        · simp only [if_neg hji]; rw [List.getElem?_set, if_neg hji]; exact h2 j (by omega)
      · simp only [s41_0]
        rw [cond_true_dec (by simp <;> omega), rdL_at hd]
        simp only [Int.toNat_natCast]
        rw [hd]
        simp only [Option.bind_some]
        rw [rdL_at hd2, hd2]
        simp only [Option.bind_some]
        rw [w64_id (n := 1 + 2 * (i : Int) + 1) (by omega) (by omega), w64_id (by omega) (by omega), w64_id (by omega) (by omega)]
        rw [show (1 : Int) + 2 * (i : Int) + 1 + 1 = 1 + 2 * ((i + 1 : Nat) : Int) by omega]
        rfl)
    (by
      rintro _ ⟨m, rfl, h1, h2⟩ rec K
      simp only [s41_0]
      rw [cond_false_dec (by simp <;> omega)])
  have : m = marksR l.length 1 := List.ext_getElem? fun j => by
    by_cases hj : j < l.length
    · rw [h2 j hj, marksR_at _ _ _ hj]
    · rw [List.getElem?_eq_none (by omega), List.getElem?_eq_none (by rw [marksR_len]; omega)]
  subst this
  exact e
theorem F42_eq (n : Nat) (hn : n ≤ 1048576) : F42 (marksR n 1, 1, ()) = some (1 + 2 * (n : Int), ()) := by
  unfold F42
  obtain ⟨t, ⟨_, rfl⟩, e⟩ := iterF_all (f := s42_0) (K := fun t3 => some (t3.2.1, ())) (t := (marksR n 1, 1, 0, ())) n
    (fun i t => True ∧ t = (marksR n 1, 1 + 2 * (i : Int), (i : Int), ())) (by omega) ⟨trivial, rfl⟩
    (by
      rintro i _ hi ⟨_, rfl⟩
      refine ⟨_, ⟨trivial, rfl⟩, fun rec K => ?_⟩
      simp only [s42_0]
      rw [cond_true_dec (by simp [marksR_len] <;> omega), rdL_at (marksR_at n 1 i hi)]
      simp only [decide_true, Bool.not_true, cond_false]
      rw [rdL_at (marksR_at n 1 i hi), w64_id (n := 1 + 2 * (i : Int) + 1) (by omega) (by omega), w64_id (by omega) (by omega), w64_id (by omega) (by omega)]
      simp only [decide_true, Bool.not_true, cond_false]
      rw [show (1 : Int) + 2 * (i : Int) + 1 + 1 = 1 + 2 * ((i + 1 : Nat) : Int) by omega]
      rfl)
    (by
      rintro _ ⟨_, rfl⟩ rec K
      simp only [s42_0]
      rw [cond_false_dec (by simp [marksR_len])])
  exact e
end Ev
