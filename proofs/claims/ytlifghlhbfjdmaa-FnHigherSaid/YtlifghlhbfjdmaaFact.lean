/- Plain facts of the track functions that many laws lean on. -/
import Derived.Test.YtlifghlhbfjdmaaFn
import Derived.Test.YtlifghlhbfjdmaaPure
set_option linter.unusedVariables false
set_option linter.unusedSimpArgs false
namespace Ev
open Go
theorem F119_eq (a : Int) : F119 (a, 0, 32, ()) = some (decide (0 ≤ a) && decide (a ≤ 32), ()) := by
  unfold F119
  by_cases h : 0 ≤ a <;> simp [h]
theorem F72_eq (a : Int) : F72 (a, 0, 32, ()) = some (decide (0 ≤ a) && decide (a ≤ 32), ()) := by
  unfold F72
  by_cases h : 0 ≤ a <;> simp [h]
theorem F78_some (l : List Int) (hl : l.length ≤ 1048576) : ∃ b, F78 F119 (l, ()) = some (b, ()) := by
  unfold F78
  rcases iterF_rule (f := s78_0 F119) (K := fun t4 => some (decide (Int.ofNat (List.length t4.1) ≤ 64), ())) (t := (l, l, Int.ofNat l.length, 0, ())) l.length
    (fun i t => t = (l, l, Int.ofNat l.length, (i : Int), ())) (fun r => ∃ b, r = some (b, ())) (fun _ => True) (by omega) rfl
    (by
      rintro i _ hi rfl
      have hx : l[i]? = some l[i] := by simp
      have e : ∀ rec K, s78_0 F119 (l, l, Int.ofNat l.length, (i : Int), ()) rec K = cond (!(decide (0 ≤ l[i]) && decide (l[i] ≤ 32))) (some (false, ())) (rec (l, l, Int.ofNat l.length, ((i + 1 : Nat) : Int), ())) := by
        intro rec K
        simp only [s78_0]
        rw [cond_dec, if_pos (by simp; omega), rdL_at hx, F119_eq, w64_id (by omega) (by omega)]
        rfl
      cases hb : (decide (0 ≤ l[i]) && decide (l[i] ≤ 32))
      · exact .inr (.inl ⟨_, ⟨false, rfl⟩, fun rec K => by rw [e, hb]; rfl⟩)
      · exact .inl ⟨_, rfl, fun rec K => by rw [e, hb]; rfl⟩)
    (by
      rintro _ rfl
      refine .inr ⟨(l, l, Int.ofNat l.length, (l.length : Int), ()), trivial, fun rec K => ?_⟩
      simp only [s78_0]
      rw [cond_dec, if_neg (by simp)]) with ⟨r, ⟨b, rfl⟩, h⟩ | ⟨t, _, h⟩
  · exact ⟨b, h⟩
  · exact ⟨_, h⟩
theorem F22_F15 : F22 F72 = F78 F119 := by
  have e : s22_0 F72 = s78_0 F119 := by
    funext t rec K
    simp only [s22_0, s78_0, F119_eq, F72_eq]
  funext a
  unfold F22 F78
  rw [e]

/-- Whether a list is a track. -/
theorem F78_ok (l : List Int) (hl : l.length ≤ 1048576) : ∃ b, F78 F119 (l, ()) = some (b, ()) ∧ F22 F72 (l, ()) = some (b, ()) ∧ (b = true → l.length ≤ 64 ∧ ∀ x ∈ l, 0 ≤ x ∧ x ≤ 32) := by
  have : ∃ b, F78 F119 (l, ()) = some (b, ()) ∧ (b = true → l.length ≤ 64 ∧ ∀ x ∈ l, 0 ≤ x ∧ x ≤ 32) := by
    unfold F78
    rcases iterF_rule (f := s78_0 F119) (K := fun t4 => some (decide (Int.ofNat (List.length t4.1) ≤ 64), ())) (t := (l, l, Int.ofNat l.length, 0, ())) l.length
      (fun i t => t = (l, l, Int.ofNat l.length, (i : Int), ()) ∧ ∀ x ∈ l.take i, 0 ≤ x ∧ x ≤ 32) (fun r => r = some (false, ())) (fun t => t.1 = l ∧ ∀ x ∈ l, 0 ≤ x ∧ x ≤ 32) (by omega) ⟨rfl, by simp⟩
      (by
        rintro i _ hi ⟨rfl, hall⟩
        have hx : l[i]? = some l[i] := by simp
        have e : ∀ rec K, s78_0 F119 (l, l, Int.ofNat l.length, (i : Int), ()) rec K = cond (!(decide (0 ≤ l[i]) && decide (l[i] ≤ 32))) (some (false, ())) (rec (l, l, Int.ofNat l.length, ((i + 1 : Nat) : Int), ())) := by
          intro rec K
          simp only [s78_0]
          rw [cond_dec, if_pos (by simp; omega), rdL_at hx, F119_eq, w64_id (by omega) (by omega)]
          rfl
        cases hb : (decide (0 ≤ l[i]) && decide (l[i] ≤ 32))
        · exact .inr (.inl ⟨_, rfl, fun rec K => by rw [e, hb]; rfl⟩)
        · refine .inl ⟨_, ⟨rfl, fun x hx' => ?_⟩, fun rec K => by rw [e, hb]; rfl⟩
          rw [List.take_add_one, hx] at hx'
          rcases List.mem_append.mp hx' with h | h
          · exact hall x h
          · simp at h hb; subst h; exact hb)
      (by
        rintro _ ⟨rfl, hall⟩
        refine .inr ⟨(l, l, Int.ofNat l.length, (l.length : Int), ()), ⟨rfl, by simpa using hall⟩, fun rec K => ?_⟩
        simp only [s78_0]
        rw [cond_dec, if_neg (by simp)]) with ⟨r, rfl, h⟩ | ⟨t, ⟨ht, hall⟩, h⟩
    · exact ⟨false, h, fun e => by cases e⟩
    · refine ⟨_, h, fun e => ⟨?_, hall⟩⟩
      rw [ht] at e
      simp at e; omega
  obtain ⟨b, h1, h2⟩ := this
  exact ⟨b, h1, by rw [F22_F15]; exact h1, h2⟩
theorem both_self {R : Type} {a : Option R} : both a a = a := by unfold both; rw [if_pos rfl]
theorem F77_eq (l : List Int) (hl : l.length ≤ 1099511627776) : F77 (l, ()) = some (l, ()) := by
  unfold F77 emptyK
  cases l with
  | nil => rw [capK_le (by simp)]; exact both_self
  | cons x l => rw [capK_le (by simpa using hl)]; rfl
/-- What is marked: the numbers from 'k' on. -/
def marks : Nat → Int → List Int
  | 0, _ => []
  | n + 1, k => k :: marks n (k + 1)
theorem marks_len : ∀ (n : Nat) (k : Int), (marks n k).length = n
  | 0, _ => rfl
  | n + 1, k => by simp [marks, marks_len n]
theorem marks_at : ∀ (n : Nat) (k : Int) (i : Nat), i < n → (marks n k)[i]? = some (k + i)
  | 0, _, _, h => by omega
  | n + 1, k, 0, _ => by simp [marks]
  | n + 1, k, i + 1, h => by
    simp only [marks, List.getElem?_cons_succ]
    rw [marks_at n (k + 1) i (by omega)]
    congr 1; omega
theorem F78_is (l : List Int) (hl : l.length ≤ 1099511627776) : F78 F119 (l, ()) = some (isTr l, ()) := by
  unfold F78
  rcases iterF_rule (f := s78_0 F119) (K := fun t4 => some (decide (Int.ofNat (List.length t4.1) ≤ 64), ())) (t := (l, l, Int.ofNat l.length, 0, ())) l.length
    (fun i t => t = (l, l, Int.ofNat l.length, (i : Int), ()) ∧ ∀ x ∈ l.take i, inR x = true) (fun r => r = some (false, ()) ∧ l.all inR = false) (fun t => t.1 = l ∧ ∀ x ∈ l, inR x = true) (by omega) ⟨rfl, by simp⟩
    (by
      rintro i _ hi ⟨rfl, hall⟩
      have hx : l[i]? = some l[i] := by simp
      have e : ∀ rec K, s78_0 F119 (l, l, Int.ofNat l.length, (i : Int), ()) rec K = cond (!inR l[i]) (some (false, ())) (rec (l, l, Int.ofNat l.length, ((i + 1 : Nat) : Int), ())) := by
        intro rec K
        simp only [s78_0]
        rw [cond_dec, if_pos (by simp; omega), rdL_at hx, F119_eq, w64_id (by omega) (by omega)]
        rfl
      cases hb : inR l[i]
      · refine .inr (.inl ⟨_, ⟨rfl, ?_⟩, fun rec K => by rw [e, hb]; rfl⟩)
        simp only [List.all_eq_false]
        exact ⟨l[i], by simp, by simp [hb]⟩
      · refine .inl ⟨_, ⟨rfl, fun x hx' => ?_⟩, fun rec K => by rw [e, hb]; rfl⟩
        rw [List.take_add_one, hx] at hx'
        rcases List.mem_append.mp hx' with h | h
        · exact hall x h
        · simp at h; subst h; exact hb)
    (by
      rintro _ ⟨rfl, hall⟩
      refine .inr ⟨(l, l, Int.ofNat l.length, (l.length : Int), ()), ⟨rfl, by simpa using hall⟩, fun rec K => ?_⟩
      simp only [s78_0]
      rw [cond_dec, if_neg (by simp)]) with ⟨r, ⟨rfl, ha⟩, h⟩ | ⟨t, ⟨ht, hall⟩, h⟩
  · rw [h, isTr, ha]; rfl
  · rw [h, isTr, List.all_eq_true.mpr hall, ht]
    simp
    omega
theorem F22_is (l : List Int) (hl : l.length ≤ 1099511627776) : F22 F72 (l, ()) = some (isTr l, ()) := by rw [F22_F15]; exact F78_is l hl
def marksR : Nat → Int → List Run
  | 0, _ => []
  | n + 1, k => ⟨k, k + 1⟩ :: marksR n (k + 2)
theorem marksR_len : ∀ (n : Nat) (k : Int), (marksR n k).length = n
  | 0, _ => rfl
  | n + 1, k => by simp [marksR, marksR_len n]
theorem marksR_at : ∀ (n : Nat) (k : Int) (i : Nat), i < n → (marksR n k)[i]? = some ⟨k + 2 * i, k + 2 * i + 1⟩
  | 0, _, _, h => by omega
  | n + 1, k, 0, _ => by simp [marksR]
  | n + 1, k, i + 1, h => by
    simp only [marksR, List.getElem?_cons_succ]
    rw [marksR_at n (k + 2) i (by omega)]
    rw [show k + 2 + 2 * (i : Int) = k + 2 * ((i + 1 : Nat) : Int) by omega]
theorem rep_succ (j : Nat) (x : Int) : List.replicate j x ++ [x] = List.replicate (j + 1) x := by
  rw [List.replicate_succ']
theorem in50 (out : List Int) (r : List Run) (d : Run) (r' : List Run) (n i : Int) (h0 : 0 ≤ d.Count) (h1 : d.Count ≤ 64) (ho : out.length ≤ 64) (K : List Run × List Int × Run × List Run × Int × Int × Int × Int × Unit → Option (List Int × Bool × Unit)) :
    iterF (s16_2 F72) fuel (r, out, d, r', n, i, d.Count, 0, ()) K = K (r, out ++ List.replicate d.Count.toNat d.Level, d, r', n, i, d.Count, d.Count, ()) := by
  obtain ⟨t, ⟨_, rfl⟩, e⟩ := iterF_all (f := s16_2 F72) (K := K) (t := (r, out, d, r', n, i, d.Count, 0, ())) d.Count.toNat
    (fun j t => True ∧ t = (r, out ++ List.replicate j d.Level, d, r', n, i, d.Count, (j : Int), ())) (by omega) ⟨trivial, by simp⟩
    (by
      rintro j _ hj ⟨_, rfl⟩
      refine ⟨_, ⟨trivial, rfl⟩, fun rec K => ?_⟩
      simp only [s16_2]
      rw [cond_true_dec (by omega), capK_le (by simp; omega), w64_id (by omega) (by omega), List.append_assoc, rep_succ]
      rfl)
    (by
      rintro _ ⟨_, rfl⟩ rec K
      simp only [s16_2]
      rw [cond_false_dec (by omega)])
  rw [e, show ((d.Count.toNat : Nat) : Int) = d.Count by omega]
theorem F72_is (a b c : Int) : F72 (a, b, c, ()) = some (decide (b ≤ a) && decide (a ≤ c), ()) := by
  unfold F72
  by_cases h : b ≤ a <;> simp [h]
/-- What a run does to what was drawn so far. -/
def runOK (l : List Run) (i : Nat) (out : List Int) (d : Run) : Bool :=
  decide (1 ≤ d.Count) && decide (d.Count ≤ 64 - (out.length : Int)) && inR d.Level && !(decide (0 < i) && decide ((l[i - 1]?).map Run.Level = some d.Level))
theorem isTr_app (out : List Int) (d : Run) (ho : isTr out = true) (h1 : 1 ≤ d.Count) : isTr (out ++ List.replicate d.Count.toNat d.Level) = (decide (d.Count ≤ 64 - (out.length : Int)) && inR d.Level) := by
  simp only [isTr, Bool.and_eq_true, decide_eq_true_eq] at ho
  unfold isTr
  rw [List.all_append, ho.1, Bool.true_and, List.all_replicate, if_neg (by omega), Bool.and_comm]
  congr 1
  simp only [List.length_append, List.length_replicate, decide_eq_decide]
  omega
theorem round16 (l : List Run) (hl : l.length ≤ 1048576) (out : List Int) (ho : isTr out = true) (i : Nat) (hi : i < l.length) (rec K) :
    s16_0 F72 (l, out, l, Int.ofNat l.length, (i : Int), ()) rec K = cond (runOK l i out l[i]) (rec (l, out ++ List.replicate l[i].Count.toNat l[i].Level, l, Int.ofNat l.length, ((i + 1 : Nat) : Int), ())) (some ([], false, ())) := by
  have hx : l[i]? = some l[i] := by simp
  have ho' : out.length ≤ 64 := by simp only [isTr, Bool.and_eq_true, decide_eq_true_eq] at ho; exact ho.2
  simp only [s16_0]
  rw [cond_true_dec (by simp; omega), rdL_at hx, w64_id (n := 64 - Int.ofNat out.length) (by simp; omega) (by simp; omega), F72_is, Option.bind_some]
  by_cases c1 : 1 ≤ l[i].Count ∧ l[i].Count ≤ 64 - (out.length : Int)
  · have e1 : (decide (1 ≤ l[i].Count) && decide (l[i].Count ≤ 64 - Int.ofNat out.length)) = true := by simp [c1.1]; exact c1.2
    rw [e1]
    simp only [Bool.not_true, Bool.not_false, cond_true]
    rw [F72_is, Option.bind_some]
    by_cases c2 : inR l[i].Level = true
    · have e2 : (decide (0 ≤ l[i].Level) && decide (l[i].Level ≤ 32)) = true := c2
      rw [e2]
      simp only [Bool.not_true, Bool.not_false, cond_true]
      have tail : ∀ rec' : List Run × List Int × List Run × Int × Int × Unit → Option (List Int × Bool × Unit), (iterF (s16_2 F72) fuel (l, out, l[i], l, Int.ofNat l.length, (i : Int), l[i].Count, 0, ()) fun t7 => rec' (t7.1, t7.2.1, t7.2.2.2.1, t7.2.2.2.2.1, (w64 (t7.2.2.2.2.2.1 + 1)), ())) =
          rec' (l, out ++ List.replicate l[i].Count.toNat l[i].Level, l, Int.ofNat l.length, ((i + 1 : Nat) : Int), ()) := by
        intro rec'
        rw [in50 _ _ _ _ _ _ (by omega) (by omega) ho']
        simp only []
        rw [w64_id (by omega) (by omega)]; rfl
      by_cases hz : (i : Int) > 0
      · obtain ⟨j, rfl⟩ : ∃ j, i = j + 1 := ⟨i - 1, by omega⟩
        have hy : l[j]? = some l[j] := by simp
        rw [cond_true_dec hz, show w64 (((j + 1 : Nat) : Int) - 1) = (j : Int) by rw [w64_id (by omega) (by omega)]; omega, rdL_at hy]
        by_cases hs : l[j + 1].Level = l[j].Level
        · have : runOK l (j + 1) out l[j + 1] = false := by unfold runOK; simp [hy, hs]
          simp [hs, this]
        · have : runOK l (j + 1) out l[j + 1] = true := by unfold runOK; simp [hy, c1.1, c1.2, c2, show ¬ l[j].Level = l[j + 1].Level from fun e => hs e.symm]
          rw [cond_false_dec hs, tail, this]; rfl
      · have : runOK l i out l[i] = true := by unfold runOK; simp [show ¬ 0 < i by omega, c1.1, c1.2, c2]
        rw [cond_false_dec hz, tail, this]; rfl
    · have e2 : (decide (0 ≤ l[i].Level) && decide (l[i].Level ≤ 32)) = false := by simpa [inR] using c2
      have : runOK l i out l[i] = false := by unfold runOK; simp [show inR l[i].Level = false by simpa using c2]
      rw [e2, this]; rfl
  · have e1 : (decide (1 ≤ l[i].Count) && decide (l[i].Count ≤ 64 - Int.ofNat out.length)) = false := by
      rw [← Bool.not_eq_true]; simp only [Bool.and_eq_true, decide_eq_true_eq]; exact c1
    have e3 : (decide (1 ≤ l[i].Count) && decide (l[i].Count ≤ 64 - (out.length : Int))) = false := e1
    have : runOK l i out l[i] = false := by unfold runOK; rw [e3]; rfl
    rw [e1, this]; rfl
end Ev
