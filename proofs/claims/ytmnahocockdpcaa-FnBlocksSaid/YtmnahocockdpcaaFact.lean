/- Plain facts of the track functions that many laws lean on. -/
import Derived.Test.YtmnahocockdpcaaFn
import Derived.Test.YtmnahocockdpcaaPure
set_option linter.unusedVariables false
set_option linter.unusedSimpArgs false
namespace Ev
open Go
theorem F55_eq (a : Int) : F55 (a, 0, 32, ()) = some (decide (0 ≤ a) && decide (a ≤ 32), ()) := by
  unfold F55
  by_cases h : 0 ≤ a <;> simp [h]
theorem both_self {R : Type} {a : Option R} : both a a = a := by unfold both; rw [if_pos rfl]
/-- What is marked: the numbers from 'k' on. -/
def marks : Nat → Int → List Int
  | 0, _ => []
  | n + 1, k => k :: marks n (k + 1)
theorem marks_len : ∀ (n : Nat) (k : Int), (marks n k).length = n
  | 0, _ => rfl
  | n + 1, k => by simp [marks, marks_len n]
theorem marks_at : ∀ (n : Nat) (k : Int) (i : Nat), i < n → (marks n k)[i]? = some (k + i)
  | 0, _, _, h => by omega
  | n + 1, k, 0, _ => by simp [marks]
  | n + 1, k, i + 1, h => by
    simp only [marks, List.getElem?_cons_succ]
    rw [marks_at n (k + 1) i (by omega)]
    congr 1; omega
theorem F17_is (l : List Int) (hl : l.length ≤ 1099511627776) : F17 F55 (l, ()) = some (isTr l, ()) := by
  unfold F17
  rcases iterF_rule (f := s17_0 F55) (K := fun t4 => some (decide (Int.ofNat (List.length t4.1) ≤ 64), ())) (t := (l, l, Int.ofNat l.length, 0, ())) l.length
    (fun i t => t = (l, l, Int.ofNat l.length, (i : Int), ()) ∧ ∀ x ∈ l.take i, inR x = true) (fun r => r = some (false, ()) ∧ l.all inR = false) (fun t => t.1 = l ∧ ∀ x ∈ l, inR x = true) (by omega) ⟨rfl, by simp⟩
    (by
      rintro i _ hi ⟨rfl, hall⟩
      have hx : l[i]? = some l[i] := by simp
      have e : ∀ rec K, s17_0 F55 (l, l, Int.ofNat l.length, (i : Int), ()) rec K = cond (!inR l[i]) (some (false, ())) (rec (l, l, Int.ofNat l.length, ((i + 1 : Nat) : Int), ())) := by
        intro rec K
        simp only [s17_0]
        rw [cond_dec, if_pos (by simp; omega), rdL_at hx, F55_eq, w64_id (by omega) (by omega)]
        rfl
      cases hb : inR l[i]
      · refine .inr (.inl ⟨_, ⟨rfl, ?_⟩, fun rec K => by rw [e, hb]; rfl⟩)
        simp only [List.all_eq_false]
        exact ⟨l[i], by simp, by simp [hb]⟩
      · refine .inl ⟨_, ⟨rfl, fun x hx' => ?_⟩, fun rec K => by rw [e, hb]; rfl⟩
        rw [List.take_add_one, hx] at hx'
        rcases List.mem_append.mp hx' with h | h
        · exact hall x h
        · simp at h; subst h; exact hb)
    (by
      rintro _ ⟨rfl, hall⟩
      refine .inr ⟨(l, l, Int.ofNat l.length, (l.length : Int), ()), ⟨rfl, by simpa using hall⟩, fun rec K => ?_⟩
      simp only [s17_0]
      rw [cond_dec, if_neg (by simp)]) with ⟨r, ⟨rfl, ha⟩, h⟩ | ⟨t, ⟨ht, hall⟩, h⟩
  · rw [h, isTr, ha]; rfl
  · rw [h, isTr, List.all_eq_true.mpr hall, ht]
    simp
    omega
def marksR : Nat → Int → List Run
  | 0, _ => []
  | n + 1, k => ⟨k, k + 1⟩ :: marksR n (k + 2)
theorem marksR_len : ∀ (n : Nat) (k : Int), (marksR n k).length = n
  | 0, _ => rfl
  | n + 1, k => by simp [marksR, marksR_len n]
theorem marksR_at : ∀ (n : Nat) (k : Int) (i : Nat), i < n → (marksR n k)[i]? = some ⟨k + 2 * i, k + 2 * i + 1⟩
  | 0, _, _, h => by omega
  | n + 1, k, 0, _ => by simp [marksR]
  | n + 1, k, i + 1, h => by
    simp only [marksR, List.getElem?_cons_succ]
    rw [marksR_at n (k + 2) i (by omega)]
    rw [show k + 2 + 2 * (i : Int) = k + 2 * ((i + 1 : Nat) : Int) by omega]
theorem rep_succ (j : Nat) (x : Int) : List.replicate j x ++ [x] = List.replicate (j + 1) x := by
  rw [List.replicate_succ']
theorem F55_is (a b c : Int) : F55 (a, b, c, ()) = some (decide (b ≤ a) && decide (a ≤ c), ()) := by
  unfold F55
  by_cases h : b ≤ a <;> simp [h]
/-- What a run does to what was drawn so far. -/
def runOK (l : List Run) (i : Nat) (out : List Int) (d : Run) : Bool :=
  decide (1 ≤ d.Count) && decide (d.Count ≤ 64 - (out.length : Int)) && inR d.Level && !(decide (0 < i) && decide ((l[i - 1]?).map Run.Level = some d.Level))
theorem isTr_app (out : List Int) (d : Run) (ho : isTr out = true) (h1 : 1 ≤ d.Count) : isTr (out ++ List.replicate d.Count.toNat d.Level) = (decide (d.Count ≤ 64 - (out.length : Int)) && inR d.Level) := by
  simp only [isTr, Bool.and_eq_true, decide_eq_true_eq] at ho
  unfold isTr
  rw [List.all_append, ho.1, Bool.true_and, List.all_replicate, if_neg (by omega), Bool.and_comm]
  congr 1
  simp only [List.length_append, List.length_replicate, decide_eq_decide]
  omega
end Ev
