/- Plain facts of the track functions that many laws lean on. -/
import Derived.Test.YtpnlcamcnhpbhaaAbb
import Derived.Test.YtpnlcamcnhpbhaaPureA
set_option linter.unusedVariables false
set_option linter.unusedSimpArgs false
namespace Ev
open Go
theorem F6_eq (l : List Int) (hl : l.length ≤ 1048576) : F6 (l, ()) = some (l, ()) := by
  unfold F6
  rw [okIf_pos (by simp), capK_le (by simp; omega)]
  obtain ⟨t, ⟨m, rfl, h1, h2⟩, e⟩ := iterF_all (f := s6_0) (K := fun t4 => some (t4.2.1, ())) (t := (l, List.replicate (Int.toNat (Int.ofNat l.length)) (Ty.zero .int), 0, ())) l.length
    (fun i t => ∃ m : List Int, t = (l, m, (i : Int), ()) ∧ m.length = l.length ∧ ∀ j, j < i → m[j]? = l[j]?) (by omega) ⟨_, rfl, by simp, fun j hj => by omega⟩
    (by
      rintro i _ hi ⟨m, rfl, h1, h2⟩
      have hx : l[i]? = some l[i] := by simp
      have hd : m[i]? = some m[i] := by simp
      refine ⟨_, ⟨m.set i l[i], rfl, by simp [h1], fun j hj => ?_⟩, fun rec K => ?_⟩
      · rw [List.getElem?_set]
        by_cases hji : i = j
        · subst hji; simp [h1, hi]
        · simp only [if_neg hji]; exact h2 j (by omega)
      · simp only [s6_0]
        rw [cond_dec, if_pos (by simp; omega), rdL_at hx, rdL_at hd]
        simp only [Int.toNat_natCast]
        rw [hd, w64_id (by omega) (by omega)]
        rfl)
    (by
      rintro _ ⟨m, rfl, h1, h2⟩ rec K
      simp only [s6_0]
      rw [cond_dec, if_neg (by simp)])
  have : m = l := List.ext_getElem? fun j => by
    by_cases hj : j < l.length
    · exact h2 j hj
    · rw [List.getElem?_eq_none (by omega), List.getElem?_eq_none (by omega)]
  subst this
  exact e
theorem F8_eq (l : List Int) (hl : l.length ≤ 1048576) : F8 (l, l, ()) = some (true, ()) := by
  unfold F8
  simp only [decide_true, Bool.not_true, cond_false]
  obtain ⟨t, ⟨_, rfl⟩, e⟩ := iterF_all (f := s8_0) (K := fun _ => some (true, ())) (t := (l, l, 0, ())) l.length
    (fun i t => True ∧ t = (l, l, (i : Int), ())) (by omega) ⟨trivial, rfl⟩
    (by
      rintro i _ hi ⟨_, rfl⟩
      have hx : l[i]? = some l[i] := by simp
      refine ⟨_, ⟨trivial, rfl⟩, fun rec K => ?_⟩
      simp only [s8_0]
      rw [cond_dec, if_pos (by simp; omega), rdL_at hx, rdL_at hx, w64_id (by omega) (by omega)]
      simp)
    (by
      rintro _ ⟨_, rfl⟩ rec K
      simp only [s8_0]
      rw [cond_dec, if_neg (by simp)])
  exact e
theorem F29_eq (a : Int) : F29 (a, 0, 32, ()) = some (decide (0 ≤ a) && decide (a ≤ 32), ()) := by
  unfold F29
  by_cases h : 0 ≤ a <;> simp [h]
theorem F27_eq (a : Int) : F27 (a, 0, 32, ()) = some (decide (0 ≤ a) && decide (a ≤ 32), ()) := by
  unfold F27
  by_cases h : 0 ≤ a <;> simp [h]
theorem F19_some (l : List Int) (hl : l.length ≤ 1048576) : ∃ b, F19 F29 (l, ()) = some (b, ()) := by
  unfold F19
  rcases iterF_rule (f := s19_0 F29) (K := fun t4 => some (decide (Int.ofNat (List.length t4.1) ≤ 64), ())) (t := (l, l, Int.ofNat l.length, 0, ())) l.length
    (fun i t => t = (l, l, Int.ofNat l.length, (i : Int), ())) (fun r => ∃ b, r = some (b, ())) (fun _ => True) (by omega) rfl
    (by
      rintro i _ hi rfl
      have hx : l[i]? = some l[i] := by simp
      have e : ∀ rec K, s19_0 F29 (l, l, Int.ofNat l.length, (i : Int), ()) rec K = cond (!(decide (0 ≤ l[i]) && decide (l[i] ≤ 32))) (some (false, ())) (rec (l, l, Int.ofNat l.length, ((i + 1 : Nat) : Int), ())) := by
        intro rec K
        simp only [s19_0]
        rw [cond_dec, if_pos (by simp; omega), rdL_at hx, F29_eq, w64_id (by omega) (by omega)]
        rfl
      cases hb : (decide (0 ≤ l[i]) && decide (l[i] ≤ 32))
      · exact .inr (.inl ⟨_, ⟨false, rfl⟩, fun rec K => by rw [e, hb]; rfl⟩)
      · exact .inl ⟨_, rfl, fun rec K => by rw [e, hb]; rfl⟩)
    (by
      rintro _ rfl
      refine .inr ⟨(l, l, Int.ofNat l.length, (l.length : Int), ()), trivial, fun rec K => ?_⟩
      simp only [s19_0]
      rw [cond_dec, if_neg (by simp)]) with ⟨r, ⟨b, rfl⟩, h⟩ | ⟨t, _, h⟩
  · exact ⟨b, h⟩
  · exact ⟨_, h⟩
theorem F15_F15 : F15 F27 = F19 F29 := by
  have e : s15_0 F27 = s19_0 F29 := by
    funext t rec K
    simp only [s15_0, s19_0, F29_eq, F27_eq]
  funext a
  unfold F15 F19
  rw [e]

/-- Whether a list is a track. -/
theorem F19_ok (l : List Int) (hl : l.length ≤ 1048576) : ∃ b, F19 F29 (l, ()) = some (b, ()) ∧ F15 F27 (l, ()) = some (b, ()) ∧ (b = true → l.length ≤ 64 ∧ ∀ x ∈ l, 0 ≤ x ∧ x ≤ 32) := by
  have : ∃ b, F19 F29 (l, ()) = some (b, ()) ∧ (b = true → l.length ≤ 64 ∧ ∀ x ∈ l, 0 ≤ x ∧ x ≤ 32) := by
    unfold F19
    rcases iterF_rule (f := s19_0 F29) (K := fun t4 => some (decide (Int.ofNat (List.length t4.1) ≤ 64), ())) (t := (l, l, Int.ofNat l.length, 0, ())) l.length
      (fun i t => t = (l, l, Int.ofNat l.length, (i : Int), ()) ∧ ∀ x ∈ l.take i, 0 ≤ x ∧ x ≤ 32) (fun r => r = some (false, ())) (fun t => t.1 = l ∧ ∀ x ∈ l, 0 ≤ x ∧ x ≤ 32) (by omega) ⟨rfl, by simp⟩
      (by
        rintro i _ hi ⟨rfl, hall⟩
        have hx : l[i]? = some l[i] := by simp
        have e : ∀ rec K, s19_0 F29 (l, l, Int.ofNat l.length, (i : Int), ()) rec K = cond (!(decide (0 ≤ l[i]) && decide (l[i] ≤ 32))) (some (false, ())) (rec (l, l, Int.ofNat l.length, ((i + 1 : Nat) : Int), ())) := by
          intro rec K
          simp only [s19_0]
          rw [cond_dec, if_pos (by simp; omega), rdL_at hx, F29_eq, w64_id (by omega) (by omega)]
          rfl
        cases hb : (decide (0 ≤ l[i]) && decide (l[i] ≤ 32))
        · exact .inr (.inl ⟨_, rfl, fun rec K => by rw [e, hb]; rfl⟩)
        · refine .inl ⟨_, ⟨rfl, fun x hx' => ?_⟩, fun rec K => by rw [e, hb]; rfl⟩
          rw [List.take_add_one, hx] at hx'
          rcases List.mem_append.mp hx' with h | h
          · exact hall x h
          · simp at h hb; subst h; exact hb)
      (by
        rintro _ ⟨rfl, hall⟩
        refine .inr ⟨(l, l, Int.ofNat l.length, (l.length : Int), ()), ⟨rfl, by simpa using hall⟩, fun rec K => ?_⟩
        simp only [s19_0]
        rw [cond_dec, if_neg (by simp)]) with ⟨r, rfl, h⟩ | ⟨t, ⟨ht, hall⟩, h⟩
    · exact ⟨false, h, fun e => by cases e⟩
    · refine ⟨_, h, fun e => ⟨?_, hall⟩⟩
      rw [ht] at e
      simp at e; omega
  obtain ⟨b, h1, h2⟩ := this
  exact ⟨b, h1, by rw [F15_F15]; exact h1, h2⟩
theorem both_self {R : Type} {a : Option R} : both a a = a := by unfold both; rw [if_pos rfl]
theorem F26_eq (l : List Int) (hl : l.length ≤ 1099511627776) : F26 (l, ()) = some (l, ()) := by
  unfold F26 emptyK
  cases l with
  | nil => rw [capK_le (by simp)]; exact both_self
  | cons x l => rw [capK_le (by simpa using hl)]; rfl
/-- What is marked: the numbers from 'k' on. -/
def marks : Nat → Int → List Int
  | 0, _ => []
  | n + 1, k => k :: marks n (k + 1)
theorem marks_len : ∀ (n : Nat) (k : Int), (marks n k).length = n
  | 0, _ => rfl
  | n + 1, k => by simp [marks, marks_len n]
theorem marks_at : ∀ (n : Nat) (k : Int) (i : Nat), i < n → (marks n k)[i]? = some (k + i)
  | 0, _, _, h => by omega
  | n + 1, k, 0, _ => by simp [marks]
  | n + 1, k, i + 1, h => by
    simp only [marks, List.getElem?_cons_succ]
    rw [marks_at n (k + 1) i (by omega)]
    congr 1; omega
theorem F9_eqk (l : List Int) (hl : l.length ≤ 1048576) (k : Int) (hk0 : 0 ≤ k) (hk : k ≤ 1099511627776) : F9 (l, k, ()) = some (marks l.length k, k + (l.length : Int), ()) := by
  unfold F9
  obtain ⟨t, ⟨m, rfl, h1, h2⟩, e⟩ := iterF_all (f := s9_0) (K := fun t3 => some (t3.1, t3.2.1, ())) (t := (l, k, 0, ())) l.length
    (fun i t => ∃ m : List Int, t = (m, k + (i : Int), (i : Int), ()) ∧ m.length = l.length ∧ ∀ j : Nat, j < i → m[j]? = some (k + (j : Int))) (by omega) ⟨l, by simp, rfl, fun j hj => by omega⟩
    (by
      rintro i _ hi ⟨m, rfl, h1, h2⟩
      have hd : m[i]? = some m[i] := by simp
      refine ⟨_, ⟨m.set i (k + (i : Int)), rfl, by simp [h1], fun j hj => ?_⟩, fun rec K => ?_⟩
      · rw [List.getElem?_set]
        by_cases hji : i = j
        · subst hji; simp [h1, hi]
        · simp only [if_neg hji]; exact h2 j (by omega)
      · simp only [s9_0]
        rw [cond_true_dec (by simp; omega), rdL_at hd]
        simp only [Int.toNat_natCast]
        rw [hd, w64_id (by omega) (by omega), w64_id (by omega) (by omega)]
        simp only [Option.bind_some]
        rw [show k + (i : Int) + 1 = k + ((i + 1 : Nat) : Int) by omega]
        rfl)
    (by
      rintro _ ⟨m, rfl, h1, h2⟩ rec K
      simp only [s9_0]
      rw [cond_false_dec (by simp; omega)])
  have : m = marks l.length k := List.ext_getElem? fun j => by
    by_cases hj : j < l.length
    · rw [h2 j hj, marks_at _ _ _ hj]
    · rw [List.getElem?_eq_none (by omega), List.getElem?_eq_none (by rw [marks_len]; omega)]
  subst this
  exact e
theorem F9_eq (l : List Int) (hl : l.length ≤ 1048576) : F9 (l, 1, ()) = some (marks l.length 1, 1 + (l.length : Int), ()) := F9_eqk l hl 1 (by omega) (by omega)
theorem F10_eq (n : Nat) (hn : n ≤ 1048576) : F10 (marks n 1, 1, ()) = some (1 + (n : Int), ()) := by
  unfold F10
  obtain ⟨t, ⟨_, rfl⟩, e⟩ := iterF_all (f := s10_0) (K := fun t3 => some (t3.2.1, ())) (t := (marks n 1, 1, 0, ())) n
    (fun i t => True ∧ t = (marks n 1, 1 + (i : Int), (i : Int), ())) (by omega) ⟨trivial, rfl⟩
    (by
      rintro i _ hi ⟨_, rfl⟩
      refine ⟨_, ⟨trivial, rfl⟩, fun rec K => ?_⟩
      simp only [s10_0]
      rw [cond_true_dec (by simp [marks_len]; omega), rdL_at (marks_at n 1 i hi), w64_id (by omega) (by omega), w64_id (by omega) (by omega)]
      simp only [decide_true, Bool.not_true, cond_false]
      rw [show (1 : Int) + (i : Int) + 1 = 1 + ((i + 1 : Nat) : Int) by omega]
      rfl)
    (by
      rintro _ ⟨_, rfl⟩ rec K
      simp only [s10_0]
      rw [cond_false_dec (by simp [marks_len])])
  exact e
theorem F19_is (l : List Int) (hl : l.length ≤ 1099511627776) : F19 F29 (l, ()) = some (isTr l, ()) := by
  unfold F19
  rcases iterF_rule (f := s19_0 F29) (K := fun t4 => some (decide (Int.ofNat (List.length t4.1) ≤ 64), ())) (t := (l, l, Int.ofNat l.length, 0, ())) l.length
    (fun i t => t = (l, l, Int.ofNat l.length, (i : Int), ()) ∧ ∀ x ∈ l.take i, inR x = true) (fun r => r = some (false, ()) ∧ l.all inR = false) (fun t => t.1 = l ∧ ∀ x ∈ l, inR x = true) (by omega) ⟨rfl, by simp⟩
    (by
      rintro i _ hi ⟨rfl, hall⟩
      have hx : l[i]? = some l[i] := by simp
      have e : ∀ rec K, s19_0 F29 (l, l, Int.ofNat l.length, (i : Int), ()) rec K = cond (!inR l[i]) (some (false, ())) (rec (l, l, Int.ofNat l.length, ((i + 1 : Nat) : Int), ())) := by
        intro rec K
        simp only [s19_0]
        rw [cond_dec, if_pos (by simp; omega), rdL_at hx, F29_eq, w64_id (by omega) (by omega)]
        rfl
      cases hb : inR l[i]
      · refine .inr (.inl ⟨_, ⟨rfl, ?_⟩, fun rec K => by rw [e, hb]; rfl⟩)
        simp only [List.all_eq_false]
        exact ⟨l[i], by simp, by simp [hb]⟩
      · refine .inl ⟨_, ⟨rfl, fun x hx' => ?_⟩, fun rec K => by rw [e, hb]; rfl⟩
        rw [List.take_add_one, hx] at hx'
        rcases List.mem_append.mp hx' with h | h
        · exact hall x h
        · simp at h; subst h; exact hb)
    (by
      rintro _ ⟨rfl, hall⟩
      refine .inr ⟨(l, l, Int.ofNat l.length, (l.length : Int), ()), ⟨rfl, by simpa using hall⟩, fun rec K => ?_⟩
      simp only [s19_0]
      rw [cond_dec, if_neg (by simp)]) with ⟨r, ⟨rfl, ha⟩, h⟩ | ⟨t, ⟨ht, hall⟩, h⟩
  · rw [h, isTr, ha]; rfl
  · rw [h, isTr, List.all_eq_true.mpr hall, ht]
    simp
    omega
theorem F15_is (l : List Int) (hl : l.length ≤ 1099511627776) : F15 F27 (l, ()) = some (isTr l, ()) := by
  unfold F15
  rcases iterF_rule (f := s15_0 F27) (K := fun t4 => some (decide (Int.ofNat (List.length t4.1) ≤ 64), ())) (t := (l, l, Int.ofNat l.length, 0, ())) l.length
    (fun i t => t = (l, l, Int.ofNat l.length, (i : Int), ()) ∧ ∀ x ∈ l.take i, inR x = true) (fun r => r = some (false, ()) ∧ l.all inR = false) (fun t => t.1 = l ∧ ∀ x ∈ l, inR x = true) (by omega) ⟨rfl, by simp⟩
    (by
      rintro i _ hi ⟨rfl, hall⟩
      have hx : l[i]? = some l[i] := by simp
      have e : ∀ rec K, s15_0 F27 (l, l, Int.ofNat l.length, (i : Int), ()) rec K = cond (!inR l[i]) (some (false, ())) (rec (l, l, Int.ofNat l.length, ((i + 1 : Nat) : Int), ())) := by
        intro rec K
        simp only [s15_0]
        rw [cond_dec, if_pos (by simp; omega), rdL_at hx, F27_eq, w64_id (by omega) (by omega)]
        rfl
      cases hb : inR l[i]
      · refine .inr (.inl ⟨_, ⟨rfl, ?_⟩, fun rec K => by rw [e, hb]; rfl⟩)
        simp only [List.all_eq_false]
        exact ⟨l[i], by simp, by simp [hb]⟩
      · refine .inl ⟨_, ⟨rfl, fun x hx' => ?_⟩, fun rec K => by rw [e, hb]; rfl⟩
        rw [List.take_add_one, hx] at hx'
        rcases List.mem_append.mp hx' with h | h
        · exact hall x h
        · simp at h; subst h; exact hb)
    (by
      rintro _ ⟨rfl, hall⟩
      refine .inr ⟨(l, l, Int.ofNat l.length, (l.length : Int), ()), ⟨rfl, by simpa using hall⟩, fun rec K => ?_⟩
      simp only [s15_0]
      rw [cond_dec, if_neg (by simp)]) with ⟨r, ⟨rfl, ha⟩, h⟩ | ⟨t, ⟨ht, hall⟩, h⟩
  · rw [h, isTr, ha]; rfl
  · rw [h, isTr, List.all_eq_true.mpr hall, ht]
    simp
    omega
def marksR : Nat → Int → List Run
  | 0, _ => []
  | n + 1, k => ⟨k, k + 1⟩ :: marksR n (k + 2)
theorem marksR_len : ∀ (n : Nat) (k : Int), (marksR n k).length = n
  | 0, _ => rfl
  | n + 1, k => by simp [marksR, marksR_len n]
theorem marksR_at : ∀ (n : Nat) (k : Int) (i : Nat), i < n → (marksR n k)[i]? = some ⟨k + 2 * i, k + 2 * i + 1⟩
  | 0, _, _, h => by omega
  | n + 1, k, 0, _ => by simp [marksR]
  | n + 1, k, i + 1, h => by
    simp only [marksR, List.getElem?_cons_succ]
    rw [marksR_at n (k + 2) i (by omega)]
    rw [show k + 2 + 2 * (i : Int) = k + 2 * ((i + 1 : Nat) : Int) by omega]
theorem rep_succ (j : Nat) (x : Int) : List.replicate j x ++ [x] = List.replicate (j + 1) x := by
  rw [List.replicate_succ']
theorem F27_is (a b c : Int) : F27 (a, b, c, ()) = some (decide (b ≤ a) && decide (a ≤ c), ()) := by
  unfold F27
  by_cases h : b ≤ a <;> simp [h]
/-- What a run does to what was drawn so far. -/
def runOK (l : List Run) (i : Nat) (out : List Int) (d : Run) : Bool :=
  decide (1 ≤ d.Count) && decide (d.Count ≤ 64 - (out.length : Int)) && inR d.Level && !(decide (0 < i) && decide ((l[i - 1]?).map Run.Level = some d.Level))
theorem isTr_app (out : List Int) (d : Run) (ho : isTr out = true) (h1 : 1 ≤ d.Count) : isTr (out ++ List.replicate d.Count.toNat d.Level) = (decide (d.Count ≤ 64 - (out.length : Int)) && inR d.Level) := by
  simp only [isTr, Bool.and_eq_true, decide_eq_true_eq] at ho
  unfold isTr
  rw [List.all_append, ho.1, Bool.true_and, List.all_replicate, if_neg (by omega), Bool.and_comm]
  congr 1
  simp only [List.length_append, List.length_replicate, decide_eq_decide]
  omega
end Ev
