/- The higher of two tracks, and a track cut at a level. -/
import Derived.Test.YtlifghlhbfjdmaaFact
import Derived.Test.YtlifghlhbfjdmaaAny
set_option linter.unusedVariables false
set_option linter.unusedSimpArgs false
namespace Ev
open Go
theorem isTr_spec (l : List Int) : isTr l = true → l.length ≤ 64 ∧ ∀ x ∈ l, 0 ≤ x ∧ x ≤ 32 := by
  intro h
  simp only [isTr, Bool.and_eq_true, decide_eq_true_eq] at h
  exact ⟨h.2, fun x hx => inR_mem h.1 hx⟩
theorem isTr_of (l : List Int) (h1 : l.length ≤ 64) (h2 : ∀ x ∈ l, 0 ≤ x ∧ x ≤ 32) : isTr l = true := by
  simp only [isTr, Bool.and_eq_true, decide_eq_true_eq]
  exact ⟨List.all_eq_true.mpr fun x hx => by have := h2 x hx; simp [inR]; omega, h1⟩
theorem F79_eq (a b : Int) : F79 (a, b, ()) = some (mx a b, ()) := by
  unfold F79
  rw [cond_dec, mx_eq]
  simp only []
  split <;> split <;> first | rfl | omega | (congr 2; omega)
theorem mx_comm (a b : Int) : mx a b = mx b a := by
  simp only [mx_eq]
  repeat' split
  all_goals omega
/-- The higher of two lists, at each place. -/
def higher : List Int → List Int → List Int
  | [], b => b
  | x :: a, [] => x :: a
  | x :: a, y :: b => mx x y :: higher a b
theorem higher_comm : ∀ a b : List Int, higher a b = higher b a
  | [], [] => rfl
  | [], _ :: _ => rfl
  | _ :: _, [] => rfl
  | x :: a, y :: b => by simp only [higher]; rw [mx_comm, higher_comm a b]
theorem higher_len : ∀ a b : List Int, (higher a b).length = max a.length b.length
  | [], b => by simp [higher]
  | x :: a, [] => by simp [higher]
  | x :: a, y :: b => by simp [higher, higher_len a b]
theorem higher_at : ∀ (a b : List Int) (i : Nat), (higher a b)[i]? = match a[i]?, b[i]? with
    | some x, some y => some (mx x y)
    | some x, none => some x
    | none, y => y
  | [], b, i => by simp [higher]
  | x :: a, [], i => by simp [higher]; cases (x :: a)[i]? <;> rfl
  | x :: a, y :: b, 0 => by simp [higher]
  | x :: a, y :: b, i + 1 => by simp only [higher, List.getElem?_cons_succ]; exact higher_at a b i
theorem s20_run (m0 x : List Int) (hx : x.length ≤ m0.length) (hm : m0.length ≤ 1048576) : iterF (s20_0 (F22 F72) F77) fuel (m0, x, Int.ofNat x.length, 0, ()) (fun t8 => some (t8.1, ())) = some (higher m0 x, ()) := by
  obtain ⟨t, ⟨m, rfl, h1, h2, h3⟩, e⟩ := iterF_all (f := s20_0 (F22 F72) F77) (K := fun t8 => some (t8.1, ())) (t := (m0, x, Int.ofNat x.length, 0, ())) x.length
    (fun i t => ∃ m : List Int, t = (m, x, Int.ofNat x.length, (i : Int), ()) ∧ m.length = m0.length ∧ (∀ j, j < i → m[j]? = (higher m0 x)[j]?) ∧ ∀ j, i ≤ j → m[j]? = m0[j]?) (by omega) ⟨m0, rfl, rfl, fun j hj => by omega, fun _ _ => rfl⟩
    (by
      rintro i _ hi ⟨m, rfl, h1, h2, h3⟩
      have hxx : x[i]? = some x[i] := by simp
      have hd : m[i]? = some m[i] := by simp
      have hd0 : m0[i]? = some m[i] := by rw [← h3 i (Nat.le_refl _)]; exact hd
      refine ⟨_, ⟨m.set i (mx m[i] x[i]), rfl, by simp [h1], fun j hj => ?_, fun j hj => ?_⟩, fun rec K => ?_⟩
      · rw [List.getElem?_set]
        by_cases hji : i = j
        · subst hji
          rw [higher_at, hd0, hxx]
          simp [show i < m.length by omega]
        · simp only [if_neg hji]; exact h2 j (by omega)
      · rw [List.getElem?_set, if_neg (by omega)]
        exact h3 j (by omega)
      · simp only [s20_0]
        rw [cond_true_dec (by simp; omega), rdL_at hxx, rdL_at hd]
        simp only [Int.toNat_natCast]
        rw [hd, w64_id (by omega) (by omega)]
        simp only [Option.bind_some]
        rw [rdL_at hd]
        rfl)
    (by
      rintro _ ⟨m, rfl, h1, h2, h3⟩ rec K
      simp only [s20_0]
      rw [cond_false_dec (by simp)])
  have : m = higher m0 x := List.ext_getElem? fun j => by
    by_cases hj : j < x.length
    · exact h2 j hj
    · rw [h3 j (by omega), higher_at, List.getElem?_eq_none (l := x) (by omega)]
      cases m0[j]? <;> rfl
  subst this
  exact e
theorem F21_F37 (a b : List Int) (ha : a.length ≤ 1048576) (hb : b.length ≤ 1048576) : ∃ m, F21 (F78 F119) F79 (a, b, ()) = some (m, ()) ∧ F20 (F22 F72) F77 (a, b, ()) = some (m, ()) ∧ m = (if isTr a = true ∧ isTr b = true then higher a b else []) := by
  have a1 := F78_is a (by omega)
  have a2 := F22_is a (by omega)
  have a3 := isTr_spec a
  have b1 := F78_is b (by omega)
  have b2 := F22_is b (by omega)
  have b3 := isTr_spec b
  generalize isTr a = ta at a1 a2 a3 ⊢
  generalize isTr b = tb at b1 b2 b3 ⊢
  by_cases hgo : ta = true ∧ tb = true
  · obtain ⟨rfl, rfl⟩ := hgo
    obtain ⟨_, a3⟩ := a3 rfl
    obtain ⟨_, b3⟩ := b3 rfl
    refine ⟨higher a b, ?_, ?_, by simp⟩
    · unfold F21
      obtain ⟨t, ⟨m, rfl, h1, h2⟩, e⟩ := iterF_all (f := s21_0 (F78 F119) F79) (K := fun t16 => some (t16.2.2.1, ())) (t := (a, b, [], 0, ())) (max a.length b.length)
        (fun i t => ∃ m : List Int, t = (a, b, m, (i : Int), ()) ∧ m.length = i ∧ ∀ j, j < i → m[j]? = (higher a b)[j]?) (by omega) ⟨[], rfl, rfl, fun j hj => by omega⟩
        (by
          rintro i _ hi ⟨m, rfl, h1, h2⟩
          have put : ∀ v, (higher a b)[i]? = some v → ∀ j, j < i + 1 → (m ++ [v])[j]? = (higher a b)[j]? := by
            intro v hv j hj
            by_cases hji : j = i
            · subst hji; rw [hv, List.getElem?_append_right (by omega)]; simp [h1]
            · rw [List.getElem?_append_left (by omega)]; exact h2 j (by omega)
          by_cases c1 : i < a.length
          · have hax : a[i]? = some a[i] := by simp
            by_cases c2 : i < b.length
            · have hbx : b[i]? = some b[i] := by simp
              refine ⟨_, ⟨m ++ [mx a[i] b[i]], rfl, by simp [h1], put _ (by rw [higher_at, hax, hbx])⟩, fun rec K => ?_⟩
              simp only [s21_0]
              have d1 : (i : Int) < Int.ofNat a.length := by simp; omega
              have d2 : (i : Int) < Int.ofNat b.length := by simp; omega
              simp only [d1, d2, decide_true, Bool.not_true, cond_false, cond_true, a1, b1, Option.bind_some]
              rw [rdL_at hax, rdL_at hbx, F79_eq, Option.bind_some, capK_le (by simp [h1]; omega), w64_id (by omega) (by omega)]
              rfl
            · have hbx : b[i]? = none := by simp; omega
              refine ⟨_, ⟨m ++ [a[i]], rfl, by simp [h1], put _ (by rw [higher_at, hax, hbx])⟩, fun rec K => ?_⟩
              simp only [s21_0]
              have d1 : (i : Int) < Int.ofNat a.length := by simp; omega
              have d2 : ¬ (i : Int) < Int.ofNat b.length := by simp; omega
              simp only [d1, d2, decide_true, decide_false, Bool.not_true, cond_false, cond_true, a1, b1, Option.bind_some]
              rw [rdL_at hax, capK_le (by simp [h1]; omega), w64_id (by omega) (by omega)]
              rfl
          · have c2 : i < b.length := by omega
            have hax : a[i]? = none := by simp; omega
            have hbx : b[i]? = some b[i] := by simp
            have hz : mx 0 b[i] = b[i] := by
              have := (b3 b[i] (by simp)).1
              rw [mx_eq]; split <;> omega
            refine ⟨_, ⟨m ++ [b[i]], rfl, by simp [h1], put _ (by rw [higher_at, hax, hbx])⟩, fun rec K => ?_⟩
            simp only [s21_0]
            have d1 : ¬ (i : Int) < Int.ofNat a.length := by simp; omega
            have d2 : (i : Int) < Int.ofNat b.length := by simp; omega
            simp only [d1, d2, decide_true, decide_false, Bool.not_false, cond_false, cond_true, a1, b1, Option.bind_some]
            rw [rdL_at hbx, F79_eq, hz, Option.bind_some, capK_le (by simp [h1]; omega), w64_id (by omega) (by omega)]
            rfl)
        (by
          rintro _ ⟨m, rfl, h1, h2⟩ rec K
          simp only [s21_0]
          have d1 : ¬ ((max a.length b.length : Nat) : Int) < Int.ofNat a.length := by simp; omega
          have d2 : ¬ ((max a.length b.length : Nat) : Int) < Int.ofNat b.length := by simp; omega
          simp only [d1, d2, decide_false, Bool.not_false, cond_false, cond_true])
      have : m = higher a b := List.ext_getElem? fun j => by
        by_cases hj : j < max a.length b.length
        · exact h2 j hj
        · rw [List.getElem?_eq_none (by omega), List.getElem?_eq_none (by rw [higher_len]; omega)]
      subst this
      exact e
    · unfold F20
      simp only [a2, b2, Option.bind_some, Bool.not_true, Bool.not_false, cond_true, cond_false]
      by_cases c : a.length < b.length
      · rw [cond_true_dec (by simp; omega), F77_eq _ (by omega), Option.bind_some]
        simp only []
        rw [s20_run b a (by omega) hb, higher_comm]
      · rw [cond_false_dec (by simp; omega), F77_eq _ (by omega), Option.bind_some]
        simp only []
        rw [s20_run a b (by omega) ha]
  · refine ⟨[], ?_, ?_, by rw [if_neg hgo]⟩
    · unfold F21
      rw [show fuel = (fuel - 1) + 1 by rw [fuel_eq], iterF_succ]
      simp only [s21_0, a1, b1, Option.bind_some]
      cases ta <;> cases tb <;> simp only [cond_true, cond_false] <;> first
        | (cases decide ((0 : Int) < Int.ofNat a.length) <;> cases decide ((0 : Int) < Int.ofNat b.length) <;> rfl)
        | exact absurd ⟨rfl, rfl⟩ hgo
    · unfold F20
      simp only [a2, b2, Option.bind_some]
      cases ta <;> cases tb <;> first
        | rfl
        | exact absurd ⟨rfl, rfl⟩ hgo

theorem F23_eq (l : List Int) (hl : l.length ≤ 1048576) (most : Int) (hm : 0 ≤ most) (ht : isTr l = true) : F23 (F22 F72) (l, most, ()) = some (l.map fun x => mn x most, ()) := by
  unfold F23
  simp only [F22_is l (by omega), ht, Option.bind_some, Bool.not_true, Bool.not_false, cond_true]
  rw [cond_false_dec (by omega)]
  obtain ⟨t, ⟨_, rfl⟩, e⟩ := iterF_all (f := s23_0 (F22 F72)) (K := fun t4 => some (t4.2.1, ())) (t := (most, ([] : List Int), l, Int.ofNat l.length, 0, ())) l.length
    (fun i t => True ∧ t = (most, (l.take i).map (fun x => mn x most), l, Int.ofNat l.length, (i : Int), ())) (by omega) ⟨trivial, rfl⟩
    (by
      rintro i _ hi ⟨_, rfl⟩
      have hx : l[i]? = some l[i] := by simp
      refine ⟨_, ⟨trivial, rfl⟩, fun rec K => ?_⟩
      simp only [s23_0]
      rw [cond_true_dec (by simp; omega), rdL_at hx, capK_le (by simp; omega), w64_id (by omega) (by omega)]
      have : (l.take (i + 1)).map (fun x => mn x most) = (l.take i).map (fun x => mn x most) ++ [mn l[i] most] := by
        rw [List.take_add_one, hx, List.map_append]; rfl
      rw [this]; rfl)
    (by
      rintro _ ⟨_, rfl⟩ rec K
      simp only [s23_0]
      rw [cond_false_dec (by simp)])
  rw [List.take_length] at e
  exact e
theorem higher_self : ∀ a : List Int, higher a a = a
  | [] => rfl
  | x :: a => by
    simp only [higher, higher_self a, mx_eq]
    split <;> rfl
theorem higher_map (f : Int → Int) (hf : ∀ x y, mx (f x) (f y) = f (mx x y)) : ∀ a b : List Int, higher (a.map f) (b.map f) = (higher a b).map f
  | [], b => by simp [higher]
  | x :: a, [] => by simp [higher]
  | x :: a, y :: b => by simp [higher, higher_map f hf a b, hf]
theorem higher_mem : ∀ (a b : List Int) (x : Int), x ∈ higher a b → x ∈ a ∨ x ∈ b
  | [], b, x, h => .inr h
  | y :: a, [], x, h => .inl h
  | y :: a, z :: b, x, h => by
    simp only [higher, List.mem_cons] at h
    rcases h with rfl | h
    · rw [mx_eq]; split
      · exact .inr (by simp)
      · exact .inl (by simp)
    · rcases higher_mem a b x h with h | h
      · exact .inl (by simp [h])
      · exact .inr (by simp [h])
end Ev
