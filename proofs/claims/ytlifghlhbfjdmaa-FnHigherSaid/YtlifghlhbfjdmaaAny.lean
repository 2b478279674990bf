/- What the draws of any lists yield. -/
import Derived.Test.YtlifghlhbfjdmaaDraw
set_option linter.unusedVariables false
set_option linter.unusedSimpArgs false
namespace Ev
open Go
def i64R (x : Int) : Prop := -9223372036854775808 ≤ x ∧ x ≤ 9223372036854775807
noncomputable abbrev fD := F76 fI
theorem odd_ok (b : List Int) (hb : b.length ≤ 1099511627776) (i h : Int) (hi : 0 ≤ i) : ∃ i' h' x, fD ((b, i, h, ()), ()) = some ((b, i', h', ()), x, ()) ∧ 0 ≤ i' ∧ i64R x := by
  obtain ⟨i', h', x, e, p, hx⟩ := int_ok b hb i h hi [(-1), 0, 1, 2, 3, 7, 8, 9, 15, 16, 17, 63, 64, 65, 999, 1000, 4096, 4097, 9223372036854775807, (-9223372036854775808)] (by simp) (by simp)
  refine ⟨i', h', x, ?_, p, by simp [i64R] at hx ⊢; omega⟩
  unfold fD F76
  simp only [e, Option.bind_some]
noncomputable abbrev fA := F74 fT fB fD fI
theorem any8_ok (b : List Int) (hb : b.length ≤ 1099511627776) (i h : Int) (hi : 0 ≤ i) : ∃ i' h' l, fA ((b, i, h, ()), ()) = some ((b, i', h', ()), l, ()) ∧ 0 ≤ i' ∧ (∀ x ∈ l, i64R x) ∧ l.length ≤ 65 := by
  obtain ⟨i1, h1, l, e1, p1, q1, q2⟩ := draw8_ok b hb i h hi
  obtain ⟨i2, h2, x, e2, p2, x0, x1⟩ := below_ok b hb i1 h1 p1 14 (by omega) (by omega)
  have hl : ∀ x ∈ l, i64R x := fun x hx => by have := inR_mem q1 hx; unfold i64R; omega
  unfold fA F74
  simp only [e1, e2, Option.bind_some]
  by_cases c0 : x = 0
  · obtain ⟨i3, h3, y, e3, p3, hy⟩ := odd_ok b hb i2 h2 p2
    rw [cond_true_dec c0]
    simp only [e3, Option.bind_some]
    rw [capK_le (by simp; omega)]
    refine ⟨_, _, _, rfl, p3, fun z hz => ?_, by simp; omega⟩
    rcases List.mem_append.mp hz with h | h
    · exact hl z h
    · simp at h; subst h; exact hy
  · rw [cond_false_dec c0]
    by_cases c1 : x = 1
    · rw [cond_true_dec c1]
      obtain ⟨t, ⟨m, rfl, r1, r2⟩, e⟩ := iterF_all (f := s74_1 fT fB fD fI) (K := fun t5 => (fI ((t5.1.1, t5.1.2.1, t5.1.2.2.1, ()), ([64, 65] : List Int), ())).bind fun x6 => okIf (0 ≤ x6.2.1 ∧ x6.2.1 ≤ List.length t5.2.1) (some ((x6.1.1, x6.1.2.1, x6.1.2.2.1, ()), (List.take (Int.toNat x6.2.1) t5.2.1), ()))) (t := ((b, i2, h2, ()), l, ())) (65 - l.length)
        (fun j t => ∃ m : List Int, t = ((b, i2, h2, ()), m, ()) ∧ m.length = l.length + j ∧ ∀ x ∈ m, i64R x) (by omega) ⟨l, rfl, rfl, hl⟩
        (by
          rintro j _ hj ⟨m, rfl, r1, r2⟩
          refine ⟨_, ⟨m ++ [3], rfl, by simp [r1]; omega, fun z hz => ?_⟩, fun rec K => ?_⟩
          · rcases List.mem_append.mp hz with h | h
            · exact r2 z h
            · simp at h; subst h; unfold i64R; omega
          · simp only [s74_1]
            rw [cond_true_dec (by simp; omega), capK_le (by simp; omega)])
        (by
          rintro _ ⟨m, rfl, r1, r2⟩ rec K
          simp only [s74_1]
          rw [cond_false_dec (by simp; omega)])
      obtain ⟨i4, h4, y, e4, p4, hy⟩ := int_ok b hb i2 h2 p2 [64, 65] (by simp) (by simp)
      have hy' : y = 64 ∨ y = 65 := by simpa using hy
      rw [e]
      simp only [e4, Option.bind_some]
      rw [okIf_pos ⟨by omega, by omega⟩]
      refine ⟨_, _, _, rfl, p4, fun z hz => r2 z (List.mem_of_mem_take hz), by simp; omega⟩
    · rw [cond_false_dec c1]
      exact ⟨_, _, _, rfl, p2, hl, by omega⟩
end Ev
