/- What the draws of a track and of a window of it yield. -/
import Derived.Test.YtpnlcamcnhpbhaaAbb
import Derived.Test.YtpnlcamcnhpbhaaBaseA
import Derived.Test.YtpnlcamcnhpbhaaFact
set_option linter.unusedVariables false
set_option linter.unusedSimpArgs false
set_option maxRecDepth 100000
namespace Ev
open Go
theorem and_255 (a : Int) : 0 ≤ bitsOp .and .i64 a 255 ∧ bitsOp .and .i64 a 255 ≤ 255 := by
  have h : (BitVec.ofInt IntKind.i64.bits a &&& BitVec.ofInt IntKind.i64.bits 255).toNat ≤ 255 := by
    rw [BitVec.toNat_and]; exact Nat.le_trans Nat.and_le_right (by decide)
  have e : bitsOp .and .i64 a 255 = w64 ((BitVec.ofInt IntKind.i64.bits a &&& BitVec.ofInt IntKind.i64.bits 255).toNat : Int) := rfl
  rw [e, w64_id (by omega) (by omega)]
  omega
theorem byte_ok (b : List Int) (hb : b.length ≤ 1099511627776) (i h : Int) (hi : 0 ≤ i) : ∃ i' h' x, F33 ((b, i, h, ()), ()) = some ((b, i', h', ()), x, ()) ∧ 0 ≤ i' ∧ 0 ≤ x ∧ x ≤ 255 := by
  unfold F33
  by_cases hc : i < Int.ofNat b.length
  · rw [cond_true_dec hc]
    obtain ⟨k, rfl⟩ := Int.eq_ofNat_of_zero_le hi
    have hk : k < b.length := by simpa using hc
    have hx : b[k]? = some b[k] := by simp
    simp only []
    rw [rdL_at hx]
    refine ⟨_, _, _, rfl, ?_, and_255 _⟩
    rw [w64_id (by omega) (by omega)]; omega
  · rw [cond_false_dec hc]
    exact ⟨_, _, _, rfl, hi, and_255 _⟩
noncomputable abbrev fB := F25 F33
theorem below_ok (b : List Int) (hb : b.length ≤ 1099511627776) (i h : Int) (hi : 0 ≤ i) (n : Int) (h0 : 0 < n) (h1 : n ≤ 256) : ∃ i' h' x, fB ((b, i, h, ()), n, ()) = some ((b, i', h', ()), x, ()) ∧ 0 ≤ i' ∧ 0 ≤ x ∧ x < n := by
  obtain ⟨i', h', x, e, hi', hx0, hx1⟩ := byte_ok b hb i h hi
  refine ⟨i', h', Int.tmod x n, ?_, hi', Int.tmod_nonneg n hx0, Int.tmod_lt_of_pos x h0⟩
  unfold fB F25
  dsimp only
  rw [cond_false_dec (by omega), cond_true_dec (by omega)]
  simp only [e, Option.bind_some]
  rw [cond_false_dec (by omega)]
noncomputable abbrev fI := F32 fB
theorem int_ok (b : List Int) (hb : b.length ≤ 1099511627776) (i h : Int) (hi : 0 ≤ i) (l : List Int) (h0 : 0 < l.length) (h1 : l.length ≤ 256) : ∃ i' h' x, fI ((b, i, h, ()), l, ()) = some ((b, i', h', ()), x, ()) ∧ 0 ≤ i' ∧ x ∈ l := by
  obtain ⟨i', h', x, e, hi', hx0, hx1⟩ := below_ok b hb i h hi (Int.ofNat l.length) (by simp; omega) (by simp; omega)
  obtain ⟨k, rfl⟩ := Int.eq_ofNat_of_zero_le hx0
  have hk : k < l.length := by simpa using hx1
  have hx : l[k]? = some l[k] := by simp
  refine ⟨i', h', l[k], ?_, hi', by simp⟩
  unfold fI F32
  simp only [e, Option.bind_some]
  rw [rdL_at hx]
noncomputable abbrev fO := F23 fB
theorem once_ok (b : List Int) (hb : b.length ≤ 1099511627776) (i h : Int) (hi : 0 ≤ i) (n : Int) (h0 : 0 < n) (h1 : n ≤ 256) : ∃ i' h' x, fO ((b, i, h, ()), n, ()) = some ((b, i', h', ()), x, ()) ∧ 0 ≤ i' := by
  obtain ⟨i', h', x, e, hi', hx0, hx1⟩ := below_ok b hb i h hi n h0 h1
  refine ⟨i', h', decide (x = 0), ?_, hi'⟩
  unfold fO F23
  simp only [e, Option.bind_some]
theorem new_ok (b : List Int) (hb : b.length ≤ 4096) : ∃ h, F21 (b, ()) = some ((b, 0, h, ()), ()) := by
  unfold F21
  rcases iterF_rule (f := s21_0) (K := fun t3 => some ((t3.1, 0, t3.2.1, ()), ())) (t := (b, w64 (620033 + w64 (3 * Int.ofNat b.length)), 0, ())) b.length
    (fun i t => ∃ h, t = (b, h, (i : Int), ())) (fun _ => False) (fun t => ∃ h j, t = (b, h, j, ())) (by omega) ⟨_, rfl⟩
    (by
      rintro i _ hi ⟨h, rfl⟩
      have hx : b[i]? = some b[i] := by simp
      by_cases hc : (i : Int) < 4000
      · refine .inl ⟨(b, bitsOp .and .i64 (w64 ((w64 ((w64 (h * 167)) + (w64 b[i]))) + 29)) 1073741823, ((i + 1 : Nat) : Int), ()), ⟨_, rfl⟩, fun rec K => ?_⟩
        · simp only [s21_0]
          rw [cond_true_dec (by simp; omega), cond_true_dec hc, rdL_at hx, w64_id (n := (i : Int) + 1) (by omega) (by omega)]
          rfl
      · refine .inr (.inr ⟨(b, h, (i : Int), ()), ⟨_, _, rfl⟩, fun rec K => ?_⟩)
        · simp only [s21_0]
          rw [cond_true_dec (by simp; omega), cond_false_dec hc])
    (by
      rintro _ ⟨h, rfl⟩
      refine .inr ⟨(b, h, (b.length : Int), ()), ⟨h, _, rfl⟩, fun rec K => ?_⟩
      simp only [s21_0]
      rw [cond_false_dec (by simp)]) with ⟨r, h, _⟩ | ⟨t, ⟨h, j, rfl⟩, e⟩
  · exact h.elim
  · exact ⟨h, e⟩
noncomputable abbrev fT := F31 fB fI fO
theorem inR_mem {l : List Int} (h : l.all inR = true) {x : Int} (hx : x ∈ l) : 0 ≤ x ∧ x ≤ 32 := by
  have := List.all_eq_true.mp h x hx
  simpa [inR] using this
theorem draw8_ok (b : List Int) (hb : b.length ≤ 1099511627776) (i h : Int) (hi : 0 ≤ i) : ∃ i' h' l, fT ((b, i, h, ()), ()) = some ((b, i', h', ()), l, ()) ∧ 0 ≤ i' ∧ l.all inR = true ∧ l.length ≤ 24 := by
  obtain ⟨i1, h1, x, e1, p1, x0, x1⟩ := below_ok b hb i h hi 33 (by omega) (by omega)
  obtain ⟨i2, h2, n, e2, p2, hn⟩ := int_ok b hb i1 h1 p1 [0, 1, 7, 8, 9, 15, 16, 17, 20, 24] (by simp) (by simp)
  have hn' : 0 ≤ n ∧ n ≤ 24 := by simp at hn; omega
  unfold fT F31
  simp only [e1, e2, Option.bind_some]
  obtain ⟨t, ⟨i', h', l, y, rfl, q1, q2, q3, q4⟩, e⟩ := iterF_all (f := s31_0 fB fI fO) (K := fun t6 => some ((t6.1.1, t6.1.2.1, t6.1.2.2.1, ()), t6.2.1, ())) (t := ((b, i2, h2, ()), ([] : List Int), x, n, ())) n.toNat
    (fun j t => ∃ i' h' l y, t = ((b, i', h', ()), l, y, n - (j : Int), ()) ∧ 0 ≤ i' ∧ l.all inR = true ∧ l.length = j ∧ inR y = true) (by omega) ⟨i2, h2, [], x, by simp, p2, rfl, rfl, by simp [inR, x0]; omega⟩
    (by
      rintro j _ hj ⟨i', h', l, y, rfl, q1, q2, q3, q4⟩
      obtain ⟨i3, h3, o, e3, p3⟩ := once_ok b hb i' h' q1 3 (by omega) (by omega)
      have ew : w64 (n - (j : Int) - 1) = n - ((j + 1 : Nat) : Int) := by rw [w64_id (by omega) (by omega)]; omega
      cases o with
      | true =>
        obtain ⟨i4, h4, z, e4, p4, z0, z1⟩ := below_ok b hb i3 h3 p3 33 (by omega) (by omega)
        refine ⟨_, ⟨i4, h4, l ++ [z], z, rfl, p4, ?_, by simp [q3], by simp [inR, z0]; omega⟩, fun rec K => ?_⟩
        · rw [List.all_append, q2]; simp [inR, z0]; omega
        · simp only [s31_0]
          rw [cond_true_dec (by omega)]
          simp only [e3, e4, Option.bind_some, cond_true]
          rw [capK_le (by simp; omega), ew]
      | false =>
        refine ⟨_, ⟨i3, h3, l ++ [y], y, rfl, p3, ?_, by simp [q3], q4⟩, fun rec K => ?_⟩
        · rw [List.all_append, q2]; simp [q4]
        · simp only [s31_0]
          rw [cond_true_dec (by omega)]
          simp only [e3, Option.bind_some, cond_false]
          rw [capK_le (by simp; omega), ew])
    (by
      rintro _ ⟨i', h', l, y, rfl, q1, q2, q3, q4⟩ rec K
      simp only [s31_0]
      rw [cond_false_dec (by omega)])
  refine ⟨i', h', l, e, q1, q2, by omega⟩
def i64R (x : Int) : Prop := -9223372036854775808 ≤ x ∧ x ≤ 9223372036854775807
noncomputable abbrev fD := F24 fI
theorem odd_ok (b : List Int) (hb : b.length ≤ 1099511627776) (i h : Int) (hi : 0 ≤ i) : ∃ i' h' x, fD ((b, i, h, ()), ()) = some ((b, i', h', ()), x, ()) ∧ 0 ≤ i' ∧ i64R x := by
  obtain ⟨i', h', x, e, p, hx⟩ := int_ok b hb i h hi [(-1), 0, 1, 2, 3, 7, 8, 9, 15, 16, 17, 63, 64, 65, 999, 1000, 4096, 4097, 9223372036854775807, (-9223372036854775808)] (by simp) (by simp)
  refine ⟨i', h', x, ?_, p, by simp [i64R] at hx ⊢; omega⟩
  unfold fD F24
  simp only [e, Option.bind_some]
noncomputable abbrev fA := F22 fT fB fD fI
theorem any8_ok (b : List Int) (hb : b.length ≤ 1099511627776) (i h : Int) (hi : 0 ≤ i) : ∃ i' h' l, fA ((b, i, h, ()), ()) = some ((b, i', h', ()), l, ()) ∧ 0 ≤ i' ∧ (∀ x ∈ l, i64R x) ∧ l.length ≤ 65 := by
  obtain ⟨i1, h1, l, e1, p1, q1, q2⟩ := draw8_ok b hb i h hi
  obtain ⟨i2, h2, x, e2, p2, x0, x1⟩ := below_ok b hb i1 h1 p1 14 (by omega) (by omega)
  have hl : ∀ x ∈ l, i64R x := fun x hx => by have := inR_mem q1 hx; unfold i64R; omega
  unfold fA F22
  simp only [e1, e2, Option.bind_some]
  by_cases c0 : x = 0
  · obtain ⟨i3, h3, y, e3, p3, hy⟩ := odd_ok b hb i2 h2 p2
    rw [cond_true_dec c0]
    simp only [e3, Option.bind_some]
    rw [capK_le (by simp; omega)]
    refine ⟨_, _, _, rfl, p3, fun z hz => ?_, by simp; omega⟩
    rcases List.mem_append.mp hz with h | h
    · exact hl z h
    · simp at h; subst h; exact hy
  · rw [cond_false_dec c0]
    by_cases c1 : x = 1
    · rw [cond_true_dec c1]
      obtain ⟨t, ⟨m, rfl, r1, r2⟩, e⟩ := iterF_all (f := s22_1 fT fB fD fI) (K := fun t5 => (fI ((t5.1.1, t5.1.2.1, t5.1.2.2.1, ()), ([64, 65] : List Int), ())).bind fun x6 => okIf (0 ≤ x6.2.1 ∧ x6.2.1 ≤ List.length t5.2.1) (some ((x6.1.1, x6.1.2.1, x6.1.2.2.1, ()), (List.take (Int.toNat x6.2.1) t5.2.1), ()))) (t := ((b, i2, h2, ()), l, ())) (65 - l.length)
        (fun j t => ∃ m : List Int, t = ((b, i2, h2, ()), m, ()) ∧ m.length = l.length + j ∧ ∀ x ∈ m, i64R x) (by omega) ⟨l, rfl, rfl, hl⟩
        (by
          rintro j _ hj ⟨m, rfl, r1, r2⟩
          refine ⟨_, ⟨m ++ [3], rfl, by simp [r1]; omega, fun z hz => ?_⟩, fun rec K => ?_⟩
          · rcases List.mem_append.mp hz with h | h
            · exact r2 z h
            · simp at h; subst h; unfold i64R; omega
          · simp only [s22_1]
            rw [cond_true_dec (by simp; omega), capK_le (by simp; omega)])
        (by
          rintro _ ⟨m, rfl, r1, r2⟩ rec K
          simp only [s22_1]
          rw [cond_false_dec (by simp; omega)])
      obtain ⟨i4, h4, y, e4, p4, hy⟩ := int_ok b hb i2 h2 p2 [64, 65] (by simp) (by simp)
      have hy' : y = 64 ∨ y = 65 := by simpa using hy
      rw [e]
      simp only [e4, Option.bind_some]
      rw [okIf_pos ⟨by omega, by omega⟩]
      refine ⟨_, _, _, rfl, p4, fun z hz => r2 z (List.mem_of_mem_take hz), by simp; omega⟩
    · rw [cond_false_dec c1]
      exact ⟨_, _, _, rfl, p2, hl, by omega⟩
end Ev
