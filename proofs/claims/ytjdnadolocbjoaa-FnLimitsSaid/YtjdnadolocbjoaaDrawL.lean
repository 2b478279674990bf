/- What is drawn for a limit. -/
import Derived.Test.YtjdnadolocbjoaaBasin
set_option linter.unusedVariables false
set_option linter.unusedSimpArgs false
set_option maxRecDepth 100000
namespace Ev
open Go
theorem any3_w {b : List Int} (hb : b.length ≤ 1099511627776) {i h : Int} (hi : 0 ≤ i) : wp (G121 ((b, i, h, ()), ())) (CurP b fun _ => True) := by
  unfold G121 F121
  refine wp_cur (jet_w hb hi) fun i1 h1 x1 p1 q1 => ?_
  repeat' first
    | (with_reducible refine wp_cond (fun _ => ?_) (fun _ => ?_))
    | with_reducible exact wp_ret (by assumption) trivial
    | (with_reducible refine wp_cur (name6_w (by assumption) (by assumption)) ?_; intro i h v hi hv)
    | (with_reducible refine wp_cur (word_w (by assumption) (by assumption)) ?_; intro i h v hi hv)
    | (with_reducible refine wp_cur (below_w (by assumption) (by assumption) (by omega)) ?_; intro i h v hi hv)
    | (with_reducible refine wp_cur (odd_w (by assumption) (by assumption)) ?_; intro i h v hi hv)
    | (with_reducible refine wp_cur (any2_w (by assumption) (by assumption)) ?_; intro i h v hi hv)
    | (with_reducible refine wp_cur (place2_w (by assumption) (by assumption)) ?_; intro i h v hi hv)
    | (with_reducible refine wp_cur (int_w (by assumption) (by assumption) (by simp)) ?_; intro i h v hi hv)
    | (with_reducible refine wp_cur (once_w (by assumption) (by assumption) (by omega)) ?_; intro i h v hi hv)
    | (with_reducible refine wp_cur (some_w (by assumption) (by assumption) (by omega) (by omega) (by omega)) ?_; intro i h v hi hv)
    | (with_reducible refine wp_cond (fun _ => ?_) (fun _ => ?_))
theorem any6_w {b : List Int} (hb : b.length ≤ 1099511627776) {i h : Int} (hi : 0 ≤ i) : wp (G57 ((b, i, h, ()), ())) (CurP b fun d => d.Name.length ≤ 9 ∧ d.Line.length ≤ 9) := by
  unfold G57 F57
  refine wp_cur (name6_w hb hi) fun i1 h1 x1 p1 q1 => ?_
  refine wp_cur (name6_w hb p1) fun i2 h2 x2 p2 q2 => ?_
  refine wp_cur (nozzle_w hb p2) fun i3 h3 x3 p3 q3 => ?_
  have r1 : x3.Name.length ≤ 9 := by rw [q3.1]; exact q1
  have r2 : x3.Line.length ≤ 9 := by rw [q3.2.2.1]; exact q2
  repeat' first
    | (with_reducible refine wp_cond (fun _ => ?_) (fun _ => ?_))
    | with_reducible exact wp_ret (by assumption) trivial
    | (with_reducible refine wp_cur (name6_w (by assumption) (by assumption)) ?_; intro i h v hi hv)
    | (with_reducible refine wp_cur (word_w (by assumption) (by assumption)) ?_; intro i h v hi hv)
    | (with_reducible refine wp_cur (below_w (by assumption) (by assumption) (by omega)) ?_; intro i h v hi hv)
    | (with_reducible refine wp_cur (odd_w (by assumption) (by assumption)) ?_; intro i h v hi hv)
    | (with_reducible refine wp_cur (any2_w (by assumption) (by assumption)) ?_; intro i h v hi hv)
    | (with_reducible refine wp_cur (place2_w (by assumption) (by assumption)) ?_; intro i h v hi hv)
    | (with_reducible refine wp_cur (int_w (by assumption) (by assumption) (by simp)) ?_; intro i h v hi hv)
    | (with_reducible refine wp_cur (once_w (by assumption) (by assumption) (by omega)) ?_; intro i h v hi hv)
    | (with_reducible refine wp_cur (some_w (by assumption) (by assumption) (by omega) (by omega) (by omega)) ?_; intro i h v hi hv)
    | (with_reducible refine wp_cond (fun _ => ?_) (fun _ => ?_))
    | (with_reducible refine wp_cur (any3_w (by assumption) (by assumption)) ?_; intro i h v hi hv)
    | exact wp_ret (by assumption) ⟨by first | assumption | exact Nat.zero_le _, by first | assumption | exact Nat.zero_le _⟩
theorem anyRose_w {b : List Int} (hb : b.length ≤ 1099511627776) {i h : Int} (hi : 0 ≤ i) : wp (G58 ((b, i, h, ()), ())) (CurP b fun r => r.length ≤ 5) := by
  unfold G58 F58
  refine wp_cur (rose_w hb hi) fun i1 h1 l p1 q1 => ?_
  have hl := q1.len
  refine wp_cur (below_w hb p1 (by omega)) fun i2 h2 n p2 q2 => ?_
  refine wp_cond (fun _ => ?_) fun _ => ?_
  · exact wp_cur (drift_w hb p2) fun i3 h3 x3 p3 q3 => wp_cap (by simp; omega) (wp_ret p3 (by simp; omega))
  · refine wp_cond (fun _ => wp_ret p2 (by simp)) fun _ => ?_
    refine wp_cond (fun _ => ?_) fun _ => ?_
    · refine wp_cur (int_w hb p2 (by simp)) fun i3 h3 x3 p3 q3 => ?_
      exact wp_cur (int_w hb p3 (by simp)) fun i4 h4 x4 p4 q4 => wp_ret p4 (by simp)
    · exact wp_cond (fun _ => wp_ret p2 (by simp)) fun _ => wp_ret p2 (by show l.length ≤ 5; omega)
theorem drawLimit_w {b : List Int} (hb : b.length ≤ 4096) : wp (G18 (b, ())) (fun r => (r.1.Name.length ≤ 9 ∧ r.1.Line.length ≤ 9) ∧ r.2.1.length ≤ 5) := by
  have hb' : b.length ≤ 1099511627776 := by omega
  unfold G18 F18
  refine wp_bind (new_w hb) ?_
  rintro _ ⟨h, rfl⟩
  refine wp_cur (once_w hb' (Int.le_refl 0) (by omega)) fun i1 h1 x1 p1 q1 => ?_
  refine wp_cond (fun _ => ?_) fun _ => ?_
  · refine wp_cur (any6_w hb' p1) fun i2 h2 d p2 q2 => ?_
    refine wp_cur (anyRose_w hb' p2) fun i3 h3 r p3 q3 => ?_
    exact wp_cur (basin_w hb' p3) fun i4 h4 c p4 q4 => wp_some ⟨q2, q3⟩
  · refine wp_cur (nozzle_w hb' p1) fun i2 h2 d p2 q2 => ?_
    refine wp_cur (anyRose_w hb' p2) fun i3 h3 r p3 q3 => ?_
    exact wp_cur (basin_w hb' p3) fun i4 h4 c p4 q4 => wp_some ⟨⟨by rw [q2.1]; simp, by rw [q2.2.2.1]; simp⟩, q3⟩
end Ev
