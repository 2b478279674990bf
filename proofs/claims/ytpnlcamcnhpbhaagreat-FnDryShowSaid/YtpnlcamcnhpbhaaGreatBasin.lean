/- Drawn basins: a valid show, a rose, a box, a wind that fits the rose. -/
import Derived.Test.YtpnlcamcnhpbhaaGreatGeo
import Derived.Test.YtpnlcamcnhpbhaaGreatDrawA
set_option linter.unusedVariables false
set_option linter.unusedSimpArgs false
set_option maxRecDepth 100000
namespace Ev
open Go
/-! ### Places in order -/
theorem cmpP_lt {a d : Place} (h : ¬ cmpP a d < 0) (hn : a ≠ d) : cmpP d a < 0 := by
  have h1 := cmpI_cases a.X d.X; have h2 := cmpI_cases a.Y d.Y
  have h3 := cmpI_cases d.X a.X; have h4 := cmpI_cases d.Y a.Y
  unfold cmpP at h ⊢
  rcases Int.lt_trichotomy a.X d.X with hx | hx | hx
  · exfalso
    have e : cmpI a.X d.X = -1 := by omega
    rw [e, if_neg (by decide)] at h
    omega
  · have e : cmpI a.X d.X = 0 := by omega
    have e' : cmpI d.X a.X = 0 := by omega
    rw [e, if_pos rfl] at h
    rw [e', if_pos rfl]
    rcases Int.lt_trichotomy a.Y d.Y with hy | hy | hy
    · omega
    · exact absurd (place_ext hx hy) hn
    · omega
  · have e : cmpI d.X a.X = -1 := by omega
    rw [e, if_neg (by decide)]
    decide
structure SortedP (r : List Place) : Prop where
  lt : ∀ (i : Nat) (a b : Place), r[i]? = some a → r[i + 1]? = some b → cmpP a b < 0
/-! ### Boxes -/
theorem any2_w {b : List Int} (hb : b.length ≤ 1099511627776) {i h : Int} (hi : 0 ≤ i) : wp (G142 ((b, i, h, ()), ())) (CurP b fun _ => True) := by
  unfold G142 F142
  refine wp_cur (place2_w hb hi) fun i1 h1 x1 p1 q1 => ?_
  refine wp_cur (once_w hb p1 (by omega)) fun i2 h2 x2 p2 q2 => ?_
  refine wp_cond (fun _ => ?_) fun _ => ?_
  · refine wp_cur (odd_w hb p2) fun i3 h3 x3 p3 q3 => ?_
    refine wp_cur (once_w hb p3 (by omega)) fun i4 h4 x4 p4 q4 => ?_
    refine wp_cond (fun _ => ?_) fun _ => wp_ret p4 trivial
    exact wp_cur (int_w hb p4 (by simp)) fun i5 h5 x5 p5 q5 => wp_ret p5 trivial
  · refine wp_cur (once_w hb p2 (by omega)) fun i4 h4 x4 p4 q4 => ?_
    refine wp_cond (fun _ => ?_) fun _ => wp_ret p4 trivial
    exact wp_cur (int_w hb p4 (by simp)) fun i5 h5 x5 p5 q5 => wp_ret p5 trivial
theorem box_w {b : List Int} (hb : b.length ≤ 1099511627776) {i h : Int} (hi : 0 ≤ i) : wp (G96 ((b, i, h, ()), ())) (CurP b fun _ => True) := by
  unfold G96 F96
  refine wp_cur (place2_w hb hi) fun i1 h1 x1 p1 q1 => ?_
  refine wp_cur (below_w hb p1 (by omega)) fun i2 h2 x2 p2 q2 => ?_
  simp only [both_self']
  refine wp_cur (below_w hb p2 (by omega)) fun i3 h3 x3 p3 q3 => ?_
  refine wp_cur (below_w hb p3 (by omega)) fun i4 h4 x4 p4 q4 => ?_
  refine wp_dec (fun _ => wp_cur (any2_w hb p4) fun i5 h5 x5 p5 q5 => wp_ret p5 trivial) fun _ => ?_
  exact wp_dec (fun _ => wp_cur (any2_w hb p4) fun i5 h5 x5 p5 q5 => wp_ret p5 trivial) fun _ => wp_ret p4 trivial
theorem basin_w {b : List Int} (hb : b.length ≤ 1099511627776) {i h : Int} (hi : 0 ≤ i) : wp (G48 ((b, i, h, ()), ())) (CurP b fun _ => True) := by
  unfold G48 F48
  refine wp_cur (below_w hb hi (by omega)) fun i1 h1 x1 p1 q1 => ?_
  refine wp_cur (below_w hb p1 (by omega)) fun i2 h2 x2 p2 q2 => ?_
  refine wp_cur (below_w hb p2 (by omega)) fun i3 h3 x3 p3 q3 => ?_
  refine wp_cur (below_w hb p3 (by omega)) fun i4 h4 x4 p4 q4 => ?_
  refine wp_cur (below_w hb p4 (by omega)) fun i5 h5 x5 p5 q5 => ?_
  refine wp_dec (fun _ => wp_cur (box_w hb p5) fun i6 h6 x6 p6 q6 => wp_ret p6 trivial) fun _ => ?_
  exact wp_dec (fun _ => wp_ret p5 trivial) fun _ => wp_ret p5 trivial
/-! ### Winds that fit -/
structure FitW (r : List Place) (w : List Gust) : Prop where
  wind : WindP w
  first : ∃ g, w[0]? = some g ∧ g.From = 0
  mem : ∀ g ∈ w, g.Drift ∈ r
end Ev
