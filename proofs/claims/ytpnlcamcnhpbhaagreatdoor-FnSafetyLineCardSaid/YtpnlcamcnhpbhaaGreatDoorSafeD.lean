/- What is drawn for a line on safety. -/
import Derived.Test.YtpnlcamcnhpbhaaGreatDoorBasin
import Derived.Test.YtpnlcamcnhpbhaaGreatDoorAnyShow
set_option linter.unusedVariables false
set_option linter.unusedSimpArgs false
set_option maxRecDepth 100000
namespace Ev
open Go
theorem anyRose_w {b : List Int} (hb : b.length ≤ 1099511627776) {i h : Int} (hi : 0 ≤ i) : wp (G87 ((b, i, h, ()), ())) (CurP b fun r => r.length ≤ 8) := by
  unfold G87 F87
  refine wp_cur (rose_w hb hi) fun i1 h1 r p1 q1 => ?_
  have hl := q1.len.2
  refine wp_cur (below_w hb p1 (by omega)) fun i2 h2 x2 p2 q2 => ?_
  refine wp_cond (fun _ => ?_) fun _ => ?_
  · exact wp_cur (drift_w hb p2) fun i3 h3 x3 p3 q3 => wp_cap (by simp; omega) (wp_ret p3 (by simp; omega))
  refine wp_cond (fun _ => wp_ret p2 (by simp)) fun _ => ?_
  refine wp_cond (fun _ => ?_) fun _ => ?_
  · refine wp_cur (int_w hb p2 (by simp)) fun i3 h3 x3 p3 q3 => ?_
    exact wp_cur (int_w hb p3 (by simp)) fun i4 h4 x4 p4 q4 => wp_ret p4 (by simp)
  exact wp_cond (fun _ => wp_ret p2 (by simp)) fun _ => wp_ret p2 (by show r.length ≤ 8; omega)
theorem drawIsSafe_w {b : List Int} (hb : b.length ≤ 4096) : wp (G45 (b, ())) (fun x => ShowOK x.1 ∧ x.2.1.length ≤ 8) := by
  have hb' : b.length ≤ 1099511627776 := by omega
  unfold G45 F45
  refine wp_bind (new_w hb) ?_
  rintro _ ⟨h, rfl⟩
  refine wp_cur (any9_w hb' (Int.le_refl 0)) fun i1 h1 s p1 q1 => ?_
  have q1 : ShowOK s := q1
  refine wp_cur (anyRose_w hb' p1) fun i2 h2 r p2 q2 => ?_
  have q2 : r.length ≤ 8 := q2
  simp only [both_self']
  exact wp_cur (near_w hb' p2 (s := s) (r := r) q1 (by omega)) fun i3 h3 c p3 q3 => wp_some ⟨q1, q2⟩
theorem drawSafety_w {b : List Int} (hb : b.length ≤ 4096) : wp (G15 (b, ())) (fun x => ShowOK x.1 ∧ x.2.1.length ≤ 8) := by
  unfold G15 F15
  refine wp_bind (drawIsSafe_w hb) ?_
  rintro ⟨s, r, c, u⟩ ⟨h1, h2⟩
  exact wp_some ⟨h1, h2⟩
end Ev
