/- Drawn basins: a valid show, a rose, a box, a wind that fits the rose. -/
import Derived.Test.YtpnlcamcnhpbhaaGreatGeo
import Derived.Test.YtpnlcamcnhpbhaaGreatDrawA
set_option linter.unusedVariables false
set_option linter.unusedSimpArgs false
set_option maxRecDepth 100000
namespace Ev
open Go
/-! ### Places in order -/
theorem cmpP_lt {a d : Place} (h : ¬ cmpP a d < 0) (hn : a ≠ d) : cmpP d a < 0 := by
  have h1 := cmpI_cases a.X d.X; have h2 := cmpI_cases a.Y d.Y
  have h3 := cmpI_cases d.X a.X; have h4 := cmpI_cases d.Y a.Y
  unfold cmpP at h ⊢
  rcases Int.lt_trichotomy a.X d.X with hx | hx | hx
  · exfalso
    have e : cmpI a.X d.X = -1 := by omega
    rw [e, if_neg (by decide)] at h
    omega
  · have e : cmpI a.X d.X = 0 := by omega
    have e' : cmpI d.X a.X = 0 := by omega
    rw [e, if_pos rfl] at h
    rw [e', if_pos rfl]
    rcases Int.lt_trichotomy a.Y d.Y with hy | hy | hy
    · omega
    · exact absurd (place_ext hx hy) hn
    · omega
  · have e : cmpI d.X a.X = -1 := by omega
    rw [e, if_neg (by decide)]
    decide
structure SortedP (r : List Place) : Prop where
  lt : ∀ (i : Nat) (a b : Place), r[i]? = some a → r[i + 1]? = some b → cmpP a b < 0
theorem cmpS_at (p q : Place) : G106 (p, q, ()) = some (cmpP p q, ()) := cmpPS p q
theorem cmpI_at (p q : Place) : G65 (p, q, ()) = some (cmpP p q, ()) := cmpPI p q
theorem sorted_w {l : List Place} (hl : l.length ≤ 1048576) : wp (G103 (l, ())) (fun r => SortedP r.1 ∧ r.1.length ≤ l.length ∧ (∀ p ∈ r.1, p ∈ l) ∧ (1 ≤ l.length → 1 ≤ r.1.length)) := by
  unfold G103 F103
  refine wp_iter l.length (fun j t => ∃ (i : Nat) (r : List Place), t = (r, l, Int.ofNat l.length, (i : Int), ()) ∧ i + j = l.length ∧ SortedP r ∧ r.length ≤ i ∧ (∀ p ∈ r, p ∈ l) ∧ (1 ≤ i → 1 ≤ r.length))
    (by omega) ⟨0, [], rfl, by omega, ⟨fun i a b h => by simp at h⟩, by simp, (fun p hp => by cases hp), fun h => by omega⟩ ?_
  rintro j _ ⟨i, r, rfl, hij, hs, hri, hm, h1⟩ rec hrec
  simp only [s103_0]
  by_cases hi : i < l.length
  · have hx : l[i]? = some l[i] := by simp
    have hxm : l[i] ∈ l := by simp
    have e1 : w64 ((i : Int) + 1) = ((i + 1 : Nat) : Int) := w64_id (by omega) (by omega)
    rw [cond_true_dec (by simp; omega), rdL_at hx]
    generalize l[i] = d at hx hxm
    refine wp_loop r.length (fun j t => ∃ k : Nat, t = (r, d, (k : Int), l, Int.ofNat l.length, (i : Int), ()) ∧ k + j = r.length ∧ ∀ (m : Nat) (e : Place), m < k → r[m]? = some e → cmpP e d < 0)
      (fun t => ∃ k : Nat, t = (r, d, (k : Int), l, Int.ofNat l.length, (i : Int), ()) ∧ k ≤ r.length ∧ (∀ (m : Nat) (e : Place), m < k → r[m]? = some e → cmpP e d < 0) ∧ ∀ e, r[k]? = some e → ¬ cmpP e d < 0)
      (by omega) ⟨0, rfl, by omega, fun m e h => by omega⟩ ?_ ?_
    · rintro j' _ ⟨k, rfl, hkj, g⟩ rec' K' hrec' hK'
      simp only [s103_2]
      by_cases hk : k < r.length
      · have hy : r[k]? = some r[k] := by simp
        have hy' := fun (K : Place → Option (List Place × Unit)) => rdL_at (K := K) hy
        have e2 : w64 ((k : Int) + 1) = ((k + 1 : Nat) : Int) := w64_id (by omega) (by omega)
        rw [cond_true_dec (by simp; omega)]
        simp only [hy', hy, Int.toNat_natCast, Option.bind_some, cmpS_at, e2]
        refine wp_dec (fun h => hrec' (j' - 1) _ (by omega) ⟨k + 1, rfl, by omega, fun m e hm he => ?_⟩) fun h => hK' _ ⟨k, rfl, by omega, g, fun e he => by rw [hy] at he; cases he; exact h⟩
        by_cases hmk : m = k
        · subst hmk; rw [hy] at he; cases he; exact h
        · exact g m e (by omega) he
      · rw [cond_false_dec (by simp; omega)]
        exact hK' _ ⟨k, rfl, by omega, g, fun e he => by rw [List.getElem?_eq_none (by omega)] at he; cases he⟩
    · rintro _ ⟨k, rfl, hk, g1, g2⟩
      have ins : ∀ (hne : ∀ e, r[k]? = some e → e ≠ d), wp (okIf (0 ≤ (k : Int) ∧ (k : Int) ≤ List.length r) (capK (List.length ([] : List Place) + List.length (List.drop 0 (List.take (Int.toNat (k : Int)) r))) (capK (List.length (([] : List Place) ++ (List.drop 0 (List.take (Int.toNat (k : Int)) r))) + List.length ([d] : List Place)) (okIf (0 ≤ (k : Int) ∧ (k : Int) ≤ List.length r) (capK (List.length ((([] : List Place) ++ (List.drop 0 (List.take (Int.toNat (k : Int)) r))) ++ ([d] : List Place)) + List.length (List.drop (Int.toNat (k : Int)) (List.take (List.length r) r))) (rec ((((([] : List Place) ++ (List.drop 0 (List.take (Int.toNat (k : Int)) r))) ++ ([d] : List Place)) ++ (List.drop (Int.toNat (k : Int)) (List.take (List.length r) r))), l, Int.ofNat l.length, (w64 ((i : Int) + 1)), ()))))))) (fun r => SortedP r.1 ∧ r.1.length ≤ l.length ∧ (∀ p ∈ r.1, p ∈ l) ∧ (1 ≤ l.length → 1 ≤ r.1.length)) := fun hne => by
        have el : (((([] : List Place) ++ (List.drop 0 (List.take (Int.toNat (k : Int)) r))) ++ ([d] : List Place)) ++ (List.drop (Int.toNat (k : Int)) (List.take (List.length r) r))) = insAt r k d := by
          unfold insAt; simp
        rw [el, e1]
        refine wp_okIf ⟨by omega, by omega⟩ (wp_cap (by simp; omega) (wp_cap (by simp; omega) (wp_okIf ⟨by omega, by omega⟩ (wp_cap (by simp; omega) (hrec (j - 1) _ (by omega) ⟨i + 1, _, rfl, by omega, ⟨?_⟩, ?_, ?_, ?_⟩)))))
        · exact insAt_adj (fun a b => cmpP a b < 0) hk hs.lt (fun m a hm ha => g1 m a (by omega) ha) fun e he => cmpP_lt (g2 e he) (hne e he)
        · rw [insAt_len]; omega
        · intro p hp
          rcases insAt_mem.1 hp with rfl | hp
          · exact hxm
          · exact hm p hp
        · intro _; rw [insAt_len]; omega
      dsimp only
      by_cases hke : k = r.length
      · rw [decide_eq_true (by simp; omega)]
        simp only [Bool.not_true, cond_false]
        exact ins fun e he => by rw [List.getElem?_eq_none (by omega)] at he; cases he
      · have hkl : k < r.length := by omega
        have hy : r[k]? = some r[k] := by simp
        have hy' := fun (K : Place → Option (List Place × Unit)) => rdL_at (K := K) hy
        rw [decide_eq_false (by simp; omega)]
        simp only [Bool.not_false, cond_true, hy', hy, Int.toNat_natCast, Option.bind_some]
        have same : wp (rec (r, l, Int.ofNat l.length, (w64 ((i : Int) + 1)), ())) (fun r => SortedP r.1 ∧ r.1.length ≤ l.length ∧ (∀ p ∈ r.1, p ∈ l) ∧ (1 ≤ l.length → 1 ≤ r.1.length)) := by
          rw [e1]
          exact hrec (j - 1) _ (by omega) ⟨i + 1, r, rfl, by omega, hs, by omega, hm, fun _ => by omega⟩
        have ins' := ins
        simp only [Int.toNat_natCast] at ins'
        by_cases ex : r[k].X = d.X
        · by_cases ey : r[k].Y = d.Y
          · rw [decide_eq_true ex, decide_eq_true ey]
            simp only [Bool.and_self, Bool.not_true, cond_false]
            exact same
          · rw [decide_eq_true ex, decide_eq_false ey]
            simp only [Bool.true_and, Bool.false_and, Bool.not_false, cond_true]
            exact ins' fun e he => by rw [hy] at he; cases he; exact fun h => ey (by rw [h])
        · rw [decide_eq_false ex]
          simp only [Bool.false_and, Bool.not_false, cond_true]
          exact ins' fun e he => by rw [hy] at he; cases he; exact fun h => ex (by rw [h])
  · rw [cond_false_dec (by simp; omega)]
    exact wp_some ⟨hs, by show r.length ≤ l.length; omega, hm, fun _ => h1 (by omega)⟩
theorem roseI_sorted {r : List Place} (hs : SortedP r) (hd : ∀ p ∈ r, isDr p = true) (h1 : 1 ≤ r.length) (h4 : r.length ≤ 4) : G57 (r, ()) = some (true, ()) := by
  unfold G57 F57
  refine (iterF_for (f := s57_0 G89 G65 G42) (K := fun t6 => (G42 ((Int.ofNat (List.length t6.1)), 1, 4, ())).bind fun x7 => some (x7.1, ())) (fun i => (r, r, Int.ofNat r.length, (i : Int), ())) r.length (by omega) ?_ ?_).trans ?_
  · intro i hi rec K
    have hx : r[i]? = some r[i] := by simp
    have e1 : w64 ((i : Int) + 1) = ((i + 1 : Nat) : Int) := w64_id (by omega) (by omega)
    have hdr : G89 (r[i], ()) = some (isDr r[i], ()) := drI _
    simp only [s57_0]
    rw [cond_true_dec (by simp; omega), rdL_at hx, hdr, hd _ (by simp), e1]
    simp only [Option.bind_some, Bool.not_true, Bool.not_false, cond_true]
    by_cases hz : i = 0
    · rw [cond_false_dec (by omega)]
    · obtain ⟨j, rfl⟩ : ∃ j, i = j + 1 := ⟨i - 1, by omega⟩
      have hy : r[j]? = some r[j] := by simp
      have e2 : w64 (((j + 1 : Nat) : Int) - 1) = (j : Int) := by rw [w64_id (by omega) (by omega)]; omega
      have hlt := hs.lt j r[j] r[j + 1] hy hx
      rw [cond_true_dec (by omega), e2, rdL_at hy, cmpI_at]
      simp only [Option.bind_some]
      rw [cond_false_dec (by omega)]
  · intro rec K
    simp only [s57_0]
    rw [cond_false_dec (by simp)]
  · have hw : G42 (Int.ofNat r.length, 1, 4, ()) = some (wi (Int.ofNat r.length) 1 4, ()) := within_is _ _ _
    simp only
    rw [hw, wi_of (by simp only [Int.ofNat_eq_natCast]; omega) (by simp only [Int.ofNat_eq_natCast]; omega)]
    rfl
theorem rose_w {b : List Int} (hb : b.length ≤ 1099511627776) {i h : Int} (hi : 0 ≤ i) : wp (G53 ((b, i, h, ()), ())) (CurP b RoseV) := by
  unfold G53 F53
  refine wp_cur (below_w hb hi (by omega)) fun i1 h1 n p1 q1 => ?_
  dsimp only
  rw [w64_id (n := 1 + n) (by omega) (by omega)]
  refine wp_loop (1 + n).toNat (fun j t => ∃ (c : Cur) (l : List Place), t = (c, l, (j : Int), ()) ∧ curOK b c ∧ (∀ p ∈ l, isDr p = true) ∧ l.length + j = (1 + n).toNat) (fun t => ∃ (c : Cur) (l : List Place) (k : Int), t = (c, l, k, ()) ∧ curOK b c ∧ (∀ p ∈ l, isDr p = true) ∧ l.length = (1 + n).toNat)
    (by omega) ⟨_, [], by rw [Int.toNat_of_nonneg (by omega)], ⟨i1, h1, rfl, p1⟩, (fun p hp => by cases hp), by simp⟩ ?_ ?_
  · rintro j _ ⟨_, l, rfl, ⟨i2, h2, rfl, p2⟩, hs, hj⟩ rec K hrec hK
    simp only [s53_0]
    refine wp_dec (fun hc => ?_) fun hc => hK _ ⟨_, l, _, rfl, ⟨i2, h2, rfl, p2⟩, hs, by omega⟩
    refine wp_cur (drift_w hb p2) fun i3 h3 x3 p3 q3 => wp_cap (by simp; omega) ?_
    rw [w64_id (n := (j : Int) - 1) (by omega) (by omega)]
    refine hrec (j - 1) _ (by omega) ⟨_, _, by rw [Int.natCast_sub (by omega)]; rfl, ⟨i3, h3, rfl, p3⟩, fun p hp => ?_, by simp; omega⟩
    rcases List.mem_append.mp hp with hp | hp
    · exact hs p hp
    · rw [List.mem_singleton] at hp
      rw [hp]
      show isDr x3 = true
      unfold isDr
      rw [wi_of (by omega) (by omega), wi_of (by omega) (by omega)]; rfl
  · rintro _ ⟨_, l, k, rfl, ⟨i2, h2, rfl, p2⟩, hs, hl⟩
    refine wp_bind (sorted_w (l := l) (by omega)) fun r hr => ?_
    obtain ⟨r1, r2, r3, r4⟩ := hr
    exact wp_ret p2 (roseV_of (by omega) (roseI_sorted r1 (fun p hp => hs p (r3 p hp)) (r4 (by omega)) (by omega)))
/-! ### Boxes -/
theorem any2_w {b : List Int} (hb : b.length ≤ 1099511627776) {i h : Int} (hi : 0 ≤ i) : wp (G142 ((b, i, h, ()), ())) (CurP b fun _ => True) := by
  unfold G142 F142
  refine wp_cur (place2_w hb hi) fun i1 h1 x1 p1 q1 => ?_
  refine wp_cur (once_w hb p1 (by omega)) fun i2 h2 x2 p2 q2 => ?_
  refine wp_cond (fun _ => ?_) fun _ => ?_
  · refine wp_cur (odd_w hb p2) fun i3 h3 x3 p3 q3 => ?_
    refine wp_cur (once_w hb p3 (by omega)) fun i4 h4 x4 p4 q4 => ?_
    refine wp_cond (fun _ => ?_) fun _ => wp_ret p4 trivial
    exact wp_cur (int_w hb p4 (by simp)) fun i5 h5 x5 p5 q5 => wp_ret p5 trivial
  · refine wp_cur (once_w hb p2 (by omega)) fun i4 h4 x4 p4 q4 => ?_
    refine wp_cond (fun _ => ?_) fun _ => wp_ret p4 trivial
    exact wp_cur (int_w hb p4 (by simp)) fun i5 h5 x5 p5 q5 => wp_ret p5 trivial
theorem box_w {b : List Int} (hb : b.length ≤ 1099511627776) {i h : Int} (hi : 0 ≤ i) : wp (G96 ((b, i, h, ()), ())) (CurP b fun _ => True) := by
  unfold G96 F96
  refine wp_cur (place2_w hb hi) fun i1 h1 x1 p1 q1 => ?_
  refine wp_cur (below_w hb p1 (by omega)) fun i2 h2 x2 p2 q2 => ?_
  simp only [both_self']
  refine wp_cur (below_w hb p2 (by omega)) fun i3 h3 x3 p3 q3 => ?_
  refine wp_cur (below_w hb p3 (by omega)) fun i4 h4 x4 p4 q4 => ?_
  refine wp_dec (fun _ => wp_cur (any2_w hb p4) fun i5 h5 x5 p5 q5 => wp_ret p5 trivial) fun _ => ?_
  exact wp_dec (fun _ => wp_cur (any2_w hb p4) fun i5 h5 x5 p5 q5 => wp_ret p5 trivial) fun _ => wp_ret p4 trivial
theorem basin_w {b : List Int} (hb : b.length ≤ 1099511627776) {i h : Int} (hi : 0 ≤ i) : wp (G48 ((b, i, h, ()), ())) (CurP b fun _ => True) := by
  unfold G48 F48
  refine wp_cur (below_w hb hi (by omega)) fun i1 h1 x1 p1 q1 => ?_
  refine wp_cur (below_w hb p1 (by omega)) fun i2 h2 x2 p2 q2 => ?_
  refine wp_cur (below_w hb p2 (by omega)) fun i3 h3 x3 p3 q3 => ?_
  refine wp_cur (below_w hb p3 (by omega)) fun i4 h4 x4 p4 q4 => ?_
  refine wp_cur (below_w hb p4 (by omega)) fun i5 h5 x5 p5 q5 => ?_
  refine wp_dec (fun _ => wp_cur (box_w hb p5) fun i6 h6 x6 p6 q6 => wp_ret p6 trivial) fun _ => ?_
  exact wp_dec (fun _ => wp_ret p5 trivial) fun _ => wp_ret p5 trivial
theorem near_w {b : List Int} (hb : b.length ≤ 1099511627776) {i h : Int} (hi : 0 ≤ i) {s : ShowT} (hs : ShowOK s) {r : List Place} (hr : r.length ≤ 1048576) : wp (G54 ((b, i, h, ()), s, r, ())) (CurP b fun _ => True) := by
  obtain ⟨B, v, e, _⟩ := least_ok s hs r hr
  unfold G54 F54
  simp only [es_show, e, Option.bind_some]
  refine wp_cond (fun _ => ?_) fun _ => wp_cur (basin_w hb hi) fun i5 h5 x5 p5 q5 => wp_ret p5 trivial
  refine wp_cur (once_w hb hi (by omega)) fun i2 h2 x2 p2 q2 => ?_
  refine wp_cond (fun _ => wp_cur (basin_w hb p2) fun i5 h5 x5 p5 q5 => wp_ret p5 trivial) fun _ => ?_
  refine wp_cur (below_w hb p2 (by omega)) fun i3 h3 x3 p3 q3 => ?_
  refine wp_dec (fun _ => wp_ret p3 trivial) fun _ => ?_
  refine wp_dec (fun _ => wp_ret p3 trivial) fun _ => ?_
  refine wp_dec (fun _ => wp_ret p3 trivial) fun _ => ?_
  exact wp_dec (fun _ => wp_ret p3 trivial) fun _ => wp_ret p3 trivial
/-! ### Winds that fit -/
structure FitW (r : List Place) (w : List Gust) : Prop where
  wind : WindP w
  first : ∃ g, w[0]? = some g ∧ g.From = 0
  mem : ∀ g ∈ w, g.Drift ∈ r
theorem fitting_w {b : List Int} (hb : b.length ≤ 1099511627776) {i h : Int} (hi : 0 ≤ i) {r : List Place} (hr : RoseV r) : wp (G56 ((b, i, h, ()), r, ())) (CurP b (FitW r)) := by
  have hlen := hr.len
  unfold G56 F56
  refine wp_cur (below_w hb hi (by omega)) fun i1 h1 n p1 q1 => ?_
  dsimp only
  rw [w64_id (n := 1 + n) (by omega) (by omega)]
  refine wp_loop (1 + n).toNat (fun j t => ∃ (c : Cur) (l : List Gust) (u : Int), t = (c, r, l, u, (j : Int), ()) ∧ curOK b c ∧ WindP l ∧ l.length + j = (1 + n).toNat ∧ 0 ≤ u ∧ u ≤ 6 * (l.length : Int) ∧ (∀ a, l[l.length - 1]? = some a → a.From < u) ∧ (∀ g ∈ l, g.Drift ∈ r) ∧ (l = [] → u = 0) ∧ ∀ g, l[0]? = some g → g.From = 0)
    (fun t => ∃ (c : Cur) (l : List Gust) (u k : Int), t = (c, r, l, u, k, ()) ∧ curOK b c ∧ FitW r l)
    (by omega) ⟨_, [], 0, by rw [Int.toNat_of_nonneg (by omega)], ⟨i1, h1, rfl, p1⟩, wind_nil, by simp, by omega, by simp, (fun a ha => by simp at ha), (fun g hg => by cases hg), (fun _ => rfl), fun g hg => by simp at hg⟩ ?_ ?_
  · rintro j _ ⟨_, l, u, rfl, ⟨i3, h3, rfl, p3⟩, hw, hl, hu0, hu1, hlt, hmem, hz, hf⟩ rec K hrec hK
    simp only [s56_0]
    refine wp_dec (fun hc => ?_) fun hc => hK _ ⟨_, l, u, _, rfl, ⟨i3, h3, rfl, p3⟩, hw, ?_, hmem⟩
    · refine wp_cur (below_w hb p3 (by simp only [Int.ofNat_eq_natCast]; omega)) fun i4 h4 x4 p4 q4 => ?_
      refine wp_rd q4.1 (by have := q4.2; simpa using this) fun d hd _ => ?_
      refine wp_cap (by simp; omega) ?_
      refine wp_cur (below_w hb p4 (by omega)) fun i5 h5 x5 p5 q5 => ?_
      dsimp only
      rw [w64_id (n := u + 1) (by omega) (by omega), w64_id (n := u + 1 + x5) (by omega) (by omega), w64_id (n := (j : Int) - 1) (by omega) (by omega)]
      have hj : 1 ≤ j := by omega
      refine hrec (j - 1) _ (by omega) ⟨_, l ++ [⟨u, ⟨d.X, d.Y⟩⟩], u + 1 + x5, by rw [Int.natCast_sub hj]; rfl, ⟨i5, h5, rfl, p5⟩, ⟨?_, ?_, ?_⟩, by simp; omega, by omega, by simp; omega, fun a ha => ?_, ?_, ?_, ?_⟩
      · simp; omega
      · intro g hg
        rcases List.mem_append.mp hg with hg | hg
        · exact hw.gust g hg
        · rw [List.mem_singleton] at hg
          subst hg
          exact ⟨⟨hu0, by simp only; omega⟩, hr.sm d hd⟩
      · exact adj_snoc hw.lt hlt
      · have e : (l ++ [(⟨u, ⟨d.X, d.Y⟩⟩ : Gust)]).length - 1 = l.length := by simp
        rw [e, List.getElem?_append_right (Nat.le_refl _), Nat.sub_self] at ha
        simp at ha
        subst ha
        simp only; omega
      · intro g hg
        rcases List.mem_append.mp hg with hg | hg
        · exact hmem g hg
        · rw [List.mem_singleton] at hg
          subst hg
          exact hd
      · intro h
        simp at h
      · intro g hg
        cases l with
        | nil =>
          simp at hg
          subst hg
          exact hz rfl
        | cons a l =>
          simp at hg
          subst hg
          exact hf _ rfl
    · cases l with
      | nil => simp at hl; omega
      | cons a l => exact ⟨a, rfl, hf a rfl⟩
  · rintro _ ⟨_, l, u, k, rfl, ⟨i3, h3, rfl, p3⟩, hw⟩
    exact wp_ret p3 hw
/-- What is drawn for a basin. -/
structure DrawB (s : ShowT) (r : List Place) (c : Box) (w : List Gust) : Prop where
  show_ : ShowV s
  rose : RoseV r
  box : isBx c = true
  fit : FitW r w
theorem drawBasin_w {b : List Int} (hb : b.length ≤ 4096) : wp (G22 (b, ())) (fun x => DrawB x.1 x.2.1 x.2.2.1 x.2.2.2.1) := by
  have hb' : b.length ≤ 1099511627776 := by omega
  unfold G22 F22
  refine wp_bind (new_w hb) ?_
  rintro _ ⟨h, rfl⟩
  refine wp_cur (show_w hb' (Int.le_refl 0)) fun i1 h1 s p1 q1 => ?_
  refine wp_cur (rose_w hb' p1) fun i2 h2 r p2 q2 => ?_
  refine wp_cur (near_w hb' p2 (s := s) (r := r) q1.1.ok (by have := q2.len; omega)) fun i3 h3 c p3 q3 => ?_
  simp only [boxS_is, Option.bind_some]
  cases hc : isBx c
  · simp only [Bool.not_false, cond_true]
    exact wp_cur (fitting_w hb' p3 q2) fun i4 h4 w p4 q4 => wp_some ⟨q1.1, q2, by show isBx ⟨⟨-300, -300⟩, ⟨300, 300⟩⟩ = true; decide, q4⟩
  · simp only [Bool.not_true, cond_false]
    exact wp_cur (fitting_w hb' p3 q2) fun i4 h4 w p4 q4 => wp_some ⟨q1.1, q2, hc, q4⟩
end Ev
