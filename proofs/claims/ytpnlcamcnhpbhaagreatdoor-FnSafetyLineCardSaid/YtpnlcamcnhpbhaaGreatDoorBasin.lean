/- Drawn basins: a valid show, a rose, a box, a wind that fits the rose. -/
import Derived.Test.YtpnlcamcnhpbhaaGreatDoorGeo
import Derived.Test.YtpnlcamcnhpbhaaGreatDoorDrawA
set_option linter.unusedVariables false
set_option linter.unusedSimpArgs false
set_option maxRecDepth 100000
namespace Ev
open Go
/-! ### Places in order -/
theorem cmpP_lt {a d : Place} (h : ¬ cmpP a d < 0) (hn : a ≠ d) : cmpP d a < 0 := by
  have h1 := cmpI_cases a.X d.X; have h2 := cmpI_cases a.Y d.Y
  have h3 := cmpI_cases d.X a.X; have h4 := cmpI_cases d.Y a.Y
  unfold cmpP at h ⊢
  rcases Int.lt_trichotomy a.X d.X with hx | hx | hx
  · exfalso
    have e : cmpI a.X d.X = -1 := by omega
    rw [e, if_neg (by decide)] at h
    omega
  · have e : cmpI a.X d.X = 0 := by omega
    have e' : cmpI d.X a.X = 0 := by omega
    rw [e, if_pos rfl] at h
    rw [e', if_pos rfl]
    rcases Int.lt_trichotomy a.Y d.Y with hy | hy | hy
    · omega
    · exact absurd (place_ext hx hy) hn
    · omega
  · have e : cmpI d.X a.X = -1 := by omega
    rw [e, if_neg (by decide)]
    decide
structure SortedP (r : List Place) : Prop where
  lt : ∀ (i : Nat) (a b : Place), r[i]? = some a → r[i + 1]? = some b → cmpP a b < 0
theorem cmpS_at (p q : Place) : G56 (p, q, ()) = some (cmpP p q, ()) := cmpPS p q
theorem cmpI_at (p q : Place) : G73 (p, q, ()) = some (cmpP p q, ()) := cmpPI p q
theorem sorted_w {l : List Place} (hl : l.length ≤ 1048576) : wp (G158 (l, ())) (fun r => SortedP r.1 ∧ r.1.length ≤ l.length ∧ (∀ p ∈ r.1, p ∈ l) ∧ (1 ≤ l.length → 1 ≤ r.1.length)) := by
  unfold G158 F158
  refine wp_iter l.length (fun j t => ∃ (i : Nat) (r : List Place), t = (r, l, Int.ofNat l.length, (i : Int), ()) ∧ i + j = l.length ∧ SortedP r ∧ r.length ≤ i ∧ (∀ p ∈ r, p ∈ l) ∧ (1 ≤ i → 1 ≤ r.length))
    (by omega) ⟨0, [], rfl, by omega, ⟨fun i a b h => by simp at h⟩, by simp, (fun p hp => by cases hp), fun h => by omega⟩ ?_
  rintro j _ ⟨i, r, rfl, hij, hs, hri, hm, h1⟩ rec hrec
  simp only [s158_0]
  by_cases hi : i < l.length
  · have hx : l[i]? = some l[i] := by simp
    have hxm : l[i] ∈ l := by simp
    have e1 : w64 ((i : Int) + 1) = ((i + 1 : Nat) : Int) := w64_id (by omega) (by omega)
    rw [cond_true_dec (by simp; omega), rdL_at hx]
    generalize l[i] = d at hx hxm
    refine wp_loop r.length (fun j t => ∃ k : Nat, t = (r, d, (k : Int), l, Int.ofNat l.length, (i : Int), ()) ∧ k + j = r.length ∧ ∀ (m : Nat) (e : Place), m < k → r[m]? = some e → cmpP e d < 0)
      (fun t => ∃ k : Nat, t = (r, d, (k : Int), l, Int.ofNat l.length, (i : Int), ()) ∧ k ≤ r.length ∧ (∀ (m : Nat) (e : Place), m < k → r[m]? = some e → cmpP e d < 0) ∧ ∀ e, r[k]? = some e → ¬ cmpP e d < 0)
      (by omega) ⟨0, rfl, by omega, fun m e h => by omega⟩ ?_ ?_
    · rintro j' _ ⟨k, rfl, hkj, g⟩ rec' K' hrec' hK'
      simp only [s158_2]
      by_cases hk : k < r.length
      · have hy : r[k]? = some r[k] := by simp
        have hy' := fun (K : Place → Option (List Place × Unit)) => rdL_at (K := K) hy
        have e2 : w64 ((k : Int) + 1) = ((k + 1 : Nat) : Int) := w64_id (by omega) (by omega)
        rw [cond_true_dec (by simp; omega)]
        simp only [hy', hy, Int.toNat_natCast, Option.bind_some, cmpS_at, e2]
        refine wp_dec (fun h => hrec' (j' - 1) _ (by omega) ⟨k + 1, rfl, by omega, fun m e hm he => ?_⟩) fun h => hK' _ ⟨k, rfl, by omega, g, fun e he => by rw [hy] at he; cases he; exact h⟩
        by_cases hmk : m = k
        · subst hmk; rw [hy] at he; cases he; exact h
        · exact g m e (by omega) he
      · rw [cond_false_dec (by simp; omega)]
        exact hK' _ ⟨k, rfl, by omega, g, fun e he => by rw [List.getElem?_eq_none (by omega)] at he; cases he⟩
    · rintro _ ⟨k, rfl, hk, g1, g2⟩
      have ins : ∀ (hne : ∀ e, r[k]? = some e → e ≠ d), wp (okIf (0 ≤ (k : Int) ∧ (k : Int) ≤ List.length r) (capK (List.length ([] : List Place) + List.length (List.drop 0 (List.take (Int.toNat (k : Int)) r))) (capK (List.length (([] : List Place) ++ (List.drop 0 (List.take (Int.toNat (k : Int)) r))) + List.length ([d] : List Place)) (okIf (0 ≤ (k : Int) ∧ (k : Int) ≤ List.length r) (capK (List.length ((([] : List Place) ++ (List.drop 0 (List.take (Int.toNat (k : Int)) r))) ++ ([d] : List Place)) + List.length (List.drop (Int.toNat (k : Int)) (List.take (List.length r) r))) (rec ((((([] : List Place) ++ (List.drop 0 (List.take (Int.toNat (k : Int)) r))) ++ ([d] : List Place)) ++ (List.drop (Int.toNat (k : Int)) (List.take (List.length r) r))), l, Int.ofNat l.length, (w64 ((i : Int) + 1)), ()))))))) (fun r => SortedP r.1 ∧ r.1.length ≤ l.length ∧ (∀ p ∈ r.1, p ∈ l) ∧ (1 ≤ l.length → 1 ≤ r.1.length)) := fun hne => by
        have el : (((([] : List Place) ++ (List.drop 0 (List.take (Int.toNat (k : Int)) r))) ++ ([d] : List Place)) ++ (List.drop (Int.toNat (k : Int)) (List.take (List.length r) r))) = insAt r k d := by
          unfold insAt; simp
        rw [el, e1]
        refine wp_okIf ⟨by omega, by omega⟩ (wp_cap (by simp; omega) (wp_cap (by simp; omega) (wp_okIf ⟨by omega, by omega⟩ (wp_cap (by simp; omega) (hrec (j - 1) _ (by omega) ⟨i + 1, _, rfl, by omega, ⟨?_⟩, ?_, ?_, ?_⟩)))))
        · exact insAt_adj (fun a b => cmpP a b < 0) hk hs.lt (fun m a hm ha => g1 m a (by omega) ha) fun e he => cmpP_lt (g2 e he) (hne e he)
        · rw [insAt_len]; omega
        · intro p hp
          rcases insAt_mem.1 hp with rfl | hp
          · exact hxm
          · exact hm p hp
        · intro _; rw [insAt_len]; omega
      dsimp only
      by_cases hke : k = r.length
      · rw [decide_eq_true (by simp; omega)]
        simp only [Bool.not_true, cond_false]
        exact ins fun e he => by rw [List.getElem?_eq_none (by omega)] at he; cases he
      · have hkl : k < r.length := by omega
        have hy : r[k]? = some r[k] := by simp
        have hy' := fun (K : Place → Option (List Place × Unit)) => rdL_at (K := K) hy
        rw [decide_eq_false (by simp; omega)]
        simp only [Bool.not_false, cond_true, hy', hy, Int.toNat_natCast, Option.bind_some]
        have same : wp (rec (r, l, Int.ofNat l.length, (w64 ((i : Int) + 1)), ())) (fun r => SortedP r.1 ∧ r.1.length ≤ l.length ∧ (∀ p ∈ r.1, p ∈ l) ∧ (1 ≤ l.length → 1 ≤ r.1.length)) := by
          rw [e1]
          exact hrec (j - 1) _ (by omega) ⟨i + 1, r, rfl, by omega, hs, by omega, hm, fun _ => by omega⟩
        have ins' := ins
        simp only [Int.toNat_natCast] at ins'
        by_cases ex : r[k].X = d.X
        · by_cases ey : r[k].Y = d.Y
          · rw [decide_eq_true ex, decide_eq_true ey]
            simp only [Bool.and_self, Bool.not_true, cond_false]
            exact same
          · rw [decide_eq_true ex, decide_eq_false ey]
            simp only [Bool.true_and, Bool.false_and, Bool.not_false, cond_true]
            exact ins' fun e he => by rw [hy] at he; cases he; exact fun h => ey (by rw [h])
        · rw [decide_eq_false ex]
          simp only [Bool.false_and, Bool.not_false, cond_true]
          exact ins' fun e he => by rw [hy] at he; cases he; exact fun h => ex (by rw [h])
  · rw [cond_false_dec (by simp; omega)]
    exact wp_some ⟨hs, by show r.length ≤ l.length; omega, hm, fun _ => h1 (by omega)⟩
theorem roseI_sorted {r : List Place} (hs : SortedP r) (hd : ∀ p ∈ r, isDr p = true) (h1 : 1 ≤ r.length) (h4 : r.length ≤ 4) : G36 (r, ()) = some (true, ()) := by
  unfold G36 F36
  refine (iterF_for (f := s36_0 G72 G73 G71) (K := fun t6 => (G71 ((Int.ofNat (List.length t6.1)), 1, 4, ())).bind fun x7 => some (x7.1, ())) (fun i => (r, r, Int.ofNat r.length, (i : Int), ())) r.length (by omega) ?_ ?_).trans ?_
  · intro i hi rec K
    have hx : r[i]? = some r[i] := by simp
    have e1 : w64 ((i : Int) + 1) = ((i + 1 : Nat) : Int) := w64_id (by omega) (by omega)
    have hdr : G72 (r[i], ()) = some (isDr r[i], ()) := drI _
    simp only [s36_0]
    rw [cond_true_dec (by simp; omega), rdL_at hx, hdr, hd _ (by simp), e1]
    simp only [Option.bind_some, Bool.not_true, Bool.not_false, cond_true]
    by_cases hz : i = 0
    · rw [cond_false_dec (by omega)]
    · obtain ⟨j, rfl⟩ : ∃ j, i = j + 1 := ⟨i - 1, by omega⟩
      have hy : r[j]? = some r[j] := by simp
      have e2 : w64 (((j + 1 : Nat) : Int) - 1) = (j : Int) := by rw [w64_id (by omega) (by omega)]; omega
      have hlt := hs.lt j r[j] r[j + 1] hy hx
      rw [cond_true_dec (by omega), e2, rdL_at hy, cmpI_at]
      simp only [Option.bind_some]
      rw [cond_false_dec (by omega)]
  · intro rec K
    simp only [s36_0]
    rw [cond_false_dec (by simp)]
  · have hw : G71 (Int.ofNat r.length, 1, 4, ()) = some (wi (Int.ofNat r.length) 1 4, ()) := within_is _ _ _
    simp only
    rw [hw, wi_of (by simp only [Int.ofNat_eq_natCast]; omega) (by simp only [Int.ofNat_eq_natCast]; omega)]
    rfl
theorem rose_w {b : List Int} (hb : b.length ≤ 1099511627776) {i h : Int} (hi : 0 ≤ i) : wp (G123 ((b, i, h, ()), ())) (CurP b RoseV) := by
  unfold G123 F123
  refine wp_cur (below_w hb hi (by omega)) fun i1 h1 n p1 q1 => ?_
  dsimp only
  rw [w64_id (n := 1 + n) (by omega) (by omega)]
  refine wp_loop (1 + n).toNat (fun j t => ∃ (c : Cur) (l : List Place), t = (c, l, (j : Int), ()) ∧ curOK b c ∧ (∀ p ∈ l, isDr p = true) ∧ l.length + j = (1 + n).toNat) (fun t => ∃ (c : Cur) (l : List Place) (k : Int), t = (c, l, k, ()) ∧ curOK b c ∧ (∀ p ∈ l, isDr p = true) ∧ l.length = (1 + n).toNat)
    (by omega) ⟨_, [], by rw [Int.toNat_of_nonneg (by omega)], ⟨i1, h1, rfl, p1⟩, (fun p hp => by cases hp), by simp⟩ ?_ ?_
  · rintro j _ ⟨_, l, rfl, ⟨i2, h2, rfl, p2⟩, hs, hj⟩ rec K hrec hK
    simp only [s123_0]
    refine wp_dec (fun hc => ?_) fun hc => hK _ ⟨_, l, _, rfl, ⟨i2, h2, rfl, p2⟩, hs, by omega⟩
    refine wp_cur (drift_w hb p2) fun i3 h3 x3 p3 q3 => wp_cap (by simp; omega) ?_
    rw [w64_id (n := (j : Int) - 1) (by omega) (by omega)]
    refine hrec (j - 1) _ (by omega) ⟨_, _, by rw [Int.natCast_sub (by omega)]; rfl, ⟨i3, h3, rfl, p3⟩, fun p hp => ?_, by simp; omega⟩
    rcases List.mem_append.mp hp with hp | hp
    · exact hs p hp
    · rw [List.mem_singleton] at hp
      rw [hp]
      show isDr x3 = true
      unfold isDr
      rw [wi_of (by omega) (by omega), wi_of (by omega) (by omega)]; rfl
  · rintro _ ⟨_, l, k, rfl, ⟨i2, h2, rfl, p2⟩, hs, hl⟩
    refine wp_bind (sorted_w (l := l) (by omega)) fun r hr => ?_
    obtain ⟨r1, r2, r3, r4⟩ := hr
    exact wp_ret p2 (roseV_of (by omega) (roseI_sorted r1 (fun p hp => hs p (r3 p hp)) (r4 (by omega)) (by omega)))
/-! ### Boxes -/
theorem any2_w {b : List Int} (hb : b.length ≤ 1099511627776) {i h : Int} (hi : 0 ≤ i) : wp (G192 ((b, i, h, ()), ())) (CurP b fun _ => True) := by
  unfold G192 F192
  refine wp_cur (place2_w hb hi) fun i1 h1 x1 p1 q1 => ?_
  refine wp_cur (once_w hb p1 (by omega)) fun i2 h2 x2 p2 q2 => ?_
  refine wp_cond (fun _ => ?_) fun _ => ?_
  · refine wp_cur (odd_w hb p2) fun i3 h3 x3 p3 q3 => ?_
    refine wp_cur (once_w hb p3 (by omega)) fun i4 h4 x4 p4 q4 => ?_
    refine wp_cond (fun _ => ?_) fun _ => wp_ret p4 trivial
    exact wp_cur (int_w hb p4 (by simp)) fun i5 h5 x5 p5 q5 => wp_ret p5 trivial
  · refine wp_cur (once_w hb p2 (by omega)) fun i4 h4 x4 p4 q4 => ?_
    refine wp_cond (fun _ => ?_) fun _ => wp_ret p4 trivial
    exact wp_cur (int_w hb p4 (by simp)) fun i5 h5 x5 p5 q5 => wp_ret p5 trivial
theorem box_w {b : List Int} (hb : b.length ≤ 1099511627776) {i h : Int} (hi : 0 ≤ i) : wp (G162 ((b, i, h, ()), ())) (CurP b fun _ => True) := by
  unfold G162 F162
  refine wp_cur (place2_w hb hi) fun i1 h1 x1 p1 q1 => ?_
  refine wp_cur (below_w hb p1 (by omega)) fun i2 h2 x2 p2 q2 => ?_
  simp only [both_self']
  refine wp_cur (below_w hb p2 (by omega)) fun i3 h3 x3 p3 q3 => ?_
  refine wp_cur (below_w hb p3 (by omega)) fun i4 h4 x4 p4 q4 => ?_
  refine wp_dec (fun _ => wp_cur (any2_w hb p4) fun i5 h5 x5 p5 q5 => wp_ret p5 trivial) fun _ => ?_
  exact wp_dec (fun _ => wp_cur (any2_w hb p4) fun i5 h5 x5 p5 q5 => wp_ret p5 trivial) fun _ => wp_ret p4 trivial
theorem basin_w {b : List Int} (hb : b.length ≤ 1099511627776) {i h : Int} (hi : 0 ≤ i) : wp (G127 ((b, i, h, ()), ())) (CurP b fun _ => True) := by
  unfold G127 F127
  refine wp_cur (below_w hb hi (by omega)) fun i1 h1 x1 p1 q1 => ?_
  refine wp_cur (below_w hb p1 (by omega)) fun i2 h2 x2 p2 q2 => ?_
  refine wp_cur (below_w hb p2 (by omega)) fun i3 h3 x3 p3 q3 => ?_
  refine wp_cur (below_w hb p3 (by omega)) fun i4 h4 x4 p4 q4 => ?_
  refine wp_cur (below_w hb p4 (by omega)) fun i5 h5 x5 p5 q5 => ?_
  refine wp_dec (fun _ => wp_cur (box_w hb p5) fun i6 h6 x6 p6 q6 => wp_ret p6 trivial) fun _ => ?_
  exact wp_dec (fun _ => wp_ret p5 trivial) fun _ => wp_ret p5 trivial
theorem near_w {b : List Int} (hb : b.length ≤ 1099511627776) {i h : Int} (hi : 0 ≤ i) {s : ShowT} (hs : ShowOK s) {r : List Place} (hr : r.length ≤ 1048576) : wp (G88 ((b, i, h, ()), s, r, ())) (CurP b fun _ => True) := by
  obtain ⟨B, v, e, _⟩ := least_ok s hs r hr
  unfold G88 F88
  simp only [es_show, e, Option.bind_some]
  refine wp_cond (fun _ => ?_) fun _ => wp_cur (basin_w hb hi) fun i5 h5 x5 p5 q5 => wp_ret p5 trivial
  refine wp_cur (once_w hb hi (by omega)) fun i2 h2 x2 p2 q2 => ?_
  refine wp_cond (fun _ => wp_cur (basin_w hb p2) fun i5 h5 x5 p5 q5 => wp_ret p5 trivial) fun _ => ?_
  refine wp_cur (below_w hb p2 (by omega)) fun i3 h3 x3 p3 q3 => ?_
  refine wp_dec (fun _ => wp_ret p3 trivial) fun _ => ?_
  refine wp_dec (fun _ => wp_ret p3 trivial) fun _ => ?_
  refine wp_dec (fun _ => wp_ret p3 trivial) fun _ => ?_
  exact wp_dec (fun _ => wp_ret p3 trivial) fun _ => wp_ret p3 trivial
/-! ### Winds that fit -/
structure FitW (r : List Place) (w : List Gust) : Prop where
  wind : WindP w
  first : ∃ g, w[0]? = some g ∧ g.From = 0
  mem : ∀ g ∈ w, g.Drift ∈ r
/-- What is drawn for a basin. -/
structure DrawB (s : ShowT) (r : List Place) (c : Box) (w : List Gust) : Prop where
  show_ : ShowV s
  rose : RoseV r
  box : isBx c = true
  fit : FitW r w
end Ev
