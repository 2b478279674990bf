/- What is told of all that a show throws: water, counts, the greatest height, the lamps, a jet. -/
import Derived.Test.YtnoodoiehlcblaaThrows
set_option linter.unusedVariables false
set_option linter.unusedSimpArgs false
set_option maxRecDepth 100000
namespace Ev
open Go
theorem es_show (s : ShowT) : (s.1, s.2.1, s.2.2.1, s.2.2.2.1, ()) = s := rfl
theorem throwsI_none {s : ShowT} (h : ShowOK s) (hb : showB s = false) : G58 (s, ()) = some (([] : List Throw), ()) := by
  unfold G58 F58
  simp only [es_show]
  rw [showI_is s h, hb]; rfl
theorem fold_take {α β : Type} (f : β → α → β) (b : β) (l : List α) (i : Nat) (h : i < l.length) : (l.take (i + 1)).foldl f b = f ((l.take i).foldl f b) l[i] := by
  rw [take_snocG l i h, List.foldl_append]; rfl
/-! ### Water -/
def waterF (a : Int) (x : Throw) : Int := w64 (a + x.jet.Lift)
theorem water_loop (l : List Throw) (hl : l.length ≤ 1048576) : iterF (s23_0 G58) fuel (0, l, Int.ofNat l.length, 0, ()) (fun t4 => some (t4.1, ())) = some (l.foldl waterF 0, ()) := by
  refine (iterF_for (f := s23_0 G58) (K := fun t4 => some (t4.1, ())) (fun i => ((l.take i).foldl waterF 0, l, Int.ofNat l.length, (i : Int), ())) l.length (by omega) ?_ ?_).trans (by simp)
  · intro i hi rec K
    have hx : l[i]? = some l[i] := by simp
    have hx' := fun (K : Throw → Option (Int × Unit)) => rdL_at (K := K) hx
    have e1 : w64 ((i : Int) + 1) = ((i + 1 : Nat) : Int) := w64_id (by omega) (by omega)
    rw [fold_take _ _ l i hi]
    simp only [s23_0]
    rw [cond_true_dec (by simp; omega)]
    simp only [hx', hx, Int.toNat_natCast, Option.bind_some, e1]
    rfl
  · intro rec K
    simp only [s23_0]
    rw [cond_false_dec (by simp)]
theorem water_ok (s : ShowT) (h : ShowOK s) : ∃ v, G22 (s, ()) = some (v, ()) ∧ G23 (s, ()) = some (v, ()) := by
  unfold G22 F22 G23 F23
  simp only [es_show]
  rw [showS_is s h]
  cases hb : showB s
  · rw [throwsI_none h hb]
    exact ⟨0, rfl, water_loop [] (by simp)⟩
  · have hv := showV_of h hb
    have hl : (throwsL s).length ≤ 1048576 := Nat.le_trans (throwsL_len hv) (by decide)
    rw [allI_is hv]
    simp only [Option.bind_some, Bool.not_true, cond_false]
    rw [allS_is hv]
    exact ⟨_, water_loop _ hl, water_loop _ hl⟩
/-! ### Drops that are thrown, and that have landed -/
def thrownF (t a : Int) (x : Throw) : Int := if x.born ≤ t then w64 (a + 1) else a
theorem thrown_loop (t : Int) (l : List Throw) (hl : l.length ≤ 1048576) : iterF (s25_0 G58) fuel (t, 0, l, Int.ofNat l.length, 0, ()) (fun t4 => some (t4.2.1, ())) = some (l.foldl (thrownF t) 0, ()) := by
  refine (iterF_for (f := s25_0 G58) (K := fun t4 => some (t4.2.1, ())) (fun i => (t, (l.take i).foldl (thrownF t) 0, l, Int.ofNat l.length, (i : Int), ())) l.length (by omega) ?_ ?_).trans (by simp)
  · intro i hi rec K
    have hx : l[i]? = some l[i] := by simp
    have hx' := fun (K : Throw → Option (Int × Unit)) => rdL_at (K := K) hx
    have e1 : w64 ((i : Int) + 1) = ((i + 1 : Nat) : Int) := w64_id (by omega) (by omega)
    rw [fold_take _ _ l i hi]
    simp only [s25_0]
    rw [cond_true_dec (by simp; omega)]
    simp only [hx', hx, Int.toNat_natCast, Option.bind_some, e1]
    unfold thrownF
    by_cases hc : l[i].born ≤ t
    · rw [cond_true_dec hc, if_pos hc]
    · rw [cond_false_dec hc, if_neg hc]
  · intro rec K
    simp only [s25_0]
    rw [cond_false_dec (by simp)]
theorem thrown_ok (s : ShowT) (h : ShowOK s) (t : Int) : ∃ v, G24 (s, t, ()) = some (v, ()) ∧ G25 (s, t, ()) = some (v, ()) := by
  unfold G24 F24 G25 F25
  simp only [es_show]
  rw [showS_is s h]
  cases hb : showB s
  · rw [throwsI_none h hb]
    exact ⟨0, rfl, thrown_loop t [] (by simp)⟩
  · have hv := showV_of h hb
    have hl : (throwsL s).length ≤ 1048576 := Nat.le_trans (throwsL_len hv) (by decide)
    rw [allI_is hv]
    simp only [Option.bind_some, Bool.not_true, cond_false]
    rw [allS_is hv]
    exact ⟨_, thrown_loop t _ hl, thrown_loop t _ hl⟩
theorem flS_is (j : Jet) : G59 (j, ()) = some (fl j, ()) := flS j
theorem flI_is (j : Jet) : G92 (j, ()) = some (fl j, ()) := flI j
def landedF (t a : Int) (x : Throw) : Int := if w64 (x.born + fl x.jet) ≤ t then w64 (a + 1) else a
theorem lands_is (x : Throw) : G60 (x, ()) = some (w64 (x.born + fl x.jet), ()) := by
  unfold G60 F60
  dsimp only
  rw [flI_is]; rfl
theorem landedI_loop (t : Int) (l : List Throw) (hl : l.length ≤ 1048576) : iterF (s27_0 G58 G60) fuel (t, 0, l, Int.ofNat l.length, 0, ()) (fun t4 => some (t4.2.1, ())) = some (l.foldl (landedF t) 0, ()) := by
  refine (iterF_for (f := s27_0 G58 G60) (K := fun t4 => some (t4.2.1, ())) (fun i => (t, (l.take i).foldl (landedF t) 0, l, Int.ofNat l.length, (i : Int), ())) l.length (by omega) ?_ ?_).trans (by simp)
  · intro i hi rec K
    have hx : l[i]? = some l[i] := by simp
    have hx' := fun (K : Throw → Option (Int × Unit)) => rdL_at (K := K) hx
    have e1 : w64 ((i : Int) + 1) = ((i + 1 : Nat) : Int) := w64_id (by omega) (by omega)
    rw [fold_take _ _ l i hi]
    simp only [s27_0]
    rw [cond_true_dec (by simp; omega)]
    simp only [hx', hx, Int.toNat_natCast, Option.bind_some, e1, lands_is]
    unfold landedF
    by_cases hc : w64 (l[i].born + fl l[i].jet) ≤ t
    · rw [cond_true_dec hc, if_pos hc]
    · rw [cond_false_dec hc, if_neg hc]
  · intro rec K
    simp only [s27_0]
    rw [cond_false_dec (by simp)]
theorem landedS_loop (t : Int) (l : List Throw) (hl : l.length ≤ 1048576) : iterF (s26_0 G38 G57 G59) fuel (t, 0, l, Int.ofNat l.length, 0, ()) (fun t4 => some (t4.2.1, ())) = some (l.foldl (landedF t) 0, ()) := by
  refine (iterF_for (f := s26_0 G38 G57 G59) (K := fun t4 => some (t4.2.1, ())) (fun i => (t, (l.take i).foldl (landedF t) 0, l, Int.ofNat l.length, (i : Int), ())) l.length (by omega) ?_ ?_).trans (by simp)
  · intro i hi rec K
    have hx : l[i]? = some l[i] := by simp
    have hx' := fun (K : Throw → Option (Int × Unit)) => rdL_at (K := K) hx
    have e1 : w64 ((i : Int) + 1) = ((i + 1 : Nat) : Int) := w64_id (by omega) (by omega)
    rw [fold_take _ _ l i hi]
    simp only [s26_0]
    rw [cond_true_dec (by simp; omega)]
    simp only [hx', hx, Int.toNat_natCast, Option.bind_some, e1, flS_is]
    unfold landedF
    by_cases hc : w64 (l[i].born + fl l[i].jet) ≤ t
    · rw [cond_true_dec hc, if_pos hc]
    · rw [cond_false_dec hc, if_neg hc]
  · intro rec K
    simp only [s26_0]
    rw [cond_false_dec (by simp)]
theorem landed_ok (s : ShowT) (h : ShowOK s) (t : Int) : ∃ v, G26 (s, t, ()) = some (v, ()) ∧ G27 (s, t, ()) = some (v, ()) := by
  unfold G26 F26 G27 F27
  simp only [es_show]
  rw [showS_is s h]
  cases hb : showB s
  · rw [throwsI_none h hb]
    exact ⟨0, rfl, landedI_loop t [] (by simp)⟩
  · have hv := showV_of h hb
    have hl : (throwsL s).length ≤ 1048576 := Nat.le_trans (throwsL_len hv) (by decide)
    rw [allI_is hv]
    simp only [Option.bind_some, Bool.not_true, cond_false]
    rw [allS_is hv]
    exact ⟨_, landedS_loop t _ hl, landedI_loop t _ hl⟩
/-! ### Heights -/
def ht (j : Jet) (t : Int) : Int := if isJet j = true ∧ 0 ≤ t ∧ t ≤ j.Lift + 1 then t * (j.Lift + 1 - t) else 0
theorem ht_small {L t : Int} (h1 : 1 ≤ L) (h2 : L ≤ 32) (h3 : 0 ≤ t) (h4 : t ≤ L + 1) : 0 ≤ t * (L + 1 - t) ∧ t * (L + 1 - t) ≤ 2000 := by
  have a := Int.mul_nonneg h3 (show 0 ≤ L + 1 - t by omega)
  have b : t * (L + 1 - t) ≤ 33 * 33 := Int.mul_le_mul (by omega) (by omega) (by omega) (by omega)
  omega
theorem htI_is (j : Jet) (t : Int) : G94 (j, t, ()) = some (ht j t, ()) := by
  unfold G94 F94 G116 F116 ht
  dsimp only
  rw [show G115 (j, ()) = some (isJet j, ()) from jetI j, flI_is]
  simp only [Option.bind_some]
  cases hj : isJet j
  · rw [if_neg (by simp)]; rfl
  · have hf : fl j = j.Lift + 1 := by unfold fl; rw [if_pos hj]
    simp only [cond_true, Option.bind_some, hf]
    rw [show G44 (t, 0, j.Lift + 1, ()) = some (wi t 0 (j.Lift + 1), ()) from within_is _ _ _]
    simp only [Option.bind_some]
    have J := (jet_ok hj).l
    cases hw : wi t 0 (j.Lift + 1)
    · rw [if_neg (by intro h; rw [wi_of h.2.1 h.2.2] at hw; cases hw)]; rfl
    · have hb := wi_true.1 hw
      have hs := ht_small J.1 J.2 hb.1 hb.2
      rw [if_pos ⟨by trivial, hb.1, hb.2⟩]
      simp only [Bool.not_true, cond_false]
      rw [w64_id (n := j.Lift + 1) (by omega) (by omega), w64_id (n := j.Lift + 1 - t) (by omega) (by omega), w64_id (by omega) (by omega)]
theorem htS_is (j : Jet) (t : Int) : G93 (j, t, ()) = some (ht j t, ()) := by
  unfold G93 F93 ht
  dsimp only
  rw [flS_is]
  simp only [Option.bind_some]
  by_cases hg : t > fl j
  · rw [cond_true_dec hg, if_neg]
    rintro ⟨hj, _, h2⟩
    unfold fl at hg; rw [if_pos hj] at hg; omega
  · rw [cond_false_dec hg]
    by_cases h0 : t ≤ 0
    · have e : iterF (s93_0 G59) fuel (t, j, 0, 0, ()) (fun t3 => some (t3.2.2.1, ())) = some (0, ()) := by
        obtain ⟨n, hn⟩ := fuel_ge 1 (by omega)
        rw [hn, iterF_succ]
        simp only [s93_0]
        rw [cond_false_dec (by omega)]
      rw [e]
      split
      · rename_i h
        have : t = 0 := by omega
        subst this; simp
      · rfl
    · have hj : isJet j = true := by
        unfold fl at hg
        by_cases hj : isJet j = true
        · exact hj
        · rw [if_neg hj] at hg; omega
      have hf : fl j = j.Lift + 1 := by unfold fl; rw [if_pos hj]
      have J := (jet_ok hj).l
      rw [hf] at hg
      rw [if_pos ⟨hj, by omega, by omega⟩]
      obtain ⟨n, rfl⟩ := Int.eq_ofNat_of_zero_le (show 0 ≤ t by omega)
      have e0 : ((0 : Nat) : Int) * (j.Lift + 1 - ((0 : Nat) : Int)) = 0 := by simp
      have key := iterF_for (f := s93_0 G59) (K := fun t3 => some (t3.2.2.1, ())) (fun i => ((n : Int), j, (i : Int) * (j.Lift + 1 - (i : Int)), (i : Int), ())) n (by omega) ?_ ?_
      · simp only [e0] at key
        exact key
      · intro i hi rec K
        have e1 : w64 ((i : Int) + 1) = ((i + 1 : Nat) : Int) := w64_id (by omega) (by omega)
        have hs := ht_small J.1 J.2 (t := (i : Int)) (by omega) (by omega)
        have hnx : ((i + 1 : Nat) : Int) * (j.Lift + 1 - ((i + 1 : Nat) : Int)) = (i : Int) * (j.Lift + 1 - (i : Int)) + j.Lift - 2 * (i : Int) := by
          simp only [Int.natCast_add, Int.natCast_one, Int.add_mul, Int.mul_sub, Int.mul_add, Int.sub_mul, Int.mul_one, Int.one_mul]
          omega
        simp only [s93_0]
        rw [cond_true_dec (by omega), e1, hnx]
        rw [w64_id (n := (i : Int) * (j.Lift + 1 - (i : Int)) + j.Lift) (by omega) (by omega), w64_id (n := 2 * (i : Int)) (by omega) (by omega), w64_id (by omega) (by omega)]
      · intro rec K
        simp only [s93_0]
        rw [cond_false_dec (by omega)]
/-- The height of the peak. -/
def pk (j : Jet) : Int := ht j (fl j / 2)
theorem fl_bound (j : Jet) : 0 ≤ fl j ∧ fl j ≤ 33 := by
  unfold fl
  by_cases hj : isJet j = true
  · have J := (jet_ok hj).l
    rw [if_pos hj]; omega
  · rw [if_neg hj]; omega
theorem peakI_is (j : Jet) : G63 (j, ()) = some (fl j / 2, pk j, ()) := by
  have hb := fl_bound j
  unfold G63 F63 pk
  dsimp only
  rw [flI_is]
  simp only [Option.bind_some]
  rw [Int.tdiv_eq_ediv_of_nonneg hb.1, w64_id (by omega) (by omega), htI_is]
  rfl
theorem ht_up {j : Jet} (hj : isJet j = true) {t : Int} (h1 : 1 ≤ t) (h2 : t ≤ fl j / 2) : ht j t > ht j (t - 1) := by
  have hf : fl j = j.Lift + 1 := by unfold fl; rw [if_pos hj]
  have J := (jet_ok hj).l
  rw [hf] at h2
  unfold ht
  rw [if_pos ⟨hj, by omega, by omega⟩, if_pos ⟨hj, by omega, by omega⟩]
  have : t * (j.Lift + 1 - t) = (t - 1) * (j.Lift + 1 - (t - 1)) + (j.Lift + 2 - 2 * t) := by
    simp only [Int.sub_mul, Int.mul_sub, Int.mul_add, Int.mul_one, Int.one_mul]
    omega
  omega
theorem ht_top {j : Jet} (hj : isJet j = true) {t : Int} (h1 : fl j / 2 ≤ t) (h2 : t ≤ fl j) : ht j t ≤ pk j := by
  have hf : fl j = j.Lift + 1 := by unfold fl; rw [if_pos hj]
  have J := (jet_ok hj).l
  unfold pk
  rw [hf] at h1 h2 ⊢
  unfold ht
  rw [if_pos ⟨hj, by omega, by omega⟩, if_pos ⟨hj, by omega, by omega⟩]
  generalize hm : (j.Lift + 1) / 2 = m at h1
  have hm2 : j.Lift + 1 ≤ 2 * m + 1 ∧ 2 * m ≤ j.Lift + 1 := by omega
  by_cases e : t = m
  · subst e; exact Int.le_refl _
  · have := Int.mul_nonneg (show 0 ≤ t - m by omega) (show 0 ≤ t + m - (j.Lift + 1) by omega)
    have e2 : (t - m) * (t + m - (j.Lift + 1)) = m * (j.Lift + 1 - m) - t * (j.Lift + 1 - t) := by
      simp only [Int.sub_mul, Int.mul_sub, Int.mul_add, Int.mul_one]
      have := Int.mul_comm m t
      omega
    omega
theorem peakS_is (j : Jet) : G61 (j, ()) = some (fl j / 2, pk j, ()) := by
  have hb := fl_bound j
  obtain ⟨n, hn⟩ := Int.eq_ofNat_of_zero_le hb.1
  unfold G61 F61
  have key := iterF_for (f := s61_0 G59 G93) (K := fun t5 => (G93 (t5.1, t5.2.1, ())).bind fun x6 => some (t5.2.1, x6.1, ())) (fun i => (j, (min (i : Int) (fl j / 2)), ((i + 1 : Nat) : Int), ())) n (by omega)
    (by
      intro i hi rec K
      have e1 : w64 (((i + 1 : Nat) : Int) + 1) = ((i + 1 + 1 : Nat) : Int) := w64_id (by omega) (by omega)
      have hj : isJet j = true := by
        unfold fl at hn
        by_cases hj : isJet j = true
        · exact hj
        · rw [if_neg hj] at hn; omega
      simp only [s61_0, flS_is, Option.bind_some]
      rw [cond_true_dec (by omega), htS_is, htS_is, e1]
      simp only [Option.bind_some]
      by_cases hc : ((i + 1 : Nat) : Int) ≤ fl j / 2
      · have hu := ht_up hj (by omega) hc
        have em : min (i : Int) (fl j / 2) = ((i + 1 : Nat) : Int) - 1 := by omega
        have em2 : min ((i + 1 : Nat) : Int) (fl j / 2) = ((i + 1 : Nat) : Int) := by omega
        rw [em, em2, cond_true_dec hu]
      · have em : min (i : Int) (fl j / 2) = fl j / 2 := by omega
        have em2 : min ((i + 1 : Nat) : Int) (fl j / 2) = fl j / 2 := by omega
        have hu := ht_top hj (t := ((i + 1 : Nat) : Int)) (by omega) (by omega)
        unfold pk at hu
        rw [em, em2, cond_false_dec (by omega)])
    (by
      intro rec K
      simp only [s61_0, flS_is, Option.bind_some]
      rw [cond_false_dec (by omega)])
  have e0 : min (((0 : Nat) : Nat) : Int) (fl j / 2) = 0 := by omega
  have en : min (n : Int) (fl j / 2) = fl j / 2 := by omega
  simp only [e0, en] at key
  rw [htS_is] at key
  exact key
def highF (a : Int) (x : Throw) : Int := mx a (pk x.jet)
theorem highI_loop (l : List Throw) (hl : l.length ≤ 1048576) : iterF (s29_0 G58 G63) fuel (0, l, Int.ofNat l.length, 0, ()) (fun t4 => some (t4.1, ())) = some (l.foldl highF 0, ()) := by
  refine (iterF_for (f := s29_0 G58 G63) (K := fun t4 => some (t4.1, ())) (fun i => ((l.take i).foldl highF 0, l, Int.ofNat l.length, (i : Int), ())) l.length (by omega) ?_ ?_).trans (by simp)
  · intro i hi rec K
    have hx : l[i]? = some l[i] := by simp
    have hx' := fun (K : Throw → Option (Int × Unit)) => rdL_at (K := K) hx
    have e1 : w64 ((i : Int) + 1) = ((i + 1 : Nat) : Int) := w64_id (by omega) (by omega)
    rw [fold_take _ _ l i hi]
    simp only [s29_0]
    rw [cond_true_dec (by simp; omega)]
    simp only [hx', hx, Int.toNat_natCast, Option.bind_some, e1, peakI_is]
    rfl
  · intro rec K
    simp only [s29_0]
    rw [cond_false_dec (by simp)]
theorem max_is' (a b : Int) : G62 (a, b, ()) = some (mx a b, ()) := by
  unfold G62 F62
  dsimp only
  rw [mx_eq]
  by_cases h : a > b
  · rw [cond_true_dec h, if_neg (by omega)]
  · rw [cond_false_dec h]
    split
    · rfl
    · have : a = b := by omega
      subst this; rfl
theorem highS_loop (l : List Throw) (hl : l.length ≤ 1048576) : iterF (s28_0 G38 G57 G61 G62) fuel (0, l, Int.ofNat l.length, 0, ()) (fun t4 => some (t4.1, ())) = some (l.foldl highF 0, ()) := by
  refine (iterF_for (f := s28_0 G38 G57 G61 G62) (K := fun t4 => some (t4.1, ())) (fun i => ((l.take i).foldl highF 0, l, Int.ofNat l.length, (i : Int), ())) l.length (by omega) ?_ ?_).trans (by simp)
  · intro i hi rec K
    have hx : l[i]? = some l[i] := by simp
    have hx' := fun (K : Throw → Option (Int × Unit)) => rdL_at (K := K) hx
    have e1 : w64 ((i : Int) + 1) = ((i + 1 : Nat) : Int) := w64_id (by omega) (by omega)
    rw [fold_take _ _ l i hi]
    simp only [s28_0]
    rw [cond_true_dec (by simp; omega)]
    simp only [hx', hx, Int.toNat_natCast, Option.bind_some, e1, peakS_is, max_is']
    rfl
  · intro rec K
    simp only [s28_0]
    rw [cond_false_dec (by simp)]
theorem high_ok (s : ShowT) (h : ShowOK s) : ∃ v, G28 (s, ()) = some (v, ()) ∧ G29 (s, ()) = some (v, ()) := by
  unfold G28 F28 G29 F29
  simp only [es_show]
  rw [showS_is s h]
  cases hb : showB s
  · rw [throwsI_none h hb]
    exact ⟨0, rfl, highI_loop [] (by simp)⟩
  · have hv := showV_of h hb
    have hl : (throwsL s).length ≤ 1048576 := Nat.le_trans (throwsL_len hv) (by decide)
    rw [allI_is hv]
    simp only [Option.bind_some, Bool.not_true, cond_false]
    rw [allS_is hv]
    exact ⟨_, highS_loop _ hl, highI_loop _ hl⟩
/-! ### A jet -/
theorem jetAt_ok (s : ShowT) (h : ShowOK s) (nm : Str) (t : Int) : ∃ (j : Jet) (b : Bool), G19 (s, nm, t, ()) = some (j, b, ()) ∧ G20 (s, nm, t, ()) = some (j, b, ()) := by
  unfold G19 F19 G20 F20
  simp only [es_show]
  rw [findS_is s.1 h.rig, findI_is s.1 h.rig]
  simp only [Option.bind_some]
  rw [showS_is s h, showI_is s h]
  simp only [Option.bind_some]
  cases hb : showB s
  · exact ⟨_, _, rfl, rfl⟩
  · have hv := showV_of h hb
    simp only [Bool.not_true, Bool.not_false, cond_true]
    rcases fnd_spec s.1 nm with ⟨e, _⟩ | ⟨k, d, e, hd, _⟩
    · rw [e]; exact ⟨_, _, rfl, rfl⟩
    · rw [e, cond_false_dec (by omega), decide_eq_false (show ¬ (k : Int) < 0 by omega)]
      simp only [Bool.not_false, cond_true]
      rw [liftsS_is hv, liftsI_is hv]
      have hkl : k < s.1.length := (List.getElem?_eq_some_iff.mp hd).1
      have hy : (liftsL s t)[k]? = some ((liftsL s t)[k]'(by rw [liftsL_len]; exact hkl)) := by simp
      generalize (liftsL s t)[k]'(by rw [liftsL_len]; exact hkl) = y at hy
      have hy' := fun (K : Int → Option (Jet × Bool × Unit)) => rdL_at (K := K) hy
      have hd' := fun (K : Device → Option (Jet × Bool × Unit)) => rdL_at (K := K) hd
      simp only [Option.bind_some, hy', hy, hd', Int.toNat_natCast]
      have hat := liftsL_at hv t hy hd
      by_cases hk : d.Kind = 2
      · rw [decide_eq_true hk]
        simp only [Bool.not_true, cond_false]
        by_cases h0 : y = 0
        · rw [cond_true_dec h0, cond_true_dec h0]; exact ⟨_, _, rfl, rfl⟩
        · rw [cond_false_dec h0, cond_false_dec h0]; exact ⟨_, _, rfl, rfl⟩
      · rw [decide_eq_false hk, cond_true_dec (by omega)]
        exact ⟨_, _, rfl, rfl⟩
/-! ### Lamps -/
noncomputable def lit1 (s : ShowT) (t : Int) (d : Device) : Bool := decide (d.Kind = 3) && decide (((liftsL s t)[(fnd s.1 d.Line).toNat]?).getD 0 > 0)
noncomputable def litF (s : ShowT) (t : Int) (a : List Str) (d : Device) : List Str := if lit1 s t d = true then a ++ [d.Name] else a
theorem lit_len (s : ShowT) (t : Int) : ∀ (l : List Device) (a : List Str), (l.foldl (litF s t) a).length ≤ a.length + l.length
  | [], a => by simp
  | d :: l, a => by
    have := lit_len s t l (litF s t a d)
    have h1 : (litF s t a d).length ≤ a.length + 1 := by unfold litF; split <;> simp
    simp only [List.foldl_cons, List.length_cons]
    omega
theorem lit_ok (s : ShowT) (h : ShowOK s) (t : Int) : ∃ L, G30 (s, t, ()) = some (L, ()) ∧ G31 (s, t, ()) = some (L, ()) ∧ L.length ≤ 1048576 := by
  have hr := h.rig
  unfold G30 F30 G31 F31
  simp only [es_show]
  rw [showS_is s h]
  cases hb : showB s
  · obtain ⟨L, h1, h2, _⟩ := lifts_any s h t
    have e2 : G13 (s, t, ()) = some (([] : List Int), ()) := by
      unfold G13 F13
      simp only [es_show]
      rw [showI_is s h, hb]; rfl
    refine ⟨[], rfl, ?_, by simp⟩
    rw [e2]
    refine iterF_for (f := s31_0 G13 G55) (K := fun t6 => some (t6.2.1, ())) (fun i => (s, ([] : List Str), ([] : List Int), s.1, Int.ofNat s.1.length, (i : Int), ())) s.1.length (by omega) ?_ ?_
    · intro i hi rec K
      have hx : s.1[i]? = some s.1[i] := by simp
      have e1 : w64 ((i : Int) + 1) = ((i + 1 : Nat) : Int) := w64_id (by omega) (by omega)
      simp only [s31_0, es_show]
      rw [cond_true_dec (by simp; omega), rdL_at hx, cond_false_dec (by simp), e1]
    · intro rec K
      simp only [s31_0]
      rw [cond_false_dec (by simp)]
  · have hv := showV_of h hb
    have hlen := hv.rig.len
    simp only [Option.bind_some, Bool.not_true, cond_false]
    rw [liftsS_is hv, liftsI_is hv]
    have hl := lit_len s t s.1 []
    refine ⟨s.1.foldl (litF s t) [], ?_, ?_, by simp at hl; omega⟩
    · refine (iterF_for (f := s30_0 G38 G39 G53) (K := fun t6 => some (t6.2.1, ())) (fun i => (s, (s.1.take i).foldl (litF s t) [], liftsL s t, s.1, Int.ofNat s.1.length, (i : Int), ())) s.1.length (by omega) ?_ ?_).trans (by simp)
      · intro i hi rec K
        have hx : s.1[i]? = some s.1[i] := by simp
        have e1 : w64 ((i : Int) + 1) = ((i + 1 : Nat) : Int) := w64_id (by omega) (by omega)
        have hli := lit_len s t (s.1.take i) []
        rw [fold_take _ _ s.1 i hi]
        generalize (s.1.take i).foldl (litF s t) [] = acc at hli ⊢
        unfold litF lit1
        simp only [s30_0, es_show]
        rw [cond_true_dec (by simp; omega), rdL_at hx, e1]
        by_cases k3 : s.1[i].Kind = 3
        · obtain ⟨k, x, e, hk, _, _⟩ := rig_line hv.rig (show s.1[i] ∈ s.1 by simp) (by omega)
          have hkl : k < s.1.length := (List.getElem?_eq_some_iff.mp hk).1
          have hy : (liftsL s t)[k]? = some ((liftsL s t)[k]'(by rw [liftsL_len]; exact hkl)) := by simp
          generalize (liftsL s t)[k]'(by rw [liftsL_len]; exact hkl) = y at hy
          have hy' := fun (K : Int → Option (List Str × Unit)) => rdL_at (K := K) hy
          rw [cond_true_dec k3, findS_is s.1 hr]
          simp only [Option.bind_some, e, hy', hy, Int.toNat_natCast, decide_eq_true k3, Bool.true_and, Option.getD_some]
          by_cases hc : y > 0
          · rw [cond_true_dec hc, if_pos (decide_eq_true hc), capK_le (by simp at hli ⊢; omega)]
          · rw [cond_false_dec hc, if_neg (by simp only [decide_eq_true_eq]; exact hc)]
        · rw [cond_false_dec k3, decide_eq_false k3]
          simp
      · intro rec K
        simp only [s30_0]
        rw [cond_false_dec (by simp)]
    · refine (iterF_for (f := s31_0 G13 G55) (K := fun t6 => some (t6.2.1, ())) (fun i => (s, (s.1.take i).foldl (litF s t) [], liftsL s t, s.1, Int.ofNat s.1.length, (i : Int), ())) s.1.length (by omega) ?_ ?_).trans (by simp)
      · intro i hi rec K
        have hx : s.1[i]? = some s.1[i] := by simp
        have e1 : w64 ((i : Int) + 1) = ((i + 1 : Nat) : Int) := w64_id (by omega) (by omega)
        have hli := lit_len s t (s.1.take i) []
        rw [fold_take _ _ s.1 i hi]
        generalize (s.1.take i).foldl (litF s t) [] = acc at hli ⊢
        unfold litF lit1
        simp only [s31_0, es_show]
        rw [cond_true_dec (by simp; omega), rdL_at hx, e1, cond_true_dec (by rw [liftsL_len]; simp; omega)]
        by_cases k3 : s.1[i].Kind = 3
        · obtain ⟨k, x, e, hk, _, _⟩ := rig_line hv.rig (show s.1[i] ∈ s.1 by simp) (by omega)
          have hkl : k < s.1.length := (List.getElem?_eq_some_iff.mp hk).1
          have hy : (liftsL s t)[k]? = some ((liftsL s t)[k]'(by rw [liftsL_len]; exact hkl)) := by simp
          generalize (liftsL s t)[k]'(by rw [liftsL_len]; exact hkl) = y at hy
          have hy' := fun (K : Int → Option (List Str × Unit)) => rdL_at (K := K) hy
          rw [cond_true_dec k3, findI_is s.1 hr]
          simp only [Option.bind_some, e, hy', hy, Int.toNat_natCast, decide_eq_true k3, Bool.true_and, Option.getD_some]
          by_cases hc : y > 0
          · rw [cond_true_dec hc, if_pos (decide_eq_true hc), capK_le (by simp at hli ⊢; omega)]
          · rw [cond_false_dec hc, if_neg (by simp only [decide_eq_true_eq]; exact hc)]
        · rw [cond_false_dec k3, decide_eq_false k3]
          simp
      · intro rec K
        simp only [s31_0]
        rw [cond_false_dec (by simp)]
end Ev
