/- Where the drops of a show are. The drops in the air at a tick, and all that land. Boxes, and the limit of a lift. Which drops land outside of a basin, and the least basin. -/
import Derived.Test.YtpnlcamcnhpbhaaGreatBaseB
set_option linter.unusedVariables false
set_option linter.unusedSimpArgs false
set_option maxRecDepth 100000
namespace Ev
open Go
/-! ### Drifts -/
def drF (t : Int) (p : Place) (g : Gust) : Place := if g.From ≤ t then g.Drift else p
def drL (w : List Gust) (t : Int) : Place := w.foldl (drF t) ⟨0, 0⟩
theorem l4At_is (w : List Gust) (hl : w.length ≤ 1048576) (t : Int) : G176 (w, t, ()) = some (drL w t, ()) := by
  unfold G176 F176 drL
  refine (iterF_for (f := s176_0) (K := fun t5 => some (t5.2.2.1, ())) (fun i => (t, ⟨0, 0⟩, (w.take i).foldl (drF t) ⟨0, 0⟩, w, Int.ofNat w.length, (i : Int), ())) w.length (by omega) ?_ ?_).trans (by simp)
  · intro i hi rec K
    have hx : w[i]? = some w[i] := by simp
    have e1 : w64 ((i : Int) + 1) = ((i + 1 : Nat) : Int) := w64_id (by omega) (by omega)
    rw [fold_take _ _ w i hi]
    simp only [s176_0]
    rw [cond_true_dec (by simp; omega), rdL_at hx, e1]
    unfold drF
    by_cases hc : w[i].From ≤ t
    · rw [cond_true_dec hc, if_pos hc]
    · rw [cond_false_dec hc, if_neg hc]
  · intro rec K
    simp only [s176_0]
    rw [cond_false_dec (by simp)]
theorem driftAt_is (w : List Gust) (hl : w.length ≤ 1048576) (hv : wdB w = true) (t : Int) : G132 (w, t, ()) = some (drL w t, ()) := by
  unfold G132 F132 drL
  dsimp only
  rw [wdI_is w hl, hv]
  simp only [Option.bind_some, Bool.not_true, cond_false]
  refine (iterF_for (f := s132_0 G41) (K := fun t5 => some (t5.2.2.1, ())) (fun i => (t, ⟨0, 0⟩, (w.take i).foldl (drF t) ⟨0, 0⟩, w, Int.ofNat w.length, (i : Int), ())) w.length (by omega) ?_ ?_).trans (by simp)
  · intro i hi rec K
    have hx : w[i]? = some w[i] := by simp
    have e1 : w64 ((i : Int) + 1) = ((i + 1 : Nat) : Int) := w64_id (by omega) (by omega)
    rw [fold_take _ _ w i hi]
    simp only [s132_0]
    rw [cond_true_dec (by simp; omega), rdL_at hx, e1]
    unfold drF
    by_cases hc : w[i].From ≤ t
    · rw [cond_true_dec hc, if_pos hc]
    · rw [cond_false_dec hc, if_neg hc]
  · intro rec K
    simp only [s132_0]
    rw [cond_false_dec (by simp)]
def plus (p q : Place) : Place := ⟨w64 (p.X + q.X), w64 (p.Y + q.Y)⟩
def drSum (w : List Gust) (a : Int) : Nat → Place
  | 0 => ⟨0, 0⟩
  | n + 1 => plus (drSum w a n) (drL w (a + (n : Int)))
theorem add_is (p q : Place) : G111 (p, q, ()) = some (plus p q, ()) := rfl
theorem overS_is (w : List Gust) (hl : w.length ≤ 1048576) (hv : wdB w = true) {a b : Int} {n : Nat} (ha : 0 ≤ a) (hb : b = a + (n : Int)) (hm : b ≤ 128) : G137 (w, a, b, ()) = some (drSum w a n, true, ()) := by
  subst hb
  unfold G137 F137
  dsimp only
  rw [wdS_is w hl, hv]
  simp only [Option.bind_some, Bool.not_true, Bool.not_false, cond_true, cond_false]
  rw [decide_eq_false (show ¬ a < 0 by omega), decide_eq_false (show ¬ a + (n : Int) < a by omega), cond_false_dec (by omega)]
  simp only [Bool.not_false, cond_true]
  have key := iterF_for (f := s137_0 G51 G176 G111) (K := fun t5 => some (t5.2.2.2.1, true, ())) (fun i => (w, a + (n : Int), ⟨0, 0⟩, drSum w a i, a + (i : Int), ())) n (by omega)
    (by
      intro i hi rec K
      have e1 : w64 (a + (i : Int) + 1) = a + ((i + 1 : Nat) : Int) := by rw [w64_id (by omega) (by omega)]; omega
      simp only [s137_0]
      rw [cond_true_dec (by omega), l4At_is w hl, e1]
      simp only [Option.bind_some, add_is]
      rfl)
    (by
      intro rec K
      simp only [s137_0]
      rw [cond_false_dec (by omega)])
  have ea : a + ((0 : Nat) : Int) = a := by omega
  simp only [ea] at key
  exact key
theorem overI_is (w : List Gust) (hl : w.length ≤ 1048576) (hv : wdB w = true) {a b : Int} {n : Nat} (ha : 0 ≤ a) (hb : b = a + (n : Int)) (hm : b ≤ 128) : G83 (w, a, b, ()) = some (drSum w a n, true, ()) := by
  subst hb
  unfold G83 F83
  dsimp only
  rw [wdI_is w hl, hv]
  simp only [Option.bind_some, Bool.not_true, Bool.not_false, cond_true, cond_false]
  rw [decide_eq_false (show ¬ a < 0 by omega), decide_eq_false (show ¬ a + (n : Int) < a by omega), cond_false_dec (by omega)]
  simp only [Bool.not_false, cond_true]
  have key := iterF_for (f := s83_0 G41 G132) (K := fun t5 => some (t5.2.2.2.1, true, ())) (fun i => (w, a + (n : Int), ⟨0, 0⟩, drSum w a i, a + (i : Int), ())) n (by omega)
    (by
      intro i hi rec K
      have e1 : w64 (a + (i : Int) + 1) = a + ((i + 1 : Nat) : Int) := by rw [w64_id (by omega) (by omega)]; omega
      simp only [s83_0]
      rw [cond_true_dec (by omega), driftAt_is w hl hv, e1]
      simp only [Option.bind_some]
      rfl)
    (by
      intro rec K
      simp only [s83_0]
      rw [cond_false_dec (by omega)])
  have ea : a + ((0 : Nat) : Int) = a := by omega
  simp only [ea] at key
  exact key
/-! ### Places on the way -/
def placeN (j : Jet) (t : Int) : Place := ⟨w64 (j.At.X + (rotN j.Heading.toNat ⟨w64 (t * j.Tilt), 0⟩).X), w64 (j.At.Y + (rotN j.Heading.toNat ⟨w64 (t * j.Tilt), 0⟩).Y)⟩
theorem jumpN {j : Jet} (J : JetOK j) {t : Int} (h0 : 0 ≤ t) (h1 : t ≤ 33) : w64 (t * j.Tilt) = t * j.Tilt ∧ 0 ≤ t * j.Tilt ∧ t * j.Tilt ≤ 528 := by
  have ht := J.t
  have a : 0 ≤ t * j.Tilt := Int.mul_nonneg h0 ht.1
  have b : t * j.Tilt ≤ 33 * 16 := Int.mul_le_mul h1 ht.2 ht.1 (by omega)
  exact ⟨w64_id (by omega) (by omega), a, by omega⟩
theorem placeN_bound {j : Jet} (J : JetOK j) {t : Int} (h0 : 0 ≤ t) (h1 : t ≤ 33) : (-1552 ≤ (placeN j t).X ∧ (placeN j t).X ≤ 1552 ∧ -1552 ≤ (placeN j t).Y ∧ (placeN j t).Y ≤ 1552) ∧ (placeN j t).X = j.At.X + (rotN j.Heading.toNat ⟨t * j.Tilt, 0⟩).X ∧ (placeN j t).Y = j.At.Y + (rotN j.Heading.toNat ⟨t * j.Tilt, 0⟩).Y := by
  obtain ⟨e, h2, h3⟩ := jumpN J h0 h1
  have hh := J.h; have hx := J.x; have hy := J.y
  obtain ⟨b1, b2, b3, b4⟩ := rot_bound (t * j.Tilt) 528 h2 h3 (by omega) j.Heading.toNat (by omega)
  unfold placeN
  rw [e]
  simp only
  rw [w64_id (by omega) (by omega), w64_id (by omega) (by omega)]
  omega
theorem l3_is {j : Jet} (J : JetOK j) (t : Int) : G138 (j, t, ()) = some (placeN j t, ()) := by
  unfold G138 F138
  have hk : j.Heading.toNat < 4 := by have := J.h; omega
  have hh : (j.Heading.toNat : Int) = j.Heading := by have := J.h; omega
  have := turnS ⟨w64 (t * j.Tilt), 0⟩ j.Heading.toNat hk
  rw [hh] at this
  have this : G177 (⟨w64 (t * j.Tilt), 0⟩, j.Heading, ()) = _ := this
  simp only [this, Option.bind_some, add_is]
  rfl
theorem placeAtI_is {j : Jet} (h : isJet j = true) {t : Int} (h0 : 0 ≤ t) (h1 : t ≤ fl j) : G82 (j, t, ()) = some (placeN j t, true, ()) := by
  unfold G82 F82 G130 F130
  have J := jet_ok h
  have hl := J.l; have hx := J.x; have hy := J.y
  have hf : fl j = j.Lift + 1 := by unfold fl; rw [if_pos h]
  have hjI : G129 (j, ()) = some (isJet j, ()) := jetI j
  have hfI : G81 (j, ()) = some (fl j, ()) := flI j
  have hwI : ∀ a b c : Int, G42 (a, b, c, ()) = some (wi a b c, ()) := within_is
  simp only [hjI, h, Option.bind_some, cond_true, hfI, hwI, wi_of h0 h1, Bool.not_true, cond_false]
  obtain ⟨e, h2, h3⟩ := jumpN J h0 (by omega)
  obtain ⟨lb, lx, ly⟩ := placeN_bound J h0 (show t ≤ 33 by omega)
  unfold G131 F131
  have hk : j.Heading.toNat < 4 := by have := J.h; omega
  have hh : (j.Heading.toNat : Int) = j.Heading := by have := J.h; omega
  have ht := turnI ⟨w64 (t * j.Tilt), 0⟩ j.Heading.toNat hk
  rw [hh] at ht
  have ht : G44 (⟨w64 (t * j.Tilt), 0⟩, j.Heading, ()) = _ := ht
  have p1 : isPl j.At = true := by unfold isPl; rw [wi_of (by omega) (by omega), wi_of (by omega) (by omega)]; rfl
  have p2 : wi j.Heading 0 3 = true := wi_of J.h.1 J.h.2
  have p3 : wi (w64 (t * j.Tilt)) (-4096) 4096 = true := by rw [e]; exact wi_of (by omega) (by omega)
  have p4 : isPl (placeN j t) = true := by unfold isPl; rw [wi_of (by omega) (by omega), wi_of (by omega) (by omega)]; rfl
  have p5 : G172 (placeN j t, ()) = some (placeN j t, true, ()) := by
    have hp : G43 (placeN j t, ()) = some (isPl (placeN j t), ()) := placeI _
    unfold G172 F172
    simp only [hp, p4, Option.bind_some]
    rfl
  have q1 : G43 (j.At, ()) = some (isPl j.At, ()) := placeI _
  have q2 : G126 (j.Heading, ()) = some (wi j.Heading 0 3, ()) := headI _
  have q3 : G90 (w64 (t * j.Tilt), ()) = some (wi (w64 (t * j.Tilt)) (-4096) 4096, ()) := measI _
  simp only [q1, q2, q3, p1, p2, p3, ht, Option.bind_some, Bool.not_true, Bool.not_false, cond_true, cond_false]
  have p6 : (⟨w64 (j.At.X + (rotN j.Heading.toNat ⟨w64 (t * j.Tilt), 0⟩).X), w64 (j.At.Y + (rotN j.Heading.toNat ⟨w64 (t * j.Tilt), 0⟩).Y)⟩ : Place) = placeN j t := rfl
  rw [p6, p5]
  rfl
/-! ### Drops -/
def dropV (w : List Gust) (x : Throw) (n : Nat) : Drop := ⟨x.name, x.born, plus (placeN x.jet (n : Int)) (drSum w x.born n), ht x.jet (n : Int)⟩
structure FliesP (x : Throw) : Prop where
  born : 0 ≤ x.born ∧ x.born < 64
  jet : isJet x.jet = true
theorem throws_fly {s : ShowT} (h : ShowV s) {x : Throw} (hx : x ∈ throwsL s) : FliesP x := by
  have := throws_mem h hx
  have ht := h.tick
  exact ⟨⟨this.born.1, by have := this.born.2; omega⟩, this.jet⟩
theorem dropI_is {w : List Gust} (hl : w.length ≤ 1048576) (hv : wdB w = true) {x : Throw} (h : FliesP x) {t : Int} {n : Nat} (ht : t = x.born + (n : Int)) (hn : (n : Int) ≤ fl x.jet) : G38 (x, w, t, ()) = some (dropV w x n, ()) := by
  have hb := fl_bound x.jet
  have hx := h.born
  have e1 : w64 (t - x.born) = (n : Int) := by rw [w64_id (by omega) (by omega)]; omega
  unfold G38 F38
  dsimp only
  rw [e1, placeAtI_is h.jet (by omega) hn]
  simp only [Option.bind_some]
  rw [overI_is w hl hv hx.1 ht (by omega)]
  simp only [Option.bind_some, htI_is]
  rfl
theorem dropS_is {s : ShowT} (hl : s.2.2.1.length ≤ 1048576) (hv : wdB s.2.2.1 = true) {x : Throw} (h : FliesP x) {t : Int} {n : Nat} (ht : t = x.born + (n : Int)) (hn : (n : Int) ≤ fl x.jet) : G92 (s, x, t, ()) = some (dropV s.2.2.1 x n, ()) := by
  have hb := fl_bound x.jet
  have hx := h.born
  have e1 : w64 (t - x.born) = (n : Int) := by rw [w64_id (by omega) (by omega)]; omega
  unfold G92 F92
  dsimp only
  rw [overS_is s.2.2.1 hl hv hx.1 ht (by omega)]
  simp only [Option.bind_some]
  rw [e1, l3_is (jet_ok h.jet)]
  simp only [Option.bind_some, htS_is, add_is]
  rfl
end Ev

namespace Ev
open Go
def nowF (w : List Gust) (t : Int) (a : List Drop) (x : Throw) : List Drop := if x.born ≤ t ∧ t < x.born + fl x.jet then a ++ [dropV w x (t - x.born).toNat] else a
theorem now_len (w : List Gust) (t : Int) : ∀ (l : List Throw) (a : List Drop), (l.foldl (nowF w t) a).length ≤ a.length + l.length
  | [], a => by simp
  | d :: l, a => by
    have := now_len w t l (nowF w t a d)
    have h1 : (nowF w t a d).length ≤ a.length + 1 := by unfold nowF; split <;> simp
    simp only [List.foldl_cons, List.length_cons]
    omega
noncomputable def nowL (s : ShowT) (t : Int) : List Drop := (throwsL s).foldl (nowF s.2.2.1 t) []
def allF (w : List Gust) (a : List Drop) (x : Throw) : List Drop := a ++ [dropV w x (fl x.jet).toNat]
noncomputable def landL (s : ShowT) : List Drop := (throwsL s).foldl (allF s.2.2.1) []
theorem all_len (w : List Gust) : ∀ (l : List Throw) (a : List Drop), (l.foldl (allF w) a).length = a.length + l.length
  | [], a => by simp
  | d :: l, a => by
    have := all_len w l (allF w a d)
    simp only [List.foldl_cons, List.length_cons, this]
    unfold allF; simp; omega
theorem fly_lands {x : Throw} (h : FliesP x) : w64 (x.born + fl x.jet) = x.born + fl x.jet := by
  have := h.born; have := fl_bound x.jet
  exact w64_id (by omega) (by omega)
section
variable {s : ShowT} (h : ShowV s)
include h
theorem nowL_len (t : Int) : (nowL s t).length ≤ 512 := by
  have := now_len s.2.2.1 t (throwsL s) []
  have := throwsL_len h
  unfold nowL
  simp at *; omega
omit h in
theorem landL_len : (landL s).length = (throwsL s).length := by
  unfold landL
  rw [all_len]; simp
theorem wind_v : wdB s.2.2.1 = true ∧ s.2.2.1.length ≤ 1048576 := ⟨h.wind, h.ok.wind⟩
theorem nowI_is (t : Int) : G10 (s, t, ()) = some (nowL s t, ()) := by
  have hlen := throwsL_len h
  obtain ⟨hv, hw⟩ := wind_v h
  unfold G10 F10 nowL
  simp only [es_show]
  rw [allI_is h]
  simp only [Option.bind_some]
  refine (iterF_for (f := s10_0 G36 G37 G38) (K := fun t6 => some (t6.2.2.1, ())) (fun i => (t, s, ((throwsL s).take i).foldl (nowF s.2.2.1 t) [], throwsL s, Int.ofNat (throwsL s).length, (i : Int), ())) (throwsL s).length (by omega) ?_ ?_).trans (by simp)
  · intro i hi rec K
    have hx : (throwsL s)[i]? = some (throwsL s)[i] := by simp
    have hf := throws_fly h (show (throwsL s)[i] ∈ throwsL s by simp)
    have hn := now_len s.2.2.1 t ((throwsL s).take i) []
    have hb := fl_bound (throwsL s)[i].jet
    have e1 : w64 ((i : Int) + 1) = ((i + 1 : Nat) : Int) := w64_id (by omega) (by omega)
    rw [fold_take _ _ (throwsL s) i hi]
    generalize ((throwsL s).take i).foldl (nowF s.2.2.1 t) [] = acc at hn ⊢
    unfold nowF
    simp only [s10_0, es_show]
    have hx' := fun (K : Throw → Option (List Drop × Unit)) => rdL_at (K := K) hx
    rw [cond_true_dec (by simp; omega)]
    simp only [hx', hx, Int.toNat_natCast, e1]
    simp only [lands_is, Option.bind_some, fly_lands hf]
    by_cases c1 : (throwsL s)[i].born ≤ t
    · rw [cond_true_dec c1]
      by_cases c2 : t < (throwsL s)[i].born + fl (throwsL s)[i].jet
      · rw [cond_true_dec c2, if_pos ⟨c1, c2⟩, dropI_is hw hv hf (n := (t - (throwsL s)[i].born).toNat) (by omega) (by omega)]
        simp only [Option.bind_some]
        rw [capK_le (by simp at hn ⊢; omega)]
      · rw [cond_false_dec c2, if_neg (by omega)]
    · rw [cond_false_dec c1, if_neg (by omega)]
  · intro rec K
    simp only [s10_0]
    rw [cond_false_dec (by simp)]
theorem landS_is : G45 (s, ()) = some (landL s, ()) := by
  have hlen := throwsL_len h
  obtain ⟨hv, hw⟩ := wind_v h
  unfold G45 F45 landL
  simp only [es_show]
  rw [showS_is s h.ok, showB_of h]
  simp only [Option.bind_some, Bool.not_true, cond_false]
  rw [allS_is h]
  simp only [Option.bind_some]
  refine (iterF_for (f := s45_0 G16 G61 G93 G92) (K := fun t6 => some (t6.2.1, ())) (fun i => (s, ((throwsL s).take i).foldl (allF s.2.2.1) [], throwsL s, Int.ofNat (throwsL s).length, (i : Int), ())) (throwsL s).length (by omega) ?_ ?_).trans (by simp)
  · intro i hi rec K
    have hx : (throwsL s)[i]? = some (throwsL s)[i] := by simp
    have hf := throws_fly h (show (throwsL s)[i] ∈ throwsL s by simp)
    have hn := all_len s.2.2.1 ((throwsL s).take i) []
    have hb := fl_bound (throwsL s)[i].jet
    have e1 : w64 ((i : Int) + 1) = ((i + 1 : Nat) : Int) := w64_id (by omega) (by omega)
    rw [fold_take _ _ (throwsL s) i hi]
    generalize ((throwsL s).take i).foldl (allF s.2.2.1) [] = acc at hn ⊢
    unfold allF
    simp only [s45_0, es_show]
    have hx' := fun (K : Throw → Option (List Drop × Unit)) => rdL_at (K := K) hx
    rw [cond_true_dec (by simp; omega)]
    simp only [hx', hx, Int.toNat_natCast, e1]
    simp only [flS_is, Option.bind_some, fly_lands hf]
    rw [dropS_is hw hv hf (n := (fl (throwsL s)[i].jet).toNat) (by omega) (by omega)]
    simp only [Option.bind_some]
    rw [capK_le (by simp at hn ⊢; omega)]
  · intro rec K
    simp only [s45_0]
    rw [cond_false_dec (by simp)]
theorem landI_is : G11 (s, ()) = some (landL s, ()) := by
  have hlen := throwsL_len h
  obtain ⟨hv, hw⟩ := wind_v h
  unfold G11 F11 landL
  simp only [es_show]
  rw [allI_is h]
  simp only [Option.bind_some]
  refine (iterF_for (f := s11_0 G36 G37 G38) (K := fun t6 => some (t6.2.1, ())) (fun i => (s, ((throwsL s).take i).foldl (allF s.2.2.1) [], throwsL s, Int.ofNat (throwsL s).length, (i : Int), ())) (throwsL s).length (by omega) ?_ ?_).trans (by simp)
  · intro i hi rec K
    have hx : (throwsL s)[i]? = some (throwsL s)[i] := by simp
    have hf := throws_fly h (show (throwsL s)[i] ∈ throwsL s by simp)
    have hn := all_len s.2.2.1 ((throwsL s).take i) []
    have hb := fl_bound (throwsL s)[i].jet
    have e1 : w64 ((i : Int) + 1) = ((i + 1 : Nat) : Int) := w64_id (by omega) (by omega)
    rw [fold_take _ _ (throwsL s) i hi]
    generalize ((throwsL s).take i).foldl (allF s.2.2.1) [] = acc at hn ⊢
    unfold allF
    simp only [s11_0, es_show]
    have hx' := fun (K : Throw → Option (List Drop × Unit)) => rdL_at (K := K) hx
    rw [cond_true_dec (by simp; omega)]
    simp only [hx', hx, Int.toNat_natCast, e1]
    simp only [lands_is, Option.bind_some, fly_lands hf]
    rw [dropI_is hw hv hf (n := (fl (throwsL s)[i].jet).toNat) (by omega) (by omega)]
    simp only [Option.bind_some]
    rw [capK_le (by simp at hn ⊢; omega)]
  · intro rec K
    simp only [s11_0]
    rw [cond_false_dec (by simp)]
end
theorem land_ok (s : ShowT) (h : ShowOK s) : ∃ L, G45 (s, ()) = some (L, ()) ∧ G11 (s, ()) = some (L, ()) ∧ L.length ≤ 512 := by
  cases hb : showB s
  · refine ⟨[], ?_, ?_, by simp⟩
    · unfold G45 F45
      simp only [es_show]
      rw [showS_is s h, hb]; rfl
    · unfold G11 F11
      simp only [es_show]
      rw [throwsI_none h hb]
      simp only [Option.bind_some]
      obtain ⟨n, hn⟩ := fuel_ge 5 (by omega)
      rw [hn]; rfl
  · have hv := showV_of h hb
    exact ⟨_, landS_is hv, landI_is hv, by rw [landL_len]; exact throwsL_len hv⟩
end Ev

namespace Ev
open Go
/-! ### Boxes -/
def isBx (b : Box) : Bool := isPl b.Low && (isPl b.High && (decide (b.Low.X ≤ b.High.X) && decide (b.Low.Y ≤ b.High.Y)))
noncomputable abbrev gBx := F17 gPl
theorem bxI (b : Box) : gBx (b, ()) = some (isBx b, ()) := by
  unfold gBx F17 isBx
  simp only [placeI, Option.bind_some]
  cases isPl b.Low <;> cases isPl b.High <;> cases decide (b.Low.X ≤ b.High.X) <;> rfl
def inBx (b : Box) (p : Place) : Bool := isBx b && (wi p.X b.Low.X b.High.X && wi p.Y b.Low.Y b.High.Y)
noncomputable abbrev gInI := F20 gBx gW
theorem inI (b : Box) (p : Place) : gInI (b, p, ()) = some (inBx b p, ()) := by
  unfold gInI F20 inBx
  simp only [bxI, within_is, Option.bind_some]
  cases isBx b <;> cases wi p.X b.Low.X b.High.X <;> rfl
def isIn (b c : Box) : Bool := inBx c b.Low && inBx c b.High
theorem isIn_bx {b c : Box} (h : isBx c = false) : isIn b c = false := by
  unfold isIn inBx; rw [h]; rfl
/-! ### The limit -/
end Ev

namespace Ev
open Go
theorem inI_is (b : Box) (p : Place) : G20 (b, p, ()) = some (inBx b p, ()) := inI b p
theorem boxI_is (b : Box) : G17 (b, ()) = some (isBx b, ()) := bxI b
theorem inBx_no {c : Box} (h : isBx c = false) (p : Place) : inBx c p = false := by unfold inBx; rw [h]; rfl
def wetF (c : Box) (a : List Drop) (x : Drop) : List Drop := if inBx c x.At = true then a else a ++ [x]
def wetL (c : Box) (L : List Drop) : List Drop := if isBx c = true then L.foldl (wetF c) [] else []
theorem wet_len (c : Box) : ∀ (l a : List Drop), (l.foldl (wetF c) a).length ≤ a.length + l.length
  | [], a => by simp
  | d :: l, a => by
    have := wet_len c l (wetF c a d)
    have h1 : (wetF c a d).length ≤ a.length + 1 := by unfold wetF; split <;> simp
    simp only [List.foldl_cons, List.length_cons]
    omega
theorem wetL_len (c : Box) (L : List Drop) : (wetL c L).length ≤ L.length := by
  unfold wetL
  split
  · have := wet_len c L []; simpa using this
  · simp
theorem wetI_loop (c : Box) (L : List Drop) (hL : L.length ≤ 1048576) (hc : isBx c = true) : iterF (s19_0 G17 G11 G20) fuel (c, ([] : List Drop), L, Int.ofNat L.length, 0, ()) (fun t5 => some (t5.2.1, ())) = some (wetL c L, ()) := by
  refine (iterF_for (f := s19_0 G17 G11 G20) (K := fun t5 => some (t5.2.1, ())) (fun i => (c, (L.take i).foldl (wetF c) [], L, Int.ofNat L.length, (i : Int), ())) L.length (by omega) ?_ ?_).trans (by unfold wetL; rw [hc]; simp)
  · intro i hi rec K
    have hx : L[i]? = some L[i] := by simp
    have e1 : w64 ((i : Int) + 1) = ((i + 1 : Nat) : Int) := w64_id (by omega) (by omega)
    have hn := wet_len c (L.take i) []
    rw [fold_take _ _ L i hi]
    generalize (L.take i).foldl (wetF c) [] = acc at hn ⊢
    unfold wetF
    have hx' := fun (K : Drop → Option (List Drop × Unit)) => rdL_at (K := K) hx
    simp only [s19_0]
    rw [cond_true_dec (by simp; omega)]
    simp only [hx', hx, Int.toNat_natCast, e1]
    simp only [Option.bind_some, cond_true, inI_is]
    cases inBx c L[i].At
    · simp only [Bool.not_false, cond_true]
      rw [capK_le (by simp at hn ⊢; omega)]; rfl
    · rfl
  · intro rec K
    simp only [s19_0]
    rw [cond_false_dec (by simp)]
theorem wet_nil (c : Box) : ∀ (L a : List Drop), (L.foldl (wetF c) a).length = 0 ↔ a = [] ∧ L.all (fun x => inBx c x.At) = true
  | [], a => by simp
  | x :: L, a => by
    rw [List.foldl_cons, wet_nil c L]
    unfold wetF
    cases hx : inBx c x.At <;> simp [hx]
def dryB (c : Box) (L : List Drop) : Bool := L.all fun x => inBx c x.At
/-! ### The least basin -/
end Ev
