/- Where the drops of a show are. The drops in the air at a tick, and all that land. Boxes, and the limit of a lift. Which drops land outside of a basin, and the least basin. -/
import Derived.Test.YtnoodoiehlcblaaGreatBaseB
set_option linter.unusedVariables false
set_option linter.unusedSimpArgs false
set_option maxRecDepth 100000
namespace Ev
open Go
/-! ### Drifts -/
def drF (t : Int) (p : Place) (g : Gust) : Place := if g.From ≤ t then g.Drift else p
def drL (w : List Gust) (t : Int) : Place := w.foldl (drF t) ⟨0, 0⟩
theorem l4At_is (w : List Gust) (hl : w.length ≤ 1048576) (t : Int) : G147 (w, t, ()) = some (drL w t, ()) := by
  unfold G147 F147 drL
  refine (iterF_for (f := s147_0) (K := fun t5 => some (t5.2.2.1, ())) (fun i => (t, ⟨0, 0⟩, (w.take i).foldl (drF t) ⟨0, 0⟩, w, Int.ofNat w.length, (i : Int), ())) w.length (by omega) ?_ ?_).trans (by simp)
  · intro i hi rec K
    have hx : w[i]? = some w[i] := by simp
    have e1 : w64 ((i : Int) + 1) = ((i + 1 : Nat) : Int) := w64_id (by omega) (by omega)
    rw [fold_take _ _ w i hi]
    simp only [s147_0]
    rw [cond_true_dec (by simp; omega), rdL_at hx, e1]
    unfold drF
    by_cases hc : w[i].From ≤ t
    · rw [cond_true_dec hc, if_pos hc]
    · rw [cond_false_dec hc, if_neg hc]
  · intro rec K
    simp only [s147_0]
    rw [cond_false_dec (by simp)]
theorem driftAt_is (w : List Gust) (hl : w.length ≤ 1048576) (hv : wdB w = true) (t : Int) : G153 (w, t, ()) = some (drL w t, ()) := by
  unfold G153 F153 drL
  dsimp only
  rw [wdI_is w hl, hv]
  simp only [Option.bind_some, Bool.not_true, cond_false]
  refine (iterF_for (f := s153_0 G116) (K := fun t5 => some (t5.2.2.1, ())) (fun i => (t, ⟨0, 0⟩, (w.take i).foldl (drF t) ⟨0, 0⟩, w, Int.ofNat w.length, (i : Int), ())) w.length (by omega) ?_ ?_).trans (by simp)
  · intro i hi rec K
    have hx : w[i]? = some w[i] := by simp
    have e1 : w64 ((i : Int) + 1) = ((i + 1 : Nat) : Int) := w64_id (by omega) (by omega)
    rw [fold_take _ _ w i hi]
    simp only [s153_0]
    rw [cond_true_dec (by simp; omega), rdL_at hx, e1]
    unfold drF
    by_cases hc : w[i].From ≤ t
    · rw [cond_true_dec hc, if_pos hc]
    · rw [cond_false_dec hc, if_neg hc]
  · intro rec K
    simp only [s153_0]
    rw [cond_false_dec (by simp)]
def plus (p q : Place) : Place := ⟨w64 (p.X + q.X), w64 (p.Y + q.Y)⟩
def drSum (w : List Gust) (a : Int) : Nat → Place
  | 0 => ⟨0, 0⟩
  | n + 1 => plus (drSum w a n) (drL w (a + (n : Int)))
theorem add_is (p q : Place) : G100 (p, q, ()) = some (plus p q, ()) := rfl
theorem overS_is (w : List Gust) (hl : w.length ≤ 1048576) (hv : wdB w = true) {a b : Int} {n : Nat} (ha : 0 ≤ a) (hb : b = a + (n : Int)) (hm : b ≤ 128) : G99 (w, a, b, ()) = some (drSum w a n, true, ()) := by
  subst hb
  unfold G99 F99
  dsimp only
  rw [wdS_is w hl, hv]
  simp only [Option.bind_some, Bool.not_true, Bool.not_false, cond_true, cond_false]
  rw [decide_eq_false (show ¬ a < 0 by omega), decide_eq_false (show ¬ a + (n : Int) < a by omega), cond_false_dec (by omega)]
  simp only [Bool.not_false, cond_true]
  have key := iterF_for (f := s99_0 G94 G147 G100) (K := fun t5 => some (t5.2.2.2.1, true, ())) (fun i => (w, a + (n : Int), ⟨0, 0⟩, drSum w a i, a + (i : Int), ())) n (by omega)
    (by
      intro i hi rec K
      have e1 : w64 (a + (i : Int) + 1) = a + ((i + 1 : Nat) : Int) := by rw [w64_id (by omega) (by omega)]; omega
      simp only [s99_0]
      rw [cond_true_dec (by omega), l4At_is w hl, e1]
      simp only [Option.bind_some, add_is]
      rfl)
    (by
      intro rec K
      simp only [s99_0]
      rw [cond_false_dec (by omega)])
  have ea : a + ((0 : Nat) : Int) = a := by omega
  simp only [ea] at key
  exact key
theorem overI_is (w : List Gust) (hl : w.length ≤ 1048576) (hv : wdB w = true) {a b : Int} {n : Nat} (ha : 0 ≤ a) (hb : b = a + (n : Int)) (hm : b ≤ 128) : G109 (w, a, b, ()) = some (drSum w a n, true, ()) := by
  subst hb
  unfold G109 F109
  dsimp only
  rw [wdI_is w hl, hv]
  simp only [Option.bind_some, Bool.not_true, Bool.not_false, cond_true, cond_false]
  rw [decide_eq_false (show ¬ a < 0 by omega), decide_eq_false (show ¬ a + (n : Int) < a by omega), cond_false_dec (by omega)]
  simp only [Bool.not_false, cond_true]
  have key := iterF_for (f := s109_0 G116 G153) (K := fun t5 => some (t5.2.2.2.1, true, ())) (fun i => (w, a + (n : Int), ⟨0, 0⟩, drSum w a i, a + (i : Int), ())) n (by omega)
    (by
      intro i hi rec K
      have e1 : w64 (a + (i : Int) + 1) = a + ((i + 1 : Nat) : Int) := by rw [w64_id (by omega) (by omega)]; omega
      simp only [s109_0]
      rw [cond_true_dec (by omega), driftAt_is w hl hv, e1]
      simp only [Option.bind_some]
      rfl)
    (by
      intro rec K
      simp only [s109_0]
      rw [cond_false_dec (by omega)])
  have ea : a + ((0 : Nat) : Int) = a := by omega
  simp only [ea] at key
  exact key
/-! ### Places on the way -/
def placeN (j : Jet) (t : Int) : Place := ⟨w64 (j.At.X + (rotN j.Heading.toNat ⟨w64 (t * j.Tilt), 0⟩).X), w64 (j.At.Y + (rotN j.Heading.toNat ⟨w64 (t * j.Tilt), 0⟩).Y)⟩
theorem jumpN {j : Jet} (J : JetOK j) {t : Int} (h0 : 0 ≤ t) (h1 : t ≤ 33) : w64 (t * j.Tilt) = t * j.Tilt ∧ 0 ≤ t * j.Tilt ∧ t * j.Tilt ≤ 528 := by
  have ht := J.t
  have a : 0 ≤ t * j.Tilt := Int.mul_nonneg h0 ht.1
  have b : t * j.Tilt ≤ 33 * 16 := Int.mul_le_mul h1 ht.2 ht.1 (by omega)
  exact ⟨w64_id (by omega) (by omega), a, by omega⟩
theorem placeN_bound {j : Jet} (J : JetOK j) {t : Int} (h0 : 0 ≤ t) (h1 : t ≤ 33) : (-1552 ≤ (placeN j t).X ∧ (placeN j t).X ≤ 1552 ∧ -1552 ≤ (placeN j t).Y ∧ (placeN j t).Y ≤ 1552) ∧ (placeN j t).X = j.At.X + (rotN j.Heading.toNat ⟨t * j.Tilt, 0⟩).X ∧ (placeN j t).Y = j.At.Y + (rotN j.Heading.toNat ⟨t * j.Tilt, 0⟩).Y := by
  obtain ⟨e, h2, h3⟩ := jumpN J h0 h1
  have hh := J.h; have hx := J.x; have hy := J.y
  obtain ⟨b1, b2, b3, b4⟩ := rot_bound (t * j.Tilt) 528 h2 h3 (by omega) j.Heading.toNat (by omega)
  unfold placeN
  rw [e]
  simp only
  rw [w64_id (by omega) (by omega), w64_id (by omega) (by omega)]
  omega
theorem l3_is {j : Jet} (J : JetOK j) (t : Int) : G101 (j, t, ()) = some (placeN j t, ()) := by
  unfold G101 F101
  have hk : j.Heading.toNat < 4 := by have := J.h; omega
  have hh : (j.Heading.toNat : Int) = j.Heading := by have := J.h; omega
  have := turnS ⟨w64 (t * j.Tilt), 0⟩ j.Heading.toNat hk
  rw [hh] at this
  have this : G132 (⟨w64 (t * j.Tilt), 0⟩, j.Heading, ()) = _ := this
  simp only [this, Option.bind_some, add_is]
  rfl
theorem placeAtI_is {j : Jet} (h : isJet j = true) {t : Int} (h0 : 0 ≤ t) (h1 : t ≤ fl j) : G108 (j, t, ()) = some (placeN j t, true, ()) := by
  unfold G108 F108 G151 F151
  have J := jet_ok h
  have hl := J.l; have hx := J.x; have hy := J.y
  have hf : fl j = j.Lift + 1 := by unfold fl; rw [if_pos h]
  have hjI : G150 (j, ()) = some (isJet j, ()) := jetI j
  have hfI : G107 (j, ()) = some (fl j, ()) := flI j
  have hwI : ∀ a b c : Int, G117 (a, b, c, ()) = some (wi a b c, ()) := within_is
  simp only [hjI, h, Option.bind_some, cond_true, hfI, hwI, wi_of h0 h1, Bool.not_true, cond_false]
  obtain ⟨e, h2, h3⟩ := jumpN J h0 (by omega)
  obtain ⟨lb, lx, ly⟩ := placeN_bound J h0 (show t ≤ 33 by omega)
  unfold G152 F152
  have hk : j.Heading.toNat < 4 := by have := J.h; omega
  have hh : (j.Heading.toNat : Int) = j.Heading := by have := J.h; omega
  have ht := turnI ⟨w64 (t * j.Tilt), 0⟩ j.Heading.toNat hk
  rw [hh] at ht
  have ht : G164 (⟨w64 (t * j.Tilt), 0⟩, j.Heading, ()) = _ := ht
  have p1 : isPl j.At = true := by unfold isPl; rw [wi_of (by omega) (by omega), wi_of (by omega) (by omega)]; rfl
  have p2 : wi j.Heading 0 3 = true := wi_of J.h.1 J.h.2
  have p3 : wi (w64 (t * j.Tilt)) (-4096) 4096 = true := by rw [e]; exact wi_of (by omega) (by omega)
  have p4 : isPl (placeN j t) = true := by unfold isPl; rw [wi_of (by omega) (by omega), wi_of (by omega) (by omega)]; rfl
  have p5 : G181 (placeN j t, ()) = some (placeN j t, true, ()) := by
    have hp : G118 (placeN j t, ()) = some (isPl (placeN j t), ()) := placeI _
    unfold G181 F181
    simp only [hp, p4, Option.bind_some]
    rfl
  have q1 : G118 (j.At, ()) = some (isPl j.At, ()) := placeI _
  have q2 : G163 (j.Heading, ()) = some (wi j.Heading 0 3, ()) := headI _
  have q3 : G158 (w64 (t * j.Tilt), ()) = some (wi (w64 (t * j.Tilt)) (-4096) 4096, ()) := measI _
  simp only [q1, q2, q3, p1, p2, p3, ht, Option.bind_some, Bool.not_true, Bool.not_false, cond_true, cond_false]
  have p6 : (⟨w64 (j.At.X + (rotN j.Heading.toNat ⟨w64 (t * j.Tilt), 0⟩).X), w64 (j.At.Y + (rotN j.Heading.toNat ⟨w64 (t * j.Tilt), 0⟩).Y)⟩ : Place) = placeN j t := rfl
  rw [p6, p5]
  rfl
/-! ### Drops -/
def dropV (w : List Gust) (x : Throw) (n : Nat) : Drop := ⟨x.name, x.born, plus (placeN x.jet (n : Int)) (drSum w x.born n), ht x.jet (n : Int)⟩
structure FliesP (x : Throw) : Prop where
  born : 0 ≤ x.born ∧ x.born < 64
  jet : isJet x.jet = true
theorem throws_fly {s : ShowT} (h : ShowV s) {x : Throw} (hx : x ∈ throwsL s) : FliesP x := by
  have := throws_mem h hx
  have ht := h.tick
  exact ⟨⟨this.born.1, by have := this.born.2; omega⟩, this.jet⟩
theorem dropI_is {w : List Gust} (hl : w.length ≤ 1048576) (hv : wdB w = true) {x : Throw} (h : FliesP x) {t : Int} {n : Nat} (ht : t = x.born + (n : Int)) (hn : (n : Int) ≤ fl x.jet) : G56 (x, w, t, ()) = some (dropV w x n, ()) := by
  have hb := fl_bound x.jet
  have hx := h.born
  have e1 : w64 (t - x.born) = (n : Int) := by rw [w64_id (by omega) (by omega)]; omega
  unfold G56 F56
  dsimp only
  rw [e1, placeAtI_is h.jet (by omega) hn]
  simp only [Option.bind_some]
  rw [overI_is w hl hv hx.1 ht (by omega)]
  simp only [Option.bind_some, htI_is]
  rfl
theorem dropS_is {s : ShowT} (hl : s.2.2.1.length ≤ 1048576) (hv : wdB s.2.2.1 = true) {x : Throw} (h : FliesP x) {t : Int} {n : Nat} (ht : t = x.born + (n : Int)) (hn : (n : Int) ≤ fl x.jet) : G50 (s, x, t, ()) = some (dropV s.2.2.1 x n, ()) := by
  have hb := fl_bound x.jet
  have hx := h.born
  have e1 : w64 (t - x.born) = (n : Int) := by rw [w64_id (by omega) (by omega)]; omega
  unfold G50 F50
  dsimp only
  rw [overS_is s.2.2.1 hl hv hx.1 ht (by omega)]
  simp only [Option.bind_some]
  rw [e1, l3_is (jet_ok h.jet)]
  simp only [Option.bind_some, htS_is, add_is]
  rfl
end Ev

namespace Ev
open Go
def nowF (w : List Gust) (t : Int) (a : List Drop) (x : Throw) : List Drop := if x.born ≤ t ∧ t < x.born + fl x.jet then a ++ [dropV w x (t - x.born).toNat] else a
theorem now_len (w : List Gust) (t : Int) : ∀ (l : List Throw) (a : List Drop), (l.foldl (nowF w t) a).length ≤ a.length + l.length
  | [], a => by simp
  | d :: l, a => by
    have := now_len w t l (nowF w t a d)
    have h1 : (nowF w t a d).length ≤ a.length + 1 := by unfold nowF; split <;> simp
    simp only [List.foldl_cons, List.length_cons]
    omega
noncomputable def nowL (s : ShowT) (t : Int) : List Drop := (throwsL s).foldl (nowF s.2.2.1 t) []
def allF (w : List Gust) (a : List Drop) (x : Throw) : List Drop := a ++ [dropV w x (fl x.jet).toNat]
noncomputable def landL (s : ShowT) : List Drop := (throwsL s).foldl (allF s.2.2.1) []
theorem all_len (w : List Gust) : ∀ (l : List Throw) (a : List Drop), (l.foldl (allF w) a).length = a.length + l.length
  | [], a => by simp
  | d :: l, a => by
    have := all_len w l (allF w a d)
    simp only [List.foldl_cons, List.length_cons, this]
    unfold allF; simp; omega
theorem fly_lands {x : Throw} (h : FliesP x) : w64 (x.born + fl x.jet) = x.born + fl x.jet := by
  have := h.born; have := fl_bound x.jet
  exact w64_id (by omega) (by omega)
section
variable {s : ShowT} (h : ShowV s)
include h
theorem nowL_len (t : Int) : (nowL s t).length ≤ 512 := by
  have := now_len s.2.2.1 t (throwsL s) []
  have := throwsL_len h
  unfold nowL
  simp at *; omega
omit h in
theorem landL_len : (landL s).length = (throwsL s).length := by
  unfold landL
  rw [all_len]; simp
theorem wind_v : wdB s.2.2.1 = true ∧ s.2.2.1.length ≤ 1048576 := ⟨h.wind, h.ok.wind⟩
theorem nowS_is (t : Int) : G12 (s, t, ()) = some (nowL s t, ()) := by
  have hlen := throwsL_len h
  obtain ⟨hv, hw⟩ := wind_v h
  unfold G12 F12 nowL
  simp only [es_show]
  rw [showS_is s h.ok, showB_of h]
  simp only [Option.bind_some, Bool.not_true, cond_false]
  rw [allS_is h]
  simp only [Option.bind_some]
  refine (iterF_for (f := s12_0 G47 G48 G49 G50) (K := fun t6 => some (t6.2.2.1, ())) (fun i => (t, s, ((throwsL s).take i).foldl (nowF s.2.2.1 t) [], throwsL s, Int.ofNat (throwsL s).length, (i : Int), ())) (throwsL s).length (by omega) ?_ ?_).trans (by simp)
  · intro i hi rec K
    have hx : (throwsL s)[i]? = some (throwsL s)[i] := by simp
    have hf := throws_fly h (show (throwsL s)[i] ∈ throwsL s by simp)
    have hn := now_len s.2.2.1 t ((throwsL s).take i) []
    have hb := fl_bound (throwsL s)[i].jet
    have e1 : w64 ((i : Int) + 1) = ((i + 1 : Nat) : Int) := w64_id (by omega) (by omega)
    rw [fold_take _ _ (throwsL s) i hi]
    generalize ((throwsL s).take i).foldl (nowF s.2.2.1 t) [] = acc at hn ⊢
    unfold nowF
    simp only [s12_0, es_show]
    have hx' := fun (K : Throw → Option (List Drop × Unit)) => rdL_at (K := K) hx
    rw [cond_true_dec (by simp; omega)]
    simp only [hx', hx, Int.toNat_natCast, e1]
    simp only [flS_is, Option.bind_some, fly_lands hf]
    by_cases c1 : t ≥ (throwsL s)[i].born
    · rw [cond_true_dec c1]
      by_cases c2 : t < (throwsL s)[i].born + fl (throwsL s)[i].jet
      · rw [cond_true_dec c2, if_pos ⟨c1, c2⟩, dropS_is hw hv hf (n := (t - (throwsL s)[i].born).toNat) (by omega) (by omega)]
        simp only [Option.bind_some]
        rw [capK_le (by simp at hn ⊢; omega)]
      · rw [cond_false_dec c2, if_neg (by omega)]
    · rw [cond_false_dec c1, if_neg (by omega)]
  · intro rec K
    simp only [s12_0]
    rw [cond_false_dec (by simp)]
theorem nowI_is (t : Int) : G14 (s, t, ()) = some (nowL s t, ()) := by
  have hlen := throwsL_len h
  obtain ⟨hv, hw⟩ := wind_v h
  unfold G14 F14 nowL
  simp only [es_show]
  rw [allI_is h]
  simp only [Option.bind_some]
  refine (iterF_for (f := s14_0 G54 G55 G56) (K := fun t6 => some (t6.2.2.1, ())) (fun i => (t, s, ((throwsL s).take i).foldl (nowF s.2.2.1 t) [], throwsL s, Int.ofNat (throwsL s).length, (i : Int), ())) (throwsL s).length (by omega) ?_ ?_).trans (by simp)
  · intro i hi rec K
    have hx : (throwsL s)[i]? = some (throwsL s)[i] := by simp
    have hf := throws_fly h (show (throwsL s)[i] ∈ throwsL s by simp)
    have hn := now_len s.2.2.1 t ((throwsL s).take i) []
    have hb := fl_bound (throwsL s)[i].jet
    have e1 : w64 ((i : Int) + 1) = ((i + 1 : Nat) : Int) := w64_id (by omega) (by omega)
    rw [fold_take _ _ (throwsL s) i hi]
    generalize ((throwsL s).take i).foldl (nowF s.2.2.1 t) [] = acc at hn ⊢
    unfold nowF
    simp only [s14_0, es_show]
    have hx' := fun (K : Throw → Option (List Drop × Unit)) => rdL_at (K := K) hx
    rw [cond_true_dec (by simp; omega)]
    simp only [hx', hx, Int.toNat_natCast, e1]
    simp only [lands_is, Option.bind_some, fly_lands hf]
    by_cases c1 : (throwsL s)[i].born ≤ t
    · rw [cond_true_dec c1]
      by_cases c2 : t < (throwsL s)[i].born + fl (throwsL s)[i].jet
      · rw [cond_true_dec c2, if_pos ⟨c1, c2⟩, dropI_is hw hv hf (n := (t - (throwsL s)[i].born).toNat) (by omega) (by omega)]
        simp only [Option.bind_some]
        rw [capK_le (by simp at hn ⊢; omega)]
      · rw [cond_false_dec c2, if_neg (by omega)]
    · rw [cond_false_dec c1, if_neg (by omega)]
  · intro rec K
    simp only [s14_0]
    rw [cond_false_dec (by simp)]
theorem landS_is : G20 (s, ()) = some (landL s, ()) := by
  have hlen := throwsL_len h
  obtain ⟨hv, hw⟩ := wind_v h
  unfold G20 F20 landL
  simp only [es_show]
  rw [showS_is s h.ok, showB_of h]
  simp only [Option.bind_some, Bool.not_true, cond_false]
  rw [allS_is h]
  simp only [Option.bind_some]
  refine (iterF_for (f := s20_0 G47 G48 G49 G50) (K := fun t6 => some (t6.2.1, ())) (fun i => (s, ((throwsL s).take i).foldl (allF s.2.2.1) [], throwsL s, Int.ofNat (throwsL s).length, (i : Int), ())) (throwsL s).length (by omega) ?_ ?_).trans (by simp)
  · intro i hi rec K
    have hx : (throwsL s)[i]? = some (throwsL s)[i] := by simp
    have hf := throws_fly h (show (throwsL s)[i] ∈ throwsL s by simp)
    have hn := all_len s.2.2.1 ((throwsL s).take i) []
    have hb := fl_bound (throwsL s)[i].jet
    have e1 : w64 ((i : Int) + 1) = ((i + 1 : Nat) : Int) := w64_id (by omega) (by omega)
    rw [fold_take _ _ (throwsL s) i hi]
    generalize ((throwsL s).take i).foldl (allF s.2.2.1) [] = acc at hn ⊢
    unfold allF
    simp only [s20_0, es_show]
    have hx' := fun (K : Throw → Option (List Drop × Unit)) => rdL_at (K := K) hx
    rw [cond_true_dec (by simp; omega)]
    simp only [hx', hx, Int.toNat_natCast, e1]
    simp only [flS_is, Option.bind_some, fly_lands hf]
    rw [dropS_is hw hv hf (n := (fl (throwsL s)[i].jet).toNat) (by omega) (by omega)]
    simp only [Option.bind_some]
    rw [capK_le (by simp at hn ⊢; omega)]
  · intro rec K
    simp only [s20_0]
    rw [cond_false_dec (by simp)]
theorem landI_is : G21 (s, ()) = some (landL s, ()) := by
  have hlen := throwsL_len h
  obtain ⟨hv, hw⟩ := wind_v h
  unfold G21 F21 landL
  simp only [es_show]
  rw [allI_is h]
  simp only [Option.bind_some]
  refine (iterF_for (f := s21_0 G54 G55 G56) (K := fun t6 => some (t6.2.1, ())) (fun i => (s, ((throwsL s).take i).foldl (allF s.2.2.1) [], throwsL s, Int.ofNat (throwsL s).length, (i : Int), ())) (throwsL s).length (by omega) ?_ ?_).trans (by simp)
  · intro i hi rec K
    have hx : (throwsL s)[i]? = some (throwsL s)[i] := by simp
    have hf := throws_fly h (show (throwsL s)[i] ∈ throwsL s by simp)
    have hn := all_len s.2.2.1 ((throwsL s).take i) []
    have hb := fl_bound (throwsL s)[i].jet
    have e1 : w64 ((i : Int) + 1) = ((i + 1 : Nat) : Int) := w64_id (by omega) (by omega)
    rw [fold_take _ _ (throwsL s) i hi]
    generalize ((throwsL s).take i).foldl (allF s.2.2.1) [] = acc at hn ⊢
    unfold allF
    simp only [s21_0, es_show]
    have hx' := fun (K : Throw → Option (List Drop × Unit)) => rdL_at (K := K) hx
    rw [cond_true_dec (by simp; omega)]
    simp only [hx', hx, Int.toNat_natCast, e1]
    simp only [lands_is, Option.bind_some, fly_lands hf]
    rw [dropI_is hw hv hf (n := (fl (throwsL s)[i].jet).toNat) (by omega) (by omega)]
    simp only [Option.bind_some]
    rw [capK_le (by simp at hn ⊢; omega)]
  · intro rec K
    simp only [s21_0]
    rw [cond_false_dec (by simp)]
end
theorem now_ok (s : ShowT) (h : ShowOK s) (t : Int) : ∃ L, G12 (s, t, ()) = some (L, ()) ∧ G14 (s, t, ()) = some (L, ()) ∧ L.length ≤ 512 := by
  cases hb : showB s
  · refine ⟨[], ?_, ?_, by simp⟩
    · unfold G12 F12
      simp only [es_show]
      rw [showS_is s h, hb]; rfl
    · unfold G14 F14
      simp only [es_show]
      rw [throwsI_none h hb]
      simp only [Option.bind_some]
      obtain ⟨n, hn⟩ := fuel_ge 5 (by omega)
      rw [hn]; rfl
  · have hv := showV_of h hb
    exact ⟨_, nowS_is hv t, nowI_is hv t, nowL_len hv t⟩
theorem land_ok (s : ShowT) (h : ShowOK s) : ∃ L, G20 (s, ()) = some (L, ()) ∧ G21 (s, ()) = some (L, ()) ∧ L.length ≤ 512 := by
  cases hb : showB s
  · refine ⟨[], ?_, ?_, by simp⟩
    · unfold G20 F20
      simp only [es_show]
      rw [showS_is s h, hb]; rfl
    · unfold G21 F21
      simp only [es_show]
      rw [throwsI_none h hb]
      simp only [Option.bind_some]
      obtain ⟨n, hn⟩ := fuel_ge 5 (by omega)
      rw [hn]; rfl
  · have hv := showV_of h hb
    exact ⟨_, landS_is hv, landI_is hv, by rw [landL_len]; exact throwsL_len hv⟩
end Ev

namespace Ev
open Go
/-! ### Boxes -/
def isBx (b : Box) : Bool := isPl b.Low && (isPl b.High && (decide (b.Low.X ≤ b.High.X) && decide (b.Low.Y ≤ b.High.Y)))
noncomputable abbrev gBxS := F63 gPlS
noncomputable abbrev gBx := F67 gPl
theorem bxS (b : Box) : gBxS (b, ()) = some (isBx b, ()) := by
  unfold gBxS F63 isBx
  simp only [placeS, Option.bind_some]
  cases isPl b.Low <;> cases isPl b.High <;> cases decide (b.Low.X ≤ b.High.X) <;> rfl
theorem bxI (b : Box) : gBx (b, ()) = some (isBx b, ()) := by
  unfold gBx F67 isBx
  simp only [placeI, Option.bind_some]
  cases isPl b.Low <;> cases isPl b.High <;> cases decide (b.Low.X ≤ b.High.X) <;> rfl
def inBx (b : Box) (p : Place) : Bool := isBx b && (wi p.X b.Low.X b.High.X && wi p.Y b.Low.Y b.High.Y)
noncomputable abbrev gInS := F64 gBxS
noncomputable abbrev gInI := F68 gBx gW
theorem inS (b : Box) (p : Place) : gInS (b, p, ()) = some (inBx b p, ()) := by
  unfold gInS F64 inBx wi
  simp only [bxS, Option.bind_some, ge_iff_le]
  cases isBx b <;> cases decide (b.Low.X ≤ p.X) <;> cases decide (p.X ≤ b.High.X) <;> cases decide (b.Low.Y ≤ p.Y) <;> rfl
theorem inI (b : Box) (p : Place) : gInI (b, p, ()) = some (inBx b p, ()) := by
  unfold gInI F68 inBx
  simp only [bxI, within_is, Option.bind_some]
  cases isBx b <;> cases wi p.X b.Low.X b.High.X <;> rfl
def isIn (b c : Box) : Bool := inBx c b.Low && inBx c b.High
noncomputable abbrev gWtS := F76 gInS
noncomputable abbrev gWt := F77 gInI
theorem wtS (b c : Box) : gWtS (b, c, ()) = some (isIn b c, ()) := by
  unfold gWtS F76 isIn
  simp only [inS, Option.bind_some]
  cases inBx c b.Low <;> rfl
theorem wtI (b c : Box) : gWt (b, c, ()) = some (isIn b c, ()) := by
  unfold gWt F77 isIn
  simp only [inI, Option.bind_some]
  cases inBx c b.Low <;> rfl
theorem isIn_bx {b c : Box} (h : isBx c = false) : isIn b c = false := by
  unfold isIn inBx; rw [h]; rfl
/-! ### The limit -/
noncomputable abbrev gLimS := F85 gDevS gBxS F97 gLBS gWtS
noncomputable abbrev gLim := F87 gDev gLB gWt
/-- Whether a drop of a device, thrown with a lift, lands in a basin with each wind of a rose. -/
noncomputable def lbB (d : Device) (r : List Place) (c : Box) (x : Int) : Bool := match gLB ((⟨⟨d.At.X, d.At.Y⟩, d.Heading, d.Tilt, x⟩ : Jet), r, ()) with
  | some (B, b, _) => b && isIn B c
  | none => false
/-- What a limit is. -/
structure LimP (d : Device) (r : List Place) (c : Box) (v : Int) : Prop where
  range : 0 ≤ v ∧ v ≤ d.Most
  below : ∀ x : Int, 1 ≤ x → x ≤ v → lbB d r c x = true
  next : v < d.Most → lbB d r c (v + 1) = false
theorem lim_ok (d : Device) (r : List Place) (c : Box) (h1 : d.Name.length ≤ 1048576) (h2 : d.Line.length ≤ 1048576) (hr : r.length ≤ 1048576) : ∃ v, gLimS (d, r, c, ()) = some (v, ()) ∧ gLim (d, r, c, ()) = some (v, ()) ∧ ((devB d = true ∧ d.Kind = 2 ∧ LimP d r c v) ∨ (¬ (devB d = true ∧ d.Kind = 2) ∧ v = 0)) := by
  obtain ⟨d1, d2⟩ := devB_is d h1 h2
  have d3 : devB d = true → d.Kind = 2 → 0 ≤ d.Most ∧ d.Most ≤ 32 := fun h k => by
    unfold devB at h
    rw [if_neg (by omega), if_pos k] at h
    simp only [Bool.and_eq_true] at h
    exact wi_true.1 h.2.2.2.2
  generalize devB d = b at d1 d2 d3
  unfold gLimS F85 gLim F87
  simp only [d2, Option.bind_some]
  by_cases hgo : b = true ∧ d.Kind = 2
  · obtain ⟨rfl, hk⟩ := hgo
    obtain ⟨m0, m1⟩ := d3 rfl hk
    simp only [Bool.not_true, Bool.not_false, cond_true, hk, decide_true, cond_false]
    have key : ∀ (e i n : Nat), i + e = d.Most.toNat → e < n → ∃ v,
        iterF (s85_0 gDevS gBxS F97 gLBS gWtS) n (r, d, c, (i : Int), ((i + 1 : Nat) : Int), ()) (fun t7 => some (t7.2.2.2.1, ())) = some (v, ()) ∧
        iterF (s87_0 gDev gLB gWt) n (r, d, c, ((i + 1 : Nat) : Int), ()) (fun t5 => some (t5.2.1.Most, ())) = some (v, ()) ∧ (i : Int) ≤ v ∧ v ≤ d.Most ∧ (∀ x : Int, (i : Int) < x → x ≤ v → lbB d r c x = true) ∧ (v < d.Most → lbB d r c (v + 1) = false) := by
      intro e
      induction e with
      | zero =>
        intro i n he hn
        obtain ⟨n, rfl⟩ : ∃ k, n = k + 1 := ⟨n - 1, by omega⟩
        refine ⟨d.Most, ?_, ?_, by omega, by omega, fun x h1 h2 => by omega, fun h => by omega⟩
        · rw [iterF_succ]; simp only [s85_0]; rw [cond_false_dec (by omega)]
          have : (i : Int) = d.Most := by omega
          rw [this]
        · rw [iterF_succ]; simp only [s87_0]; rw [cond_false_dec (by omega)]
      | succ e ih =>
        intro i n he hn
        obtain ⟨n, rfl⟩ : ∃ k, n = k + 1 := ⟨n - 1, by omega⟩
        obtain ⟨B, b, l1, l2⟩ := landBox_ok ⟨⟨d.At.X, d.At.Y⟩, d.Heading, d.Tilt, ((i + 1 : Nat) : Int)⟩ r hr
        have e1 : w64 (((i + 1 : Nat) : Int) + 1) = ((i + 1 + 1 : Nat) : Int) := w64_id (by omega) (by omega)
        have e2 : w64 (((i + 1 : Nat) : Int) - 1) = (i : Int) := by rw [w64_id (by omega) (by omega)]; omega
        have hlb : lbB d r c ((i : Int) + 1) = (b && isIn B c) := by
          have e3 : (i : Int) + 1 = ((i + 1 : Nat) : Int) := by omega
          unfold lbB
          rw [e3, l2]
        obtain ⟨v, g1, g2, g3, g4, g5, g6⟩ := ih (i + 1) n (by omega) (by omega)
        by_cases hc : isBx c = true
        · cases hb : b
          · refine ⟨(i : Int), ?_, ?_, by omega, by omega, fun x h1 h2 => by omega, fun _ => by rw [hlb, hb]; rfl⟩
            · rw [iterF_succ]; simp only [s85_0]; rw [cond_true_dec (by omega)]
              simp only [d1, Option.bind_some, cond_true, hk, decide_true, bxS, hc, F97, l1, hb]
              rfl
            · rw [iterF_succ]; simp only [s87_0]; rw [cond_true_dec (by omega)]
              simp only [l2, hb, Option.bind_some, e2]
              rfl
          · cases hin : isIn B c
            · refine ⟨(i : Int), ?_, ?_, by omega, by omega, fun x h1 h2 => by omega, fun _ => by rw [hlb, hb, hin]; rfl⟩
              · rw [iterF_succ]; simp only [s85_0]; rw [cond_true_dec (by omega)]
                simp only [d1, Option.bind_some, cond_true, hk, decide_true, bxS, hc, F97, l1, hb, wtS, hin]
                rfl
              · rw [iterF_succ]; simp only [s87_0]; rw [cond_true_dec (by omega)]
                simp only [l2, hb, Option.bind_some, wtI, hin, e2]
                rfl
            · refine ⟨v, ?_, ?_, by omega, by omega, fun x h1 h2 => ?_, g6⟩
              · rw [iterF_succ]; simp only [s85_0]; rw [cond_true_dec (by omega)]
                simp only [d1, Option.bind_some, cond_true, hk, decide_true, bxS, hc, F97, l1, hb, wtS, hin, e1]
                exact g1
              · rw [iterF_succ]; simp only [s87_0]; rw [cond_true_dec (by omega)]
                simp only [l2, hb, Option.bind_some, wtI, hin, e1]
                exact g2
              · by_cases hx : x = (i : Int) + 1
                · rw [hx, hlb, hb, hin]; rfl
                · exact g5 x (by omega) h2
        · have hc' : isBx c = false := by simpa using hc
          refine ⟨(i : Int), ?_, ?_, by omega, by omega, fun x h1 h2 => by omega, fun _ => by rw [hlb, isIn_bx hc', Bool.and_false]⟩
          · rw [iterF_succ]; simp only [s85_0]; rw [cond_true_dec (by omega)]
            simp only [d1, Option.bind_some, cond_true, hk, decide_true, bxS, hc']
            rfl
          · rw [iterF_succ]; simp only [s87_0]; rw [cond_true_dec (by omega)]
            cases b <;> simp only [l2, Option.bind_some, wtI, isIn_bx hc', e2] <;> rfl
    obtain ⟨v, g1, g2, g3, g4, g5, g6⟩ := key d.Most.toNat 0 fuel (by omega) (by rw [fuel_eq]; omega)
    exact ⟨v, g1, g2, .inl ⟨by first | rfl | trivial, by first | exact hk | trivial, ⟨by omega, g4⟩, fun x h1 h2 => g5 x (by omega) h2, g6⟩⟩
  · refine ⟨0, ?_, ?_, .inr ⟨hgo, rfl⟩⟩
    · rw [show fuel = (fuel - 1) + 1 by rw [fuel_eq], iterF_succ]
      simp only [s85_0, d1, Option.bind_some]
      cases b with
      | false => cases decide ((1 : Int) ≤ d.Most) <;> rfl
      | true =>
        have hk : ¬ d.Kind = 2 := fun h => hgo ⟨rfl, h⟩
        rw [decide_eq_false hk]
        cases decide ((1 : Int) ≤ d.Most) <;> rfl
    · cases b with
      | false => rfl
      | true =>
        have hk : ¬ d.Kind = 2 := fun h => hgo ⟨rfl, h⟩
        rw [decide_eq_false hk]; rfl
end Ev

namespace Ev
open Go
theorem inS_is (b : Box) (p : Place) : G64 (b, p, ()) = some (inBx b p, ()) := inS b p
theorem inI_is (b : Box) (p : Place) : G68 (b, p, ()) = some (inBx b p, ()) := inI b p
theorem boxS_is (b : Box) : G63 (b, ()) = some (isBx b, ()) := bxS b
theorem boxI_is (b : Box) : G67 (b, ()) = some (isBx b, ()) := bxI b
theorem inBx_no {c : Box} (h : isBx c = false) (p : Place) : inBx c p = false := by unfold inBx; rw [h]; rfl
def wetF (c : Box) (a : List Drop) (x : Drop) : List Drop := if inBx c x.At = true then a else a ++ [x]
def wetL (c : Box) (L : List Drop) : List Drop := if isBx c = true then L.foldl (wetF c) [] else []
theorem wet_len (c : Box) : ∀ (l a : List Drop), (l.foldl (wetF c) a).length ≤ a.length + l.length
  | [], a => by simp
  | d :: l, a => by
    have := wet_len c l (wetF c a d)
    have h1 : (wetF c a d).length ≤ a.length + 1 := by unfold wetF; split <;> simp
    simp only [List.foldl_cons, List.length_cons]
    omega
theorem wetL_len (c : Box) (L : List Drop) : (wetL c L).length ≤ L.length := by
  unfold wetL
  split
  · have := wet_len c L []; simpa using this
  · simp
theorem wetS_loop (c : Box) (s : ShowT) (L : List Drop) (hL : L.length ≤ 1048576) : iterF (s25_0 G20 G63 G64) fuel (c, ([] : List Drop), L, Int.ofNat L.length, 0, ()) (fun t5 => some (t5.2.1, ())) = some (wetL c L, ()) := by
  cases hc : isBx c
  · refine (iterF_for (f := s25_0 G20 G63 G64) (K := fun t5 => some (t5.2.1, ())) (fun i => (c, ([] : List Drop), L, Int.ofNat L.length, (i : Int), ())) L.length (by omega) ?_ ?_).trans (by unfold wetL; rw [hc]; rfl)
    · intro i hi rec K
      have hx : L[i]? = some L[i] := by simp
      have e1 : w64 ((i : Int) + 1) = ((i + 1 : Nat) : Int) := w64_id (by omega) (by omega)
      simp only [s25_0]
      have hx' := fun (K : Drop → Option (List Drop × Unit)) => rdL_at (K := K) hx
      rw [cond_true_dec (by simp; omega)]
      simp only [hx', hx, Int.toNat_natCast, e1]
      simp only [boxS_is, hc, Option.bind_some, cond_false]
    · intro rec K
      simp only [s25_0]
      rw [cond_false_dec (by simp)]
  · refine (iterF_for (f := s25_0 G20 G63 G64) (K := fun t5 => some (t5.2.1, ())) (fun i => (c, (L.take i).foldl (wetF c) [], L, Int.ofNat L.length, (i : Int), ())) L.length (by omega) ?_ ?_).trans (by unfold wetL; rw [hc]; simp)
    · intro i hi rec K
      have hx : L[i]? = some L[i] := by simp
      have e1 : w64 ((i : Int) + 1) = ((i + 1 : Nat) : Int) := w64_id (by omega) (by omega)
      have hn := wet_len c (L.take i) []
      rw [fold_take _ _ L i hi]
      generalize (L.take i).foldl (wetF c) [] = acc at hn ⊢
      unfold wetF
      simp only [s25_0]
      have hx' := fun (K : Drop → Option (List Drop × Unit)) => rdL_at (K := K) hx
      rw [cond_true_dec (by simp; omega)]
      simp only [hx', hx, Int.toNat_natCast, e1]
      simp only [boxS_is, hc, Option.bind_some, cond_true, inS_is]
      cases inBx c L[i].At
      · simp only [Bool.not_false, cond_true]
        rw [capK_le (by simp at hn ⊢; omega)]; rfl
      · rfl
    · intro rec K
      simp only [s25_0]
      rw [cond_false_dec (by simp)]
theorem wetI_loop (c : Box) (L : List Drop) (hL : L.length ≤ 1048576) (hc : isBx c = true) : iterF (s26_0 G67 G21 G68) fuel (c, ([] : List Drop), L, Int.ofNat L.length, 0, ()) (fun t5 => some (t5.2.1, ())) = some (wetL c L, ()) := by
  refine (iterF_for (f := s26_0 G67 G21 G68) (K := fun t5 => some (t5.2.1, ())) (fun i => (c, (L.take i).foldl (wetF c) [], L, Int.ofNat L.length, (i : Int), ())) L.length (by omega) ?_ ?_).trans (by unfold wetL; rw [hc]; simp)
  · intro i hi rec K
    have hx : L[i]? = some L[i] := by simp
    have e1 : w64 ((i : Int) + 1) = ((i + 1 : Nat) : Int) := w64_id (by omega) (by omega)
    have hn := wet_len c (L.take i) []
    rw [fold_take _ _ L i hi]
    generalize (L.take i).foldl (wetF c) [] = acc at hn ⊢
    unfold wetF
    have hx' := fun (K : Drop → Option (List Drop × Unit)) => rdL_at (K := K) hx
    simp only [s26_0]
    rw [cond_true_dec (by simp; omega)]
    simp only [hx', hx, Int.toNat_natCast, e1]
    simp only [Option.bind_some, cond_true, inI_is]
    cases inBx c L[i].At
    · simp only [Bool.not_false, cond_true]
      rw [capK_le (by simp at hn ⊢; omega)]; rfl
    · rfl
  · intro rec K
    simp only [s26_0]
    rw [cond_false_dec (by simp)]
/-- The wet drops of a show, the same for the program and the reference. -/
theorem wet_ok (s : ShowT) (h : ShowOK s) (c : Box) : ∃ L, G20 (s, ()) = some (L, ()) ∧ L.length ≤ 512 ∧ G25 (s, c, ()) = some (wetL c L, ()) ∧ G26 (s, c, ()) = some (wetL c L, ()) := by
  obtain ⟨L, g1, g2, hL⟩ := land_ok s h
  refine ⟨L, g1, hL, ?_, ?_⟩
  · unfold G25 F25
    simp only [es_show, g1, Option.bind_some]
    exact wetS_loop c s L (by omega)
  · unfold G26 F26
    simp only [es_show, boxI_is, Option.bind_some]
    cases hc : isBx c
    · simp only [Bool.not_false, cond_true]
      unfold wetL; rw [hc]; rfl
    · simp only [Bool.not_true, cond_false, g2, Option.bind_some]
      exact wetI_loop c L (by omega) hc
theorem wet_nil (c : Box) : ∀ (L a : List Drop), (L.foldl (wetF c) a).length = 0 ↔ a = [] ∧ L.all (fun x => inBx c x.At) = true
  | [], a => by simp
  | x :: L, a => by
    rw [List.foldl_cons, wet_nil c L]
    unfold wetF
    cases hx : inBx c x.At <;> simp [hx]
def dryB (c : Box) (L : List Drop) : Bool := L.all fun x => inBx c x.At
theorem dry_ok (s : ShowT) (h : ShowOK s) (c : Box) : ∃ L, G20 (s, ()) = some (L, ()) ∧ G22 (s, c, ()) = some (showB s && (isBx c && dryB c L), ()) ∧ G24 (s, c, ()) = some (showB s && (isBx c && dryB c L), ()) := by
  obtain ⟨L, g1, hL, g2, g3⟩ := wet_ok s h c
  refine ⟨L, g1, ?_, ?_⟩
  · unfold G22 F22
    simp only [es_show]
    rw [showS_is s h]
    simp only [Option.bind_some]
    cases hb : showB s
    · rfl
    · simp only [Bool.not_true, cond_false, boxS_is, Option.bind_some, Bool.true_and]
      cases hc : isBx c
      · rfl
      · simp only [Bool.not_true, Bool.not_false, cond_true, cond_false, g1, Option.bind_some, Bool.true_and]
        have := iterF_chk (f := s22_0 G47 G63 G20 G64) (K := fun t5 => some (true, ())) (fun i => (c, L, Int.ofNat L.length, (i : Int), ())) (fun i => ((L[i]?).map fun x => inBx c x.At).getD true) (some (false, ())) L.length (by omega)
          (by
            intro i hi rec K
            have hx : L[i]? = some L[i] := by simp
            have e1 : w64 ((i : Int) + 1) = ((i + 1 : Nat) : Int) := w64_id (by omega) (by omega)
            simp only [s22_0]
            have hx' := fun (K : Drop → Option (Bool × Unit)) => rdL_at (K := K) hx
            rw [cond_true_dec (by simp; omega)]
            simp only [hx', hx, Int.toNat_natCast, e1, inS_is, Option.bind_some, Option.map_some, Option.getD_some]
            cases inBx c L[i].At <;> rfl)
          (by
            intro rec K
            simp only [s22_0]
            rw [cond_false_dec (by simp)])
        refine this.trans ?_
        have ea : (List.range L.length).all (fun i => ((L[i]?).map fun x => inBx c x.At).getD true) = dryB c L := by
          unfold dryB
          rw [Bool.eq_iff_iff, List.all_eq_true, List.all_eq_true]
          constructor
          · intro h x hx
            obtain ⟨i, hi⟩ := List.mem_iff_getElem?.mp hx
            have := h i (by simpa using (List.getElem?_eq_some_iff.mp hi).1)
            rw [hi] at this; exact this
          · intro h i hi
            have hi : i < L.length := by simpa using hi
            have hx : L[i]? = some L[i] := by simp
            rw [hx]; exact h _ (by simp)
        rw [ea]
        cases dryB c L <;> rfl
  · unfold G24 F24
    simp only [es_show]
    rw [showI_is s h]
    simp only [Option.bind_some]
    cases hb : showB s
    · rfl
    · simp only [cond_true, boxI_is, Option.bind_some, Bool.true_and]
      cases hc : isBx c
      · rfl
      · simp only [cond_true, g3, Option.bind_some, Bool.true_and]
        unfold wetL
        rw [if_pos hc]
        have hw := wet_nil c L []
        have : decide ((Int.ofNat (L.foldl (wetF c) []).length) = 0) = dryB c L := by
          unfold dryB
          rw [Bool.eq_iff_iff, decide_eq_true_eq]
          simp only [true_and] at hw
          rw [← hw]; simp
        rw [this]
/-! ### The least basin -/
theorem roseI_is (r : List Place) (hr : r.length ≤ 1048576) : ∃ b, G72 (r, ()) = some (b, ()) ∧ G69 (r, ()) = some (b, ()) ∧ (b = true → 1 ≤ r.length ∧ r.length ≤ 4 ∧ ∀ p ∈ r, isDr p = true) := by
  obtain ⟨b, h1, h2⟩ := rose_ok r hr
  have h1 : G72 (r, ()) = some (b, ()) := h1
  refine ⟨b, h1, ?_, h2⟩
  have e : G69 = G72 := rose_same
  rw [e]; exact h1
noncomputable def lbx (j : Jet) (r : List Place) : Box := ((G73 (j, r, ())).map fun x => x.1).getD ⟨⟨0, 0⟩, ⟨0, 0⟩⟩
noncomputable def lbb (j : Jet) (r : List Place) : Bool := ((G73 (j, r, ())).map fun x => x.2.1).getD false
theorem lbI_is (j : Jet) (r : List Place) (hr : r.length ≤ 1048576) : G73 (j, r, ()) = some (lbx j r, lbb j r, ()) := by
  obtain ⟨B, b, h1, h2⟩ := landBox_ok j r hr
  have h2 : G73 (j, r, ()) = some (B, b, ()) := h2
  unfold lbx lbb; rw [h2]; rfl
theorem lbS_is (j : Jet) (r : List Place) (hr : r.length ≤ 1048576) : G70 (j, r, ()) = some (lbx j r, lbb j r, ()) := by
  obtain ⟨B, b, h1, h2⟩ := landBox_ok j r hr
  have h1 : G70 (j, r, ()) = some (B, b, ()) := h1
  have h2 : G73 (j, r, ()) = some (B, b, ()) := h2
  unfold lbx lbb; rw [h1, h2]; rfl
noncomputable def cornF (r : List Place) (a : List Place) (x : Throw) : List Place := a ++ [(lbx x.jet r).Low, (lbx x.jet r).High]
theorem corn_len (r : List Place) : ∀ (l : List Throw) (a : List Place), (l.foldl (cornF r) a).length = a.length + 2 * l.length
  | [], a => by simp
  | d :: l, a => by
    simp only [List.foldl_cons, List.length_cons, corn_len r l]
    unfold cornF; simp; omega
noncomputable def cornL (s : ShowT) (r : List Place) : List Place := (throwsL s).foldl (cornF r) []
theorem boxOf_both (l : List Place) (hl : l.length ≤ 1048576) : ∃ B b, G71 (l, ()) = some (B, b, ()) ∧ G74 (l, ()) = some (B, b, ()) := by
  obtain ⟨B, b, h1, h2, _⟩ := boxOf_ok l hl 0
  exact ⟨B, b, h1, h2⟩
theorem boxOf_nil : G74 (([] : List Place), ()) = some (⟨⟨0, 0⟩, ⟨0, 0⟩⟩, false, ()) := by rfl
theorem cornS_loop (r : List Place) (hr : r.length ≤ 1048576) (l : List Throw) (hl : l.length ≤ 1024) (K : List Place × Box × List Place × List Throw × Int × Int × Unit → Option (Box × Bool × Unit)) :
    iterF (s28_0 G47 G69 G48 G70 G71) fuel (r, ⟨⟨0, 0⟩, ⟨0, 0⟩⟩, [], l, Int.ofNat l.length, 0, ()) K = K (r, ⟨⟨0, 0⟩, ⟨0, 0⟩⟩, l.foldl (cornF r) [], l, Int.ofNat l.length, Int.ofNat l.length, ()) := by
  refine (iterF_for (f := s28_0 G47 G69 G48 G70 G71) (K := K) (fun i => (r, ⟨⟨0, 0⟩, ⟨0, 0⟩⟩, (l.take i).foldl (cornF r) [], l, Int.ofNat l.length, (i : Int), ())) l.length (by omega) ?_ ?_).trans (by simp)
  · intro i hi rec K
    have hx : l[i]? = some l[i] := by simp
    have e1 : w64 ((i : Int) + 1) = ((i + 1 : Nat) : Int) := w64_id (by omega) (by omega)
    have hn := corn_len r (l.take i) []
    rw [fold_take _ _ l i hi]
    generalize (l.take i).foldl (cornF r) [] = acc at hn ⊢
    unfold cornF
    simp only [s28_0]
    have hx' := fun (K : Throw → Option (Box × Bool × Unit)) => rdL_at (K := K) hx
    rw [cond_true_dec (by simp; omega)]
    simp only [hx', hx, Int.toNat_natCast, e1, lbS_is _ r hr, Option.bind_some]
    rw [capK_le (by simp at hn ⊢; omega)]
  · intro rec K
    simp only [s28_0]
    rw [cond_false_dec (by simp)]
theorem cornI_loop (r : List Place) (hr : r.length ≤ 1048576) (l : List Throw) (hl : l.length ≤ 1024) (K : List Place × Box × List Place × List Throw × Int × Int × Unit → Option (Box × Bool × Unit)) :
    iterF (s30_0 G72 G54 G73 G74) fuel (r, ⟨⟨0, 0⟩, ⟨0, 0⟩⟩, [], l, Int.ofNat l.length, 0, ()) K = K (r, ⟨⟨0, 0⟩, ⟨0, 0⟩⟩, l.foldl (cornF r) [], l, Int.ofNat l.length, Int.ofNat l.length, ()) := by
  refine (iterF_for (f := s30_0 G72 G54 G73 G74) (K := K) (fun i => (r, ⟨⟨0, 0⟩, ⟨0, 0⟩⟩, (l.take i).foldl (cornF r) [], l, Int.ofNat l.length, (i : Int), ())) l.length (by omega) ?_ ?_).trans (by simp)
  · intro i hi rec K
    have hx : l[i]? = some l[i] := by simp
    have e1 : w64 ((i : Int) + 1) = ((i + 1 : Nat) : Int) := w64_id (by omega) (by omega)
    have hn := corn_len r (l.take i) []
    rw [fold_take _ _ l i hi]
    generalize (l.take i).foldl (cornF r) [] = acc at hn ⊢
    unfold cornF
    simp only [s30_0]
    have hx' := fun (K : Throw → Option (Box × Bool × Unit)) => rdL_at (K := K) hx
    rw [cond_true_dec (by simp; omega)]
    simp only [hx', hx, Int.toNat_natCast, e1, lbI_is _ r hr, Option.bind_some]
    rw [capK_le (by simp at hn ⊢; omega)]
  · intro rec K
    simp only [s30_0]
    rw [cond_false_dec (by simp)]
theorem least_ok (s : ShowT) (h : ShowOK s) (r : List Place) (hr : r.length ≤ 1048576) : ∃ B b, G28 (s, r, ()) = some (B, b, ()) ∧ G30 (s, r, ()) = some (B, b, ()) := by
  obtain ⟨b, r1, r2, _⟩ := roseI_is r hr
  unfold G28 F28 G30 F30
  simp only [es_show]
  rw [showS_is s h, r1]
  simp only [Option.bind_some]
  cases hb : showB s
  · cases b
    · exact ⟨_, _, rfl, rfl⟩
    · refine ⟨_, _, rfl, ?_⟩
      simp only [Bool.not_true, cond_false]
      rw [throwsI_none h hb]
      simp only [Option.bind_some]
      have := cornI_loop r hr [] (by simp) (fun t5 => (G74 (t5.2.2.1, ())).bind fun x6 => some (x6.1, x6.2.1, ()))
      exact this.trans (by rw [show ([] : List Throw).foldl (cornF r) [] = [] from rfl, boxOf_nil]; rfl)
  · have hv := showV_of h hb
    have hl := throwsL_len hv
    simp only [Bool.not_true, cond_false, r2, Option.bind_some]
    cases b
    · exact ⟨_, _, rfl, rfl⟩
    · simp only [Bool.not_true, Bool.not_false, cond_true, cond_false]
      rw [allS_is hv, allI_is hv]
      simp only [Option.bind_some]
      rw [cornS_loop r hr _ (by omega), cornI_loop r hr _ (by omega)]
      obtain ⟨B, b, q1, q2⟩ := boxOf_both ((throwsL s).foldl (cornF r) []) (by rw [corn_len]; simp; omega)
      refine ⟨B, b, ?_, ?_⟩
      · simp only [q1]; rfl
      · simp only [q2]; rfl
theorem eqBox_self (a : Box) : F31 F75 (a, a, ()) = some (true, ()) := by
  unfold F31
  simp only [eqPlace_self, Option.bind_some]
  rfl
theorem within_isS (b c : Box) : G76 (b, c, ()) = some (isIn b c, ()) := wtS b c
theorem within_isI (b c : Box) : G77 (b, c, ()) = some (isIn b c, ()) := wtI b c
theorem safe_ok (s : ShowT) (h : ShowOK s) (r : List Place) (hr : r.length ≤ 1048576) (c : Box) : ∃ b, G33 (s, r, c, ()) = some (b, ()) ∧ G34 (s, r, c, ()) = some (b, ()) := by
  obtain ⟨b, r1, r2, _⟩ := roseI_is r hr
  obtain ⟨B, v, l1, l2⟩ := least_ok s h r hr
  unfold G33 F33 G34 F34
  simp only [es_show]
  rw [showS_is s h, showI_is s h, r1, r2, l1, l2]
  simp only [Option.bind_some, boxS_is, boxI_is, within_isS, within_isI]
  cases showB s <;> cases b <;> cases isBx c <;> cases v <;> exact ⟨_, rfl, rfl⟩
end Ev
