/- What is told of a valid show, to the letter. Turned and moved shows throw turned and moved drops. -/
import Derived.Test.YtpnlcamcnhpbhaaGreatInsA
import Derived.Test.YtpnlcamcnhpbhaaGreatDropA
set_option linter.unusedVariables false
set_option linter.unusedSimpArgs false
set_option maxRecDepth 100000
namespace Ev
open Go
/-! ### Counts -/
theorem count_fold {A : Type} (p : A → Bool) : ∀ (l : List A) (a : Int), 0 ≤ a → a + l.length ≤ 1099511627776 → l.foldl (fun a x => if p x = true then w64 (a + 1) else a) a = a + (l.countP p : Int)
  | [], a, _, _ => by simp
  | x :: l, a, h0, h1 => by
    have h1' : a + ((l.length + 1 : Nat) : Int) ≤ 1099511627776 := by simpa using h1
    rw [List.foldl_cons]
    cases hp : p x
    · rw [if_neg (by simp), count_fold p l a h0 (by omega), List.countP_cons_of_neg (by simp [hp])]
    · rw [if_pos rfl, w64_id (by omega) (by omega), count_fold p l (a + 1) (by omega) (by omega), List.countP_cons_of_pos hp]
      omega
theorem count_le {A : Type} (p q : A → Bool) (l : List A) (h : ∀ x ∈ l, p x = true → q x = true) : l.countP p ≤ l.countP q := List.countP_mono_left h
theorem count_all {A : Type} (p : A → Bool) (l : List A) (h : ∀ x ∈ l, p x = true) : l.countP p = l.length := by
  rw [List.countP_eq_length]; exact h
theorem count_none {A : Type} (p : A → Bool) (l : List A) (h : ∀ x ∈ l, p x = false) : l.countP p = 0 := by
  rw [List.countP_eq_zero]; intro x hx; rw [h x hx]; simp
theorem count_split {A : Type} (p q r : A → Bool) : ∀ (l : List A), (∀ x ∈ l, (p x = true ∧ ((q x = true ∧ r x = false) ∨ (q x = false ∧ r x = true))) ∨ (p x = false ∧ q x = false ∧ r x = false)) → l.countP p = l.countP q + l.countP r
  | [], _ => rfl
  | x :: l, h => by
    have ih := count_split p q r l fun y hy => h y (by simp [hy])
    rcases h x (by simp) with ⟨h1, ⟨h2, h3⟩ | ⟨h2, h3⟩⟩ | ⟨h1, h2, h3⟩ <;> simp only [List.countP_cons, h1, h2, h3, if_true] <;> simp <;> omega
def bornB (t : Int) (x : Throw) : Bool := decide (x.born ≤ t)
def doneB (t : Int) (x : Throw) : Bool := decide (x.born + fl x.jet ≤ t)
def airB (t : Int) (x : Throw) : Bool := decide (x.born ≤ t) && decide (t < x.born + fl x.jet)
theorem thrown_fold (t : Int) (l : List Throw) (hl : l.length ≤ 1048576) : l.foldl (thrownF t) 0 = (l.countP (bornB t) : Int) := by
  have e : thrownF t = fun a x => if bornB t x = true then w64 (a + 1) else a := by
    funext a x; unfold thrownF bornB; simp only [decide_eq_true_eq]
  rw [e, count_fold _ l 0 (by omega) (by omega)]
  omega
theorem landed_fold (t : Int) (l : List Throw) (hl : l.length ≤ 1048576) (hf : ∀ x ∈ l, FliesP x) : l.foldl (landedF t) 0 = (l.countP (doneB t) : Int) := by
  have : ∀ (l : List Throw) (a : Int), (∀ x ∈ l, FliesP x) → l.foldl (landedF t) a = l.foldl (fun a x => if doneB t x = true then w64 (a + 1) else a) a := fun l => by
    induction l with
    | nil => intro a _; rfl
    | cons x l ih =>
      intro a hx
      rw [List.foldl_cons, List.foldl_cons, ih _ fun y hy => hx y (by simp [hy])]
      unfold landedF doneB
      rw [fly_lands (hx x (by simp))]
      simp only [decide_eq_true_eq]
  rw [this l 0 hf, count_fold _ l 0 (by omega) (by omega)]
  omega
theorem now_count (w : List Gust) (t : Int) : ∀ (l : List Throw) (a : List Drop), (l.foldl (nowF w t) a).length = a.length + l.countP (airB t)
  | [], a => by simp
  | x :: l, a => by
    rw [List.foldl_cons, now_count w t l]
    unfold nowF
    by_cases hc : x.born ≤ t ∧ t < x.born + fl x.jet
    · rw [if_pos hc, List.countP_cons_of_pos (by unfold airB; simp [hc.1, hc.2])]
      simp; omega
    · rw [if_neg hc, List.countP_cons_of_neg (by unfold airB; simp only [Bool.and_eq_true, decide_eq_true_eq]; exact hc)]
section
variable {s : ShowT} (h : ShowV s)
include h
theorem throws_small : (throwsL s).length ≤ 1048576 := Nat.le_trans (throwsL_len h) (by decide)
omit h in
theorem nowL_count (t : Int) : (nowL s t).length = (throwsL s).countP (airB t) := by
  unfold nowL
  rw [now_count]; simp
theorem fl_two {x : Throw} (hx : x ∈ throwsL s) : 2 ≤ fl x.jet ∧ fl x.jet ≤ 33 ∧ x.jet.Lift = fl x.jet - 1 := by
  have hj := (throws_fly h hx).jet
  have J := (jet_ok hj).l
  have hf : fl x.jet = x.jet.Lift + 1 := by unfold fl; rw [if_pos hj]
  omega
theorem born_split (t : Int) : (throwsL s).countP (bornB t) = (nowL s t).length + (throwsL s).countP (doneB t) := by
  rw [nowL_count]
  refine count_split _ _ _ _ fun x hx => ?_
  have := fl_two h hx
  unfold bornB airB doneB
  simp only [decide_eq_true_eq, decide_eq_false_iff_not, Bool.and_eq_true, Bool.and_eq_false_iff]
  omega
theorem none_born : (throwsL s).countP (bornB (-1)) = 0 := count_none _ _ fun x hx => by
  have := (throws_fly h hx).born
  unfold bornB
  rw [decide_eq_false_iff_not]; omega
theorem none_done : (throwsL s).countP (doneB 0) = 0 := count_none _ _ fun x hx => by
  have := (throws_fly h hx).born
  have := fl_two h hx
  unfold doneB
  rw [decide_eq_false_iff_not]; omega
theorem all_born : (throwsL s).countP (bornB s.2.2.2.1) = (throwsL s).length := count_all _ _ fun x hx => by
  have := (throws_mem h hx).born
  unfold bornB
  rw [decide_eq_true_eq]; omega
theorem all_done : (throwsL s).countP (doneB 200) = (throwsL s).length := count_all _ _ fun x hx => by
  have := (throws_fly h hx).born
  have := fl_two h hx
  unfold doneB
  rw [decide_eq_true_eq]; omega
theorem none_air : (nowL s 200).length = 0 := by
  rw [nowL_count]
  refine count_none _ _ fun x hx => ?_
  have := (throws_fly h hx).born
  have := fl_two h hx
  unfold airB
  rw [Bool.and_eq_false_iff, decide_eq_false_iff_not, decide_eq_false_iff_not]; omega
/-! ### Water -/
omit h in
theorem water_fold : ∀ (l : List Throw) (a : Int), (∀ x ∈ l, 1 ≤ x.jet.Lift ∧ x.jet.Lift ≤ 32) → 0 ≤ a → a + 32 * l.length ≤ 1099511627776 → l.foldl waterF a = a + sumL (l.map fun x => x.jet.Lift) := by
  intro l
  induction l with
  | nil => intro a _ _ _; simp [sumL]
  | cons x l ih =>
    intro a hx h0 h1
    have hxx := hx x (by simp)
    have h1' : a + 32 * ((l.length + 1 : Nat) : Int) ≤ 1099511627776 := by simpa using h1
    have ew : waterF a x = a + x.jet.Lift := by unfold waterF; exact w64_id (by omega) (by omega)
    rw [List.foldl_cons, ew]
    have := ih (a + x.jet.Lift) (fun y hy => hx y (by simp [hy])) (by omega) (by omega)
    rw [this]
    simp only [List.map_cons, sumL]
    omega
def liftSum (l : List Throw) : Int := sumL (l.map fun x => x.jet.Lift)
omit h in
theorem liftSum_app (a b : List Throw) : liftSum (a ++ b) = liftSum a + liftSum b := by
  unfold liftSum; rw [List.map_append, sumL_app]
theorem thrN_sum (t : Int) : ∀ n, n ≤ s.1.length → liftSum (thrN s t n) = sumL ((liftsL s t).take n)
  | 0, _ => by simp [thrN, liftSum, sumL]
  | n + 1, hn => by
    have hL := liftsL_len s t
    have hx : s.1[n]? = some s.1[n] := by simp
    have hy : (liftsL s t)[n]? = some (liftsL s t)[n] := by simp
    rw [thrN_succ, liftSum_app, thrN_sum t n (by omega), sumL_take _ n (by omega)]
    have h0 := (lifts_sum h (t := t)).1 (liftsL s t)[n] (by simp)
    unfold thr1
    rw [hx, hy]
    simp only
    by_cases hp : (liftsL s t)[n] > 0
    · rw [if_pos hp]
      simp [liftSum, sumL]
    · rw [if_neg hp]
      simp only [liftSum, List.map_nil, sumL]
      omega
noncomputable def waterAt (s : ShowT) : Nat → Int
  | 0 => 0
  | n + 1 => waterAt s n + sumL (liftsL s (n : Int))
theorem thrAll_sum : ∀ n, liftSum (thrAll s n) = waterAt s n
  | 0 => by simp [thrAll, liftSum, sumL, waterAt]
  | n + 1 => by
    have := thrN_sum h (n : Int) s.1.length (Nat.le_refl _)
    have hL := liftsL_len s (n : Int)
    rw [show (liftsL s (n : Int)).take s.1.length = liftsL s (n : Int) by rw [← hL, List.take_length]] at this
    rw [thrAll_succ, liftSum_app, thrAll_sum n, this]
    rfl
theorem waterAt_le : ∀ n : Nat, 0 ≤ waterAt s n ∧ waterAt s n ≤ pumpSum s.1 * (n : Int)
  | 0 => by simp [waterAt]
  | n + 1 => by
    have ih := waterAt_le n
    have hs := (lifts_sum h (t := (n : Int))).2
    unfold waterAt
    rw [show ((n + 1 : Nat) : Int) = (n : Int) + 1 by omega, Int.mul_add, Int.mul_one]
    omega
/-! ### Heights -/
omit h in
theorem high_ge : ∀ (l : List Throw) (a : Int), a ≤ l.foldl highF a ∧ (∀ x ∈ l, pk x.jet ≤ l.foldl highF a) ∧ (l.foldl highF a = a ∨ ∃ x ∈ l, pk x.jet = l.foldl highF a)
  | [], a => ⟨Int.le_refl _, (fun x hx => by cases hx), .inl rfl⟩
  | x :: l, a => by
    obtain ⟨h1, h2, h3⟩ := high_ge l (highF a x)
    have e := mx_eq a (pk x.jet)
    rw [List.foldl_cons]
    have hh : highF a x = mx a (pk x.jet) := rfl
    refine ⟨?_, fun y hy => ?_, ?_⟩
    · rw [hh, e] at h1
      rw [hh, e]
      split at h1 <;> (split <;> omega)
    · rcases List.mem_cons.mp hy with rfl | hy
      · rw [hh, e] at h1
        rw [hh, e]
        split at h1 <;> (split <;> omega)
      · exact h2 y hy
    · rcases h3 with h3 | ⟨y, hy, h3⟩
      · rw [h3, hh, e]
        split
        · exact .inr ⟨x, by simp, rfl⟩
        · exact .inl rfl
      · exact .inr ⟨y, by simp [hy], h3⟩
noncomputable def highV (s : ShowT) : Int := (throwsL s).foldl highF 0
omit h in
theorem ht_pk {j : Jet} (hj : isJet j = true) {t : Int} (h0 : 0 ≤ t) (h1 : t ≤ fl j) : 0 ≤ ht j t ∧ ht j t ≤ pk j := by
  have hf : fl j = j.Lift + 1 := by unfold fl; rw [if_pos hj]
  have J := (jet_ok hj).l
  have hs := ht_small J.1 J.2 (t := t) h0 (by omega)
  have e : ht j t = t * (j.Lift + 1 - t) := by unfold ht; rw [if_pos ⟨hj, h0, by omega⟩]
  refine ⟨by omega, ?_⟩
  by_cases hc : fl j / 2 ≤ t
  · exact ht_top hj hc h1
  · have hs2 : ht j (fl j - t) = ht j t := by
      unfold ht
      rw [if_pos ⟨hj, by omega, by omega⟩, if_pos ⟨hj, h0, by omega⟩, hf]
      rw [show j.Lift + 1 - (j.Lift + 1 - t) = t by omega]
      exact Int.mul_comm _ _
    rw [← hs2]
    exact ht_top hj (by omega) (by omega)
omit h in
theorem now_mem {t : Int} {d : Drop} (hd : d ∈ nowL s t) : ∃ x ∈ throwsL s, ∃ n : Nat, t = x.born + (n : Int) ∧ (n : Int) < fl x.jet ∧ d = dropV s.2.2.1 x n := by
  have : ∀ (l : List Throw) (a : List Drop), d ∈ l.foldl (nowF s.2.2.1 t) a → d ∈ a ∨ ∃ x ∈ l, ∃ n : Nat, t = x.born + (n : Int) ∧ (n : Int) < fl x.jet ∧ d = dropV s.2.2.1 x n := fun l => by
    induction l with
    | nil => intro a ha; exact .inl ha
    | cons x l ih =>
      intro a ha
      rw [List.foldl_cons] at ha
      rcases ih _ ha with ha | ⟨y, hy, k⟩
      · unfold nowF at ha
        by_cases hc : x.born ≤ t ∧ t < x.born + fl x.jet
        · rw [if_pos hc] at ha
          rcases List.mem_append.mp ha with ha | ha
          · exact .inl ha
          · rw [List.mem_singleton] at ha
            exact .inr ⟨x, by simp, (t - x.born).toNat, by omega, by omega, ha⟩
        · rw [if_neg hc] at ha; exact .inl ha
      · exact .inr ⟨y, by simp [hy], k⟩
  rcases this (throwsL s) [] hd with e | e
  · cases e
  · exact e
theorem now_high {t : Int} {d : Drop} (hd : d ∈ nowL s t) : 0 ≤ d.Height ∧ d.Height ≤ highV s := by
  obtain ⟨x, hx, n, _, hn, rfl⟩ := now_mem hd
  have hj := (throws_fly h hx).jet
  have a := ht_pk hj (show 0 ≤ (n : Int) by omega) (by omega)
  have b := (high_ge (throwsL s) 0).2.1 x hx
  unfold dropV highV
  simp only
  omega
/-! ### Jets -/
noncomputable def jetV (s : ShowT) (nm : Str) (t : Int) : Option Jet := if fnd s.1 nm < 0 then none else match s.1[(fnd s.1 nm).toNat]?, (liftsL s t)[(fnd s.1 nm).toNat]? with
  | some d, some y => if d.Kind = 2 ∧ y ≠ 0 then some ⟨⟨d.At.X, d.At.Y⟩, d.Heading, d.Tilt, y⟩ else none
  | _, _ => none
theorem jet_throw {x : Throw} (hx : x ∈ throwsL s) : jetV s x.name x.born = some x.jet := by
  obtain ⟨_, _, i, d, hd, hk, hn, hj, hl, _⟩ := throws_mem h hx
  have hl2 := fl_two h hx
  have hf := fnd_self h.rig hd
  unfold jetV
  rw [hn, hf, if_neg (by omega), Int.toNat_natCast, hd, hl]
  simp only
  rw [if_pos ⟨hk, by omega⟩, ← hj]
end
end Ev

namespace Ev
open Go
/-! ### Places without wrapping -/
def Sm (m : Int) (p : Place) : Prop := (-m ≤ p.X ∧ p.X ≤ m) ∧ (-m ≤ p.Y ∧ p.Y ≤ m)
def rt (k : Nat) (p : Place) : Place := if k = 0 then p else if k = 1 then ⟨-p.Y, p.X⟩ else if k = 2 then ⟨-p.X, -p.Y⟩ else ⟨p.Y, -p.X⟩
theorem place_ext {p q : Place} (h1 : p.X = q.X) (h2 : p.Y = q.Y) : p = q := by
  cases p; cases q; simp only at h1 h2; subst h1 h2; rfl
theorem rot_rt {m : Int} (hb : m ≤ 1099511627776) {p : Place} (h : Sm m p) {k : Nat} (hk : k < 4) : rotN k p = rt k p := by
  obtain ⟨⟨h1, h2⟩, h3, h4⟩ := h
  have e1 : w64 (0 - p.Y) = -p.Y := by rw [w64_id (by omega) (by omega)]; omega
  have e2 : w64 (0 - p.X) = -p.X := by rw [w64_id (by omega) (by omega)]; omega
  have e3 : w64 (0 - -p.Y) = p.Y := by rw [w64_id (by omega) (by omega)]; omega
  rcases k4 hk with rfl | rfl | rfl | rfl
  · rfl
  · simp only [rotN, e1]; rfl
  · simp only [rotN, e1, e2]; rfl
  · simp only [rotN, e1, e2, e3]; rfl
theorem rt_sm {m : Int} {p : Place} (h : Sm m p) (k : Nat) : Sm m (rt k p) := by
  obtain ⟨⟨h1, h2⟩, h3, h4⟩ := h
  unfold rt Sm
  split
  · exact ⟨⟨h1, h2⟩, h3, h4⟩
  · split
    · exact ⟨⟨by simp only; omega, by simp only; omega⟩, by simp only; omega, by simp only; omega⟩
    · split
      · exact ⟨⟨by simp only; omega, by simp only; omega⟩, by simp only; omega, by simp only; omega⟩
      · exact ⟨⟨by simp only; omega, by simp only; omega⟩, by simp only; omega, by simp only; omega⟩
def add (p q : Place) : Place := ⟨p.X + q.X, p.Y + q.Y⟩
theorem plus_add {m n : Int} (hb : m + n ≤ 1099511627776) {p q : Place} (hp : Sm m p) (hq : Sm n q) : plus p q = add p q := by
  obtain ⟨⟨h1, h2⟩, h3, h4⟩ := hp
  obtain ⟨⟨g1, g2⟩, g3, g4⟩ := hq
  unfold plus add
  rw [w64_id (by omega) (by omega), w64_id (by omega) (by omega)]
theorem add_sm {m n : Int} {p q : Place} (hp : Sm m p) (hq : Sm n q) : Sm (m + n) (add p q) := by
  obtain ⟨⟨h1, h2⟩, h3, h4⟩ := hp
  obtain ⟨⟨g1, g2⟩, g3, g4⟩ := hq
  exact ⟨⟨by simp only [add]; omega, by simp only [add]; omega⟩, by simp only [add]; omega, by simp only [add]; omega⟩
theorem rt_add (k : Nat) (p q : Place) : rt k (add p q) = add (rt k p) (rt k q) := by
  unfold rt add
  split
  · rfl
  · split
    · exact place_ext (by simp only; omega) (by simp only)
    · split
      · exact place_ext (by simp only; omega) (by simp only; omega)
      · exact place_ext (by simp only) (by simp only; omega)
theorem rt_zero (k : Nat) : rt k ⟨0, 0⟩ = ⟨0, 0⟩ := by
  unfold rt; split
  · rfl
  · split
    · rfl
    · split <;> rfl
theorem rt_rt {j k : Nat} (hj : j < 4) (hk : k < 4) (p : Place) : rt k (rt j p) = rt ((j + k) % 4) p := by
  rcases k4 hj with rfl | rfl | rfl | rfl <;> rcases k4 hk with rfl | rfl | rfl | rfl <;> (unfold rt; simp) <;> (try (cases p; simp))
/-! ### Drifts and drops without wrapping -/
theorem dr_sm {p : Place} (h : isDr p = true) : Sm 8 p := by
  unfold isDr at h
  rw [Bool.and_eq_true, wi_true, wi_true] at h
  exact h
theorem drL_mem : ∀ (w : List Gust) (t : Int) (a : Place), (w.foldl (drF t) a = a) ∨ ∃ g ∈ w, g.From ≤ t ∧ w.foldl (drF t) a = g.Drift
  | [], t, a => .inl rfl
  | g :: w, t, a => by
    rw [List.foldl_cons]
    rcases drL_mem w t (drF t a g) with h | ⟨g', hg, hle, h⟩
    · rw [h]
      unfold drF
      by_cases hc : g.From ≤ t
      · rw [if_pos hc]; exact .inr ⟨g, by simp, hc, rfl⟩
      · rw [if_neg hc]; exact .inl rfl
    · exact .inr ⟨g', by simp [hg], hle, h⟩
theorem drL_sm {w : List Gust} (h : ∀ g ∈ w, Sm 8 g.Drift) (t : Int) : Sm 8 (drL w t) := by
  unfold drL
  rcases drL_mem w t ⟨0, 0⟩ with e | ⟨g, hg, _, e⟩
  · rw [e]; exact ⟨⟨by decide, by decide⟩, by decide, by decide⟩
  · rw [e]; exact h g hg
def dS (w : List Gust) (a : Int) : Nat → Place
  | 0 => ⟨0, 0⟩
  | n + 1 => add (dS w a n) (drL w (a + (n : Int)))
theorem dS_sm {w : List Gust} (h : ∀ g ∈ w, Sm 8 g.Drift) (a : Int) : ∀ n : Nat, Sm (8 * (n : Int)) (dS w a n)
  | 0 => ⟨⟨by simp [dS], by simp [dS]⟩, by simp [dS], by simp [dS]⟩
  | n + 1 => by
    have := add_sm (dS_sm h a n) (drL_sm h (a + (n : Int)))
    rw [show 8 * (n : Int) + 8 = 8 * ((n + 1 : Nat) : Int) by omega] at this
    exact this
theorem drSum_dS {w : List Gust} (h : ∀ g ∈ w, Sm 8 g.Drift) (a : Int) : ∀ n : Nat, n ≤ 200 → drSum w a n = dS w a n
  | 0, _ => rfl
  | n + 1, hn => by
    unfold drSum dS
    rw [drSum_dS h a n (by omega), plus_add (m := 8 * (n : Int)) (n := 8) (by omega) (dS_sm h a n) (drL_sm h _)]
def pN (j : Jet) (t : Int) : Place := add j.At (rt j.Heading.toNat ⟨t * j.Tilt, 0⟩)
theorem placeN_pN {j : Jet} (J : JetOK j) {t : Int} (h0 : 0 ≤ t) (h1 : t ≤ 33) : placeN j t = pN j t := by
  obtain ⟨_, ex, ey⟩ := placeN_bound J h0 h1
  obtain ⟨_, h2, h3⟩ := jumpN J h0 h1
  have hk : j.Heading.toNat < 4 := by have := J.h; omega
  have hs : Sm 528 ⟨t * j.Tilt, 0⟩ := ⟨⟨by simp only; omega, by simp only; omega⟩, by simp only; omega, by simp only; omega⟩
  rw [rot_rt (by omega) hs hk] at ex ey
  exact place_ext ex ey
theorem pN_sm {j : Jet} (J : JetOK j) {t : Int} (h0 : 0 ≤ t) (h1 : t ≤ 33) : Sm 1552 (pN j t) := by
  have := (placeN_bound J h0 h1).1
  rw [placeN_pN J h0 h1] at this
  exact ⟨⟨this.1, this.2.1⟩, this.2.2.1, this.2.2.2⟩
def WdSm (w : List Gust) : Prop := ∀ g ∈ w, Sm 8 g.Drift
theorem wind_sm {w : List Gust} (h : WindP w) : WdSm w := fun g hg => dr_sm (h.gust g hg).2
theorem drop_at {w : List Gust} (hw : WdSm w) {x : Throw} (h : FliesP x) {n : Nat} (hn : (n : Int) ≤ fl x.jet) : dropV w x n = ⟨x.name, x.born, add (pN x.jet (n : Int)) (dS w x.born n), ht x.jet (n : Int)⟩ ∧ Sm 1816 (add (pN x.jet (n : Int)) (dS w x.born n)) := by
  have hb := fl_bound x.jet
  have J := jet_ok h.jet
  have h1 := pN_sm J (show 0 ≤ (n : Int) by omega) (by omega)
  have h2 := dS_sm hw x.born n
  have h3 : Sm 264 (dS w x.born n) := ⟨⟨by have := h2.1.1; omega, by have := h2.1.2; omega⟩, by have := h2.2.1; omega, by have := h2.2.2; omega⟩
  unfold dropV
  rw [placeN_pN J (by omega) (by omega), drSum_dS hw _ _ (by omega), plus_add (m := 1552) (n := 264) (by omega) h1 h3]
  exact ⟨rfl, add_sm h1 h3⟩
/-! ### Shows whose devices are moved -/
structure Keeps (f : Device → Device) : Prop where
  name : ∀ d, (f d).Name = d.Name
  kind : ∀ d, (f d).Kind = d.Kind
  line : ∀ d, (f d).Line = d.Line
  most : ∀ d, (f d).Most = d.Most
section
variable {f : Device → Device} (F : Keeps f)
include F
theorem pickL_map (p : Device) (r : List Device) (n : Nat) : pickL (onI (f p)) (r.map f) n = pickL (onI p) r n := by
  unfold pickL
  refine List.filter_congr fun i _ => ?_
  unfold pickB
  rw [List.getElem?_map]
  cases r[i]? with
  | none => rfl
  | some d =>
    simp only [Option.map_some]
    unfold onI
    rw [F.line, F.name]
theorem demAt_map (sc : List Cue) (t : Int) (r : List Device) (i : Nat) : demAt sc t (r.map f) i = demAt sc t r i := by
  unfold demAt
  rw [List.getElem?_map]
  cases r[i]? with
  | none => rfl
  | some d =>
    simp only [Option.map_some, Option.getD_some]
    unfold dem
    rw [F.name, F.most]
theorem lifts_map (r : List Device) (sc : List Cue) (w w' : List Gust) (T t : Int) : liftsL (r.map f, sc, w', T, ()) t = liftsL (r, sc, w, T, ()) t := by
  have hw : ∀ p, wantL (r.map f, sc, w', T, ()) t (f p) = wantL (r, sc, w, T, ()) t p := fun p => by
    unfold wantL
    simp only [List.length_map]
    rw [pickL_map F p r]
    exact List.map_congr_left fun i _ => demAt_map F sc t r i
  have hs : ∀ out p, stepL (r.map f, sc, w', T, ()) t out (f p) = stepL (r, sc, w, T, ()) t out p := fun out p => by
    unfold stepL
    rw [F.kind, F.most, hw p]
    simp only [List.length_map]
    rw [pickL_map F p r]
  have hf : ∀ (l : List Device) (out : List Int), (l.map f).foldl (stepL (r.map f, sc, w', T, ()) t) out = l.foldl (stepL (r, sc, w, T, ()) t) out := fun l => by
    induction l with
    | nil => intro out; rfl
    | cons d l ih => intro out; rw [List.map_cons, List.foldl_cons, List.foldl_cons, hs, ih]
  unfold liftsL liftsN
  simp only [List.length_map]
  rw [← List.map_take, hf]
end
theorem flatMap_congr' {α β : Type} {l : List α} {f g : α → List β} (h : ∀ x ∈ l, f x = g x) : l.flatMap f = l.flatMap g := by
  induction l with
  | nil => rfl
  | cons x l ih =>
    rw [List.flatMap_cons, List.flatMap_cons, h x (by simp), ih fun y hy => h y (by simp [hy])]
def mvT (jf : Jet → Jet) (x : Throw) : Throw := ⟨x.name, x.born, jf x.jet⟩
theorem throws_map {s : ShowT} (h : ShowV s) {f : Device → Device} (F : Keeps f) (w' : List Gust) (jf : Jet → Jet)
    (hj : ∀ d ∈ s.1, d.Kind = 2 → ∀ x : Int, (⟨⟨(f d).At.X, (f d).At.Y⟩, (f d).Heading, (f d).Tilt, x⟩ : Jet) = jf ⟨⟨d.At.X, d.At.Y⟩, d.Heading, d.Tilt, x⟩) :
    throwsL (s.1.map f, s.2.1, w', s.2.2.2.1, ()) = (throwsL s).map (mvT jf) := by
  have hl : ∀ t, liftsL (s.1.map f, s.2.1, w', s.2.2.2.1, ()) t = liftsL s t := fun t => lifts_map F s.1 s.2.1 s.2.2.1 w' s.2.2.2.1 t
  have h1 : ∀ t i, thr1 (s.1.map f, s.2.1, w', s.2.2.2.1, ()) t i = (thr1 s t i).map (mvT jf) := fun t i => by
    unfold thr1
    rw [hl t]
    simp only [List.getElem?_map]
    cases hd : s.1[i]? with
    | none => rfl
    | some d =>
      cases hx : (liftsL s t)[i]? with
      | none => rfl
      | some x =>
        simp only [Option.map_some]
        by_cases hp : x > 0
        · rw [if_pos hp, if_pos hp]
          have hk : d.Kind = 2 := by
            rcases liftsL_at h t hx hd with e | e
            · omega
            · exact e.1
          simp only [List.map_cons, List.map_nil, mvT, F.name, hj d (mem_at hd) hk x]
        · rw [if_neg hp, if_neg hp]; rfl
  unfold throwsL thrAll thrN
  simp only [List.length_map]
  rw [List.map_flatMap]
  refine flatMap_congr' fun t _ => ?_
  rw [List.map_flatMap]
  exact flatMap_congr' fun i _ => h1 t i
def mvO (pf : Place → Place) (d : Drop) : Drop := ⟨d.From, d.Born, pf d.At, d.Height⟩
theorem foldl_mvO {A : Type} (pf : Place → Place) (F G : List Drop → A → List Drop) (g : A → A) : ∀ (l : List A) (a : List Drop), (∀ x ∈ l, ∀ a, G (a.map (mvO pf)) (g x) = (F a x).map (mvO pf)) → (l.map g).foldl G (a.map (mvO pf)) = (l.foldl F a).map (mvO pf)
  | [], a, _ => rfl
  | x :: l, a, h => by
    rw [List.map_cons, List.foldl_cons, List.foldl_cons, h x (by simp)]
    exact foldl_mvO pf F G g l (F a x) fun y hy => h y (by simp [hy])
theorem drops_map {s s' : ShowT} (jf : Jet → Jet) (pf : Place → Place) (ht : throwsL s' = (throwsL s).map (mvT jf)) (hf : ∀ x ∈ throwsL s, fl (jf x.jet) = fl x.jet)
    (hd : ∀ x ∈ throwsL s, ∀ n : Nat, (n : Int) ≤ fl x.jet → dropV s'.2.2.1 (mvT jf x) n = mvO pf (dropV s.2.2.1 x n)) (t : Int) : nowL s' t = (nowL s t).map (mvO pf) ∧ landL s' = (landL s).map (mvO pf) := by
  unfold nowL landL
  rw [ht]
  constructor
  · refine foldl_mvO pf (nowF s.2.2.1 t) (nowF s'.2.2.1 t) (mvT jf) (throwsL s) [] fun x hx a => ?_
    unfold nowF
    have e : (mvT jf x).born = x.born := rfl
    have e2 : fl (mvT jf x).jet = fl x.jet := hf x hx
    rw [e, e2]
    by_cases hc : x.born ≤ t ∧ t < x.born + fl x.jet
    · rw [if_pos hc, if_pos hc, List.map_append, hd x hx _ (by omega)]; rfl
    · rw [if_neg hc, if_neg hc]
  · refine foldl_mvO pf (allF s.2.2.1) (allF s'.2.2.1) (mvT jf) (throwsL s) [] fun x hx a => ?_
    unfold allF
    have e2 : fl (mvT jf x).jet = fl x.jet := hf x hx
    have hb := fl_bound x.jet
    rw [e2, List.map_append, hd x hx _ (by omega)]; rfl
/-! ### Turned shows -/
theorem mvD_keeps (n : Int) : Keeps (mvD n) := ⟨fun _ => rfl, fun _ => rfl, fun _ => rfl, fun _ => rfl⟩
def tnJ (n : Int) (j : Jet) : Jet := ⟨rt (q4 n) j.At, hd4 j.Heading n, j.Tilt, j.Lift⟩
theorem hd4_nat {h n : Int} (hh : 0 ≤ h ∧ h ≤ 3) : (hd4 h n).toNat = (h.toNat + q4 n) % 4 ∧ 0 ≤ hd4 h n ∧ hd4 h n ≤ 3 := by
  unfold hd4 q4
  rw [if_pos (wi_of hh.1 hh.2)]
  omega
theorem rt_jet {m : Int} {p : Place} (h : Sm m p) (k : Nat) : Sm m (rt k p) := rt_sm h k
theorem tn_ok {j : Jet} (h : isJet j = true) (n : Int) : isJet (tnJ n j) = true := by
  have J := jet_ok h
  have hs : Sm 1024 j.At := ⟨J.x, J.y⟩
  have hr := rt_sm hs (q4 n)
  have hh := hd4_nat (n := n) J.h
  have h1 := J.t; have h2 := J.l
  unfold isJet tnJ
  simp only
  rw [wi_of hr.1.1 hr.1.2, wi_of hr.2.1 hr.2.2, wi_of hh.2.1 hh.2.2, wi_of h1.1 h1.2, wi_of h2.1 h2.2]
  rfl
theorem tn_fl {j : Jet} (h : isJet j = true) (n : Int) : fl (tnJ n j) = fl j := by
  unfold fl
  rw [if_pos h, if_pos (tn_ok h n)]
  rfl
theorem tn_pN {j : Jet} (h : isJet j = true) (n t : Int) : pN (tnJ n j) t = rt (q4 n) (pN j t) := by
  have J := jet_ok h
  have hh := hd4_nat (n := n) J.h
  have hk : j.Heading.toNat < 4 := by have := J.h; omega
  unfold pN
  rw [rt_add, rt_rt hk (q4_lt n)]
  unfold tnJ
  simp only
  rw [hh.1]
theorem tn_drL (n : Int) (w : List Gust) (hw : WdSm w) (t : Int) : drL (w.map (mvG n)) t = rt (q4 n) (drL w t) := by
  unfold drL
  have : ∀ (l : List Gust) (a : Place), (∀ g ∈ l, Sm 8 g.Drift) → (l.map (mvG n)).foldl (drF t) (rt (q4 n) a) = rt (q4 n) (l.foldl (drF t) a) := fun l => by
    induction l with
    | nil => intro a _; rfl
    | cons g l ih =>
      intro a hl
      rw [List.map_cons, List.foldl_cons, List.foldl_cons]
      have hg := hl g (by simp)
      have e : drF t (rt (q4 n) a) (mvG n g) = rt (q4 n) (drF t a g) := by
        unfold drF mvG
        simp only
        by_cases hc : g.From ≤ t
        · rw [if_pos hc, if_pos hc, rot_rt (m := 8) (by omega) hg (q4_lt n)]
        · rw [if_neg hc, if_neg hc]
      rw [e]
      exact ih _ fun g' hg' => hl g' (by simp [hg'])
  have h0 := this w ⟨0, 0⟩ hw
  rw [rt_zero] at h0
  exact h0
theorem tn_dS (n : Int) (w : List Gust) (hw : WdSm w) (a : Int) : ∀ m : Nat, dS (w.map (mvG n)) a m = rt (q4 n) (dS w a m)
  | 0 => (rt_zero _).symm
  | m + 1 => by
    unfold dS
    rw [tn_dS n w hw a m, tn_drL n w hw, rt_add]
theorem tn_wd {n : Int} {w : List Gust} (hw : WdSm w) : WdSm (w.map (mvG n)) := fun g hg => by
  obtain ⟨g0, h0, rfl⟩ := List.mem_map.mp hg
  unfold mvG
  have := rt_sm (hw g0 h0) (q4 n)
  rw [← rot_rt (m := 8) (by omega) (hw g0 h0) (q4_lt n)] at this
  exact this
theorem tn_ht {j : Jet} (h : isJet j = true) (n t : Int) : ht (tnJ n j) t = ht j t := by
  unfold ht
  rw [h, tn_ok h n]
  rfl
theorem turned_throws {s : ShowT} (h : ShowV s) (n : Int) : throwsL (mvS n s) = (throwsL s).map (mvT (tnJ n)) := by
  refine throws_map h (mvD_keeps n) _ (tnJ n) fun d hd hk x => ?_
  have hb := dev_bound (h.rig.dev d hd)
  unfold mvD tnJ
  simp only [if_pos hk]
  rw [rot_rt (m := 4096) (by omega) ⟨hb.1, hb.2.1⟩ (q4_lt n)]
theorem turned_drops {s : ShowT} (h : ShowV s) (n t : Int) : nowL (mvS n s) t = (nowL s t).map (mvO (rt (q4 n))) ∧ landL (mvS n s) = (landL s).map (mvO (rt (q4 n))) := by
  have hw := wind_sm (wind_p h)
  refine drops_map (tnJ n) (rt (q4 n)) (turned_throws h n) (fun x hx => tn_fl (throws_fly h hx).jet n) (fun x hx m hm => ?_) t
  have hf := throws_fly h hx
  have hf' : FliesP (mvT (tnJ n) x) := ⟨hf.born, tn_ok hf.jet n⟩
  have e1 := (drop_at hw hf hm).1
  have e2 := (drop_at (tn_wd (n := n) hw) hf' (show (m : Int) ≤ fl (mvT (tnJ n) x).jet by show _ ≤ fl (tnJ n x.jet); rw [tn_fl hf.jet n]; exact hm)).1
  have hs : (mvS n s).2.2.1 = s.2.2.1.map (mvG n) := rfl
  rw [hs, e2, e1]
  unfold mvO mvT
  simp only
  rw [tn_pN hf.jet, tn_dS n _ hw, tn_ht hf.jet, rt_add]
/-! ### Moved shows -/
def shJ (by_ : Place) (j : Jet) : Jet := ⟨add j.At by_, j.Heading, j.Tilt, j.Lift⟩
theorem sh_pN (by_ : Place) (j : Jet) (t : Int) : pN (shJ by_ j) t = add (pN j t) by_ := by
  unfold pN shJ add
  exact place_ext (by simp only; omega) (by simp only; omega)
/-! ### Moved shows are valid -/
section
variable {f : Device → Device} (F : Keeps f)
include F
theorem fndFrom_map (s : Str) : ∀ (l : List Device) (i : Nat), fndFrom s i (l.map f) = fndFrom s i l
  | [], i => rfl
  | d :: l, i => by simp only [List.map_cons, fndFrom, F.name, fndFrom_map s l]
theorem fnd_map (l : List Device) (s : Str) : fnd (l.map f) s = fnd l s := fndFrom_map F s l 0
theorem hung_map (l : List Device) (d : Device) : hungB (l.map f) (f d) = hungB l d := by
  unfold hungB
  rw [F.kind, F.line, fnd_map F]
  congr 2
  unfold kindAt
  rw [List.getElem?_map]
  cases l[(fnd l d.Line).toNat]? with
  | none => rfl
  | some x => simp only [Option.map_some, Option.getD_some, F.kind]
theorem rig_map {l : List Device} (h : RigP l) (hd : ∀ d ∈ l, devB (f d) = true) : RigP (l.map f) := by
  refine ⟨by simpa using h.len, fun d hm => ?_, fun i d e h1 h2 => ?_, fun d hm => ?_⟩
  · obtain ⟨x, hx, rfl⟩ := List.mem_map.mp hm
    exact hd x hx
  · rw [List.getElem?_map] at h1 h2
    cases h3 : l[i]? with
    | none => rw [h3] at h1; cases h1
    | some a =>
      cases h4 : l[i + 1]? with
      | none => rw [h4] at h2; cases h2
      | some b =>
        rw [h3] at h1; rw [h4] at h2
        simp only [Option.map_some, Option.some.injEq] at h1 h2
        subst h1 h2
        rw [F.name, F.name]
        exact h.lt i a b h3 h4
  · obtain ⟨x, hx, rfl⟩ := List.mem_map.mp hm
    rw [hung_map F]
    exact h.hung x hx
end
theorem show_valid {r : List Device} {sc : List Cue} {w : List Gust} {T : Int} (hr : RigP r) (hs : ScoreP sc) (hw : WindP w) (hT : 0 ≤ T ∧ T ≤ 64) : ShowV (r, sc, w, T, ()) := by
  have l1 := hr.len; have l2 := hs.len; have l3 := hw.len
  have hok : ShowOK (r, sc, w, T, ()) := by
    constructor
    all_goals first
      | exact rig_devs hr
      | exact score_names hs
      | (show r.length ≤ 1048576; omega)
      | (show sc.length ≤ 1048576; omega)
      | (show w.length ≤ 1048576; omega)
  exact ⟨hok, hr, (scB_iff (score_names hs) (show sc.length ≤ 1048576 by omega)).2 hs, (wdB_iff (show w.length ≤ 1048576 by omega)).2 hw, hT⟩
theorem tn_wind {w : List Gust} (h : WindP w) (n : Int) : WindP (w.map (mvG n)) := by
  refine ⟨by simpa using h.len, fun g hg => ?_, fun i a b h1 h2 => ?_⟩
  · have := tn_wd (n := n) (wind_sm h) g hg
    obtain ⟨x, hx, rfl⟩ := List.mem_map.mp hg
    refine ⟨(h.gust x hx).1, ?_⟩
    unfold isDr
    rw [wi_of this.1.1 this.1.2, wi_of this.2.1 this.2.2]; rfl
  · rw [List.getElem?_map] at h1 h2
    cases h3 : w[i]? with
    | none => rw [h3] at h1; cases h1
    | some x =>
      cases h4 : w[i + 1]? with
      | none => rw [h4] at h2; cases h2
      | some y =>
        rw [h3] at h1; rw [h4] at h2
        simp only [Option.map_some, Option.some.injEq] at h1 h2
        subst h1 h2
        exact h.lt i x y h3 h4
theorem turned_valid {s : ShowT} (h : ShowV s) (n : Int) : ShowV (mvS n s) :=
  show_valid (rig_map (mvD_keeps n) h.rig fun d hd => mv_ok n (h.rig.dev d hd)) (score_p h) (tn_wind (wind_p h) n) h.tick
theorem turned_water {s : ShowT} (h : ShowV s) (n : Int) : ∀ m, waterAt (mvS n s) m = waterAt s m
  | 0 => rfl
  | m + 1 => by
    unfold waterAt
    rw [turned_water h n m]
    have : liftsL (mvS n s) (m : Int) = liftsL s (m : Int) := lifts_map (mvD_keeps n) s.1 s.2.1 s.2.2.1 _ s.2.2.2.1 _
    rw [this]
end Ev
