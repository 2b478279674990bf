/- The worst drifts, and the first drop that one of them makes land outside. The wind that makes a show wet, and the show whose lifts are limited. -/
import Derived.Test.YtnoodoiehlcblaaGreatDropA
set_option linter.unusedVariables false
set_option linter.unusedSimpArgs false
set_option maxRecDepth 100000
namespace Ev
open Go
/-- A loop that is left at the first of its states at which something holds. -/
theorem iterF_findN {R T : Type} {f : T → (T → Option R) → (T → Option R) → Option R} {K : T → Option R} (st : Nat → T) (p : Nat → Bool) (r : Nat → Option R) (n : Nat)
    (hs : ∀ i, i < n → ∀ rec K, f (st i) rec K = cond (p i) (r i) (rec (st (i + 1)))) (he : ∀ rec K, f (st n) rec K = K (st n)) :
    ∀ (d i m : Nat), i + d = n → d < m → iterF f m (st i) K = match (List.range' i d).find? p with | some k => r k | none => K (st n) := by
  intro d
  induction d with
  | zero =>
    intro i m h1 h2
    obtain ⟨m, rfl⟩ : ∃ k, m = k + 1 := ⟨m - 1, by omega⟩
    have : i = n := by omega
    subst this
    rw [iterF_succ, he]; rfl
  | succ d ih =>
    intro i m h1 h2
    obtain ⟨m, rfl⟩ : ∃ k, m = k + 1 := ⟨m - 1, by omega⟩
    rw [iterF_succ, hs i (by omega), ih (i + 1) m (by omega) (by omega), List.range'_succ, List.find?_cons]
    cases p i <;> rfl
theorem iterF_find {R T : Type} {f : T → (T → Option R) → (T → Option R) → Option R} {K : T → Option R} (st : Nat → T) (p : Nat → Bool) (r : Nat → Option R) (n : Nat) (hn : n ≤ 18446744073709551616)
    (hs : ∀ i, i < n → ∀ rec K, f (st i) rec K = cond (p i) (r i) (rec (st (i + 1)))) (he : ∀ rec K, f (st n) rec K = K (st n)) :
    iterF f fuel (st 0) K = match (List.range n).find? p with | some k => r k | none => K (st n) := by
  rw [List.range_eq_range']
  exact iterF_findN st p r n hs he n 0 fuel (by omega) (by rw [fuel_eq]; omega)
/-! ### The worst drift -/
def rotX (h : Int) (p : Place) : Int := (rotN (q4 (w64 (0 - h))) p).X
def wdF (h : Int) (a p : Place) : Place := if rotX h p > rotX h a then p else a
def wdV (h : Int) (r : List Place) : Place := match r with
  | [] => ⟨0, 0⟩
  | p :: _ => r.foldl (wdF h) p
theorem turnS_x (p : Place) (h : Int) : G132 (p, w64 (0 - h), ()) = some (rotN (q4 (w64 (0 - h))) p, ()) := turnS' p _
theorem turnI_x (p : Place) (h : Int) : G164 (p, w64 (0 - h), ()) = some (rotN (q4 (w64 (0 - h))) p, ()) := turnI' p _
theorem worstS_is (r : List Place) (hr : r.length ≤ 4) (h1 : 1 ≤ r.length) (hv : G69 (r, ()) = some (true, ())) {h : Int} (hh : 0 ≤ h ∧ h ≤ 3) : G80 (r, h, ()) = some (wdV h r, ()) := by
  obtain ⟨p0, l, rfl⟩ : ∃ p l, r = p :: l := by
    cases r with
    | nil => simp at h1
    | cons p l => exact ⟨p, l, rfl⟩
  unfold G80 F80
  dsimp only
  have hd : G131 (h, ()) = some (wi h 0 3, ()) := headS h
  rw [hv]
  simp only [Option.bind_some, Bool.not_true, cond_false, hd, wi_of hh.1 hh.2]
  generalize hrr : p0 :: l = r at hr h1 hv ⊢
  have hr0 : r[0]? = some p0 := by rw [← hrr]; rfl
  have := iterF_for (f := s80_0 G69 G131 G132) (K := fun t6 => some (t6.2.2.1, ())) (fun i => (h, ⟨0, 0⟩, (if i = 0 then ⟨0, 0⟩ else (r.take i).foldl (wdF h) p0), r, Int.ofNat r.length, (i : Int), ())) r.length (by omega)
    (by
      intro i hi rec K
      have hx : r[i]? = some r[i] := by simp
      have e1 : w64 ((i : Int) + 1) = ((i + 1 : Nat) : Int) := w64_id (by omega) (by omega)
      rw [if_neg (show ¬ i + 1 = 0 by omega)]
      simp only [s80_0]
      rw [cond_true_dec (by simp; omega), rdL_at hx, e1, fold_take _ _ r i hi]
      by_cases hz : i = 0
      · subst hz
        have : r[0] = p0 := by rw [hx] at hr0; exact Option.some.inj hr0
        rw [this]
        simp [wdF]
      · rw [decide_eq_false (show ¬ (i : Int) = 0 by omega), if_neg hz]
        simp only [Bool.not_false, cond_true, turnS_x, Option.bind_some]
        generalize (r.take i).foldl (wdF h) p0 = acc
        unfold wdF
        by_cases hc : rotX h r[i] > rotX h acc
        · rw [if_pos hc]; unfold rotX at hc; rw [cond_true_dec hc]
        · rw [if_neg hc]; unfold rotX at hc; rw [cond_false_dec hc])
    (by
      intro rec K
      simp only [s80_0]
      rw [cond_false_dec (by simp)])
  refine this.trans ?_
  simp only [if_neg (show ¬ r.length = 0 by omega), List.take_length]
  subst hrr
  rfl
theorem worstI_is (r : List Place) (hr : r.length ≤ 4) (h1 : 1 ≤ r.length) (hv : G72 (r, ()) = some (true, ())) {h : Int} (hh : 0 ≤ h ∧ h ≤ 3) : G133 (r, h, ()) = some (wdV h r, ()) := by
  obtain ⟨p0, l, rfl⟩ : ∃ p l, r = p :: l := by
    cases r with
    | nil => simp at h1
    | cons p l => exact ⟨p, l, rfl⟩
  unfold G133 F133
  dsimp only
  have hd : G163 (h, ()) = some (wi h 0 3, ()) := headI h
  rw [hv]
  simp only [Option.bind_some, Bool.not_true, cond_false, hd, wi_of hh.1 hh.2]
  generalize hrr : p0 :: l = r at hr h1 hv ⊢
  have hr0 : r[0]? = some p0 := by rw [← hrr]; rfl
  have hr0' := fun (K : Place → Option (Place × Unit)) => rdL_at (i := 0) (K := K) hr0
  simp only [Int.ofNat_zero, Int.natCast_zero] at hr0'
  rw [hr0']
  have := iterF_for (f := s133_0 G72 G163 G164) (K := fun t6 => some (t6.2.2.1, ())) (fun i => (h, ⟨0, 0⟩, (r.take i).foldl (wdF h) p0, r, Int.ofNat r.length, (i : Int), ())) r.length (by omega)
    (by
      intro i hi rec K
      have hx : r[i]? = some r[i] := by simp
      have e1 : w64 ((i : Int) + 1) = ((i + 1 : Nat) : Int) := w64_id (by omega) (by omega)
      simp only [s133_0]
      rw [cond_true_dec (by simp; omega), rdL_at hx, e1, fold_take _ _ r i hi]
      simp only [turnI_x, Option.bind_some]
      generalize (r.take i).foldl (wdF h) p0 = acc
      unfold wdF
      by_cases hc : rotX h r[i] > rotX h acc
      · rw [if_pos hc]; unfold rotX at hc; rw [cond_true_dec hc]
      · rw [if_neg hc]; unfold rotX at hc; rw [cond_false_dec hc])
    (by
      intro rec K
      simp only [s133_0]
      rw [cond_false_dec (by simp)])
  refine this.trans ?_
  simp only [List.take_length]
  subst hrr
  rfl
end Ev

namespace Ev
open Go
/-- A loop that is left with the first thing that is found. -/
theorem iterF_getN {R T A : Type} {f : T → (T → Option R) → (T → Option R) → Option R} {K : T → Option R} (st : Nat → T) (q : Nat → Option A) (r : A → Option R) (n : Nat)
    (hs : ∀ i, i < n → ∀ rec K, f (st i) rec K = (q i).elim (rec (st (i + 1))) r) (he : ∀ rec K, f (st n) rec K = K (st n)) :
    ∀ (d i m : Nat), i + d = n → d < m → iterF f m (st i) K = ((List.range' i d).findSome? q).elim (K (st n)) r := by
  intro d
  induction d with
  | zero =>
    intro i m h1 h2
    obtain ⟨m, rfl⟩ : ∃ k, m = k + 1 := ⟨m - 1, by omega⟩
    have : i = n := by omega
    subst this
    rw [iterF_succ, he]; rfl
  | succ d ih =>
    intro i m h1 h2
    obtain ⟨m, rfl⟩ : ∃ k, m = k + 1 := ⟨m - 1, by omega⟩
    rw [iterF_succ, hs i (by omega), ih (i + 1) m (by omega) (by omega), List.range'_succ, List.findSome?_cons]
    cases q i <;> rfl
theorem iterF_get {R T A : Type} {f : T → (T → Option R) → (T → Option R) → Option R} {K : T → Option R} (st : Nat → T) (q : Nat → Option A) (r : A → Option R) (n : Nat) (hn : n ≤ 18446744073709551616)
    (hs : ∀ i, i < n → ∀ rec K, f (st i) rec K = (q i).elim (rec (st (i + 1))) r) (he : ∀ rec K, f (st n) rec K = K (st n)) :
    iterF f fuel (st 0) K = ((List.range n).findSome? q).elim (K (st n)) r := by
  rw [List.range_eq_range']
  exact iterF_getN st q r n hs he n 0 fuel (by omega) (by rw [fuel_eq]; omega)
def wq (r : List Place) (x : Throw) (h : Nat) : Place := plus (landP x.jet).1 ⟨w64 (fl x.jet * (wdV (h : Int) r).X), w64 (fl x.jet * (wdV (h : Int) r).Y)⟩
def sideB (p : Place) (c : Box) (h : Nat) : Bool := if h = 0 then decide (p.X > c.High.X) else if h = 1 then decide (p.Y > c.High.Y) else if h = 2 then decide (p.X < c.Low.X) else decide (p.Y < c.Low.Y)
def hitH (r : List Place) (c : Box) (x : Throw) : Option Nat := (List.range 4).findSome? fun h => if sideB (wq r x h) c h = true then some h else none
def hitL (r : List Place) (c : Box) (l : List Throw) : Option (Throw × Nat) := (List.range l.length).findSome? fun i => (l[i]?).bind fun x => (hitH r c x).map fun h => (x, h)
theorem hitH_lt {r : List Place} {c : Box} {x : Throw} {h : Nat} (e : hitH r c x = some h) : h < 4 ∧ sideB (wq r x h) c h = true := by
  unfold hitH at e
  obtain ⟨k, hk, e⟩ := List.exists_of_findSome?_eq_some e
  have hk : k < 4 := by simpa using hk
  split at e
  · cases e; exact ⟨hk, by assumption⟩
  · cases e
theorem hitL_of {r : List Place} {c : Box} {l : List Throw} {x : Throw} {h : Nat} (e : hitL r c l = some (x, h)) : x ∈ l ∧ hitH r c x = some h := by
  unfold hitL at e
  obtain ⟨i, hi, e⟩ := List.exists_of_findSome?_eq_some e
  cases hx : l[i]? with
  | none => rw [hx] at e; cases e
  | some y =>
    rw [hx] at e
    simp only [Option.bind_some] at e
    cases hh : hitH r c y with
    | none => rw [hh] at e; cases e
    | some k =>
      rw [hh] at e
      simp only [Option.map_some, Option.some.injEq, Prod.mk.injEq] at e
      obtain ⟨rfl, rfl⟩ := e
      exact ⟨List.mem_iff_getElem?.mpr ⟨i, hx⟩, hh⟩
theorem hitL_none {r : List Place} {c : Box} {l : List Throw} (e : hitL r c l = none) : ∀ x ∈ l, ∀ h, h < 4 → sideB (wq r x h) c h = false := by
  intro x hx h hh
  unfold hitL at e
  rw [List.findSome?_eq_none_iff] at e
  obtain ⟨i, hi⟩ := List.mem_iff_getElem?.mp hx
  have := e i (by simpa using (List.getElem?_eq_some_iff.mp hi).1)
  rw [hi] at this
  simp only [Option.bind_some] at this
  cases hk : hitH r c x with
  | some k => rw [hk] at this; cases this
  | none =>
    unfold hitH at hk
    rw [List.findSome?_eq_none_iff] at hk
    have := hk h (by simpa using hh)
    cases hs : sideB (wq r x h) c h
    · rfl
    · rw [hs] at this; simp at this
theorem sideS_is (p : Place) (c : Box) (h : Nat) (hh : h < 4) : G129 (p, c, (h : Int), ()) = some (sideB p c h, ()) := by
  rcases k4 hh with rfl | rfl | rfl | rfl <;> rfl
theorem sideI_is (p : Place) (c : Box) (h : Nat) (hh : h < 4) : G134 (p, c, (h : Int), ()) = some (sideB p c h, ()) := by
  rcases k4 hh with rfl | rfl | rfl | rfl <;> rfl
theorem landS_x (j : Jet) : G121 (j, ()) = some ((landP j).1, (landP j).2, ()) := landS j
theorem landI_x (j : Jet) : G127 (j, ()) = some ((landP j).1, (landP j).2, ()) := landI j
def noThrow : Throw := ⟨[], 0, ⟨⟨0, 0⟩, 0, 0, 0⟩⟩
section
variable {r : List Place} (hr : r.length ≤ 4) (h1 : 1 ≤ r.length) (hS : G69 (r, ()) = some (true, ())) (hI : G72 (r, ()) = some (true, ()))
include hr h1 hS in
theorem innerS (c : Box) (x : Throw) (l : List Throw) (n i0 : Int) (K : List Place × Box × Throw × Throw × Place × Int × List Throw × Int × Int × Unit → Option (Throw × Int × Bool × Unit)) :
    iterF (s78_2 G48 G121 G80 G49 G100 G129) fuel (r, c, noThrow, x, (landP x.jet).1, 0, l, n, i0, ()) K = (hitH r c x).elim (K (r, c, noThrow, x, (landP x.jet).1, 4, l, n, i0, ())) (fun h => some (x, (h : Int), true, ())) := by
  refine iterF_get (f := s78_2 G48 G121 G80 G49 G100 G129) (K := K) (fun h => (r, c, noThrow, x, (landP x.jet).1, (h : Int), l, n, i0, ())) (fun h => if sideB (wq r x h) c h = true then some h else none) (fun h => some (x, (h : Int), true, ())) 4 (by omega) ?_ ?_
  · intro h hh rec K
    have e1 : w64 ((h : Int) + 1) = ((h + 1 : Nat) : Int) := w64_id (by omega) (by omega)
    simp only [s78_2]
    rw [cond_true_dec (by omega), worstS_is r hr h1 hS (by omega)]
    simp only [Option.bind_some, flS_is, add_is]
    have hq : plus (landP x.jet).1 ⟨w64 (fl x.jet * (wdV (h : Int) r).X), w64 (fl x.jet * (wdV (h : Int) r).Y)⟩ = wq r x h := rfl
    rw [hq, sideS_is _ c h hh, e1]
    simp only [Option.bind_some]
    cases sideB (wq r x h) c h <;> rfl
  · intro rec K
    simp only [s78_2]
    rw [cond_false_dec (by omega)]
include hr h1 hI in
theorem innerI (c : Box) (x : Throw) (l : List Throw) (n i0 : Int) (K : List Place × Box × Throw × Place × Place × Throw × Place × Int × List Throw × Int × Int × Int × Unit → Option (Throw × Place × Place × Bool × Unit)) :
    iterF (s81_2 G72 G67 G54 G127 G107 G133 G134) fuel (r, c, noThrow, ⟨0, 0⟩, ⟨0, 0⟩, x, (landP x.jet).1, fl x.jet, l, n, i0, 0, ()) K = (hitH r c x).elim (K (r, c, noThrow, ⟨0, 0⟩, ⟨0, 0⟩, x, (landP x.jet).1, fl x.jet, l, n, i0, 4, ())) (fun h => some (x, wq r x h, wdV (h : Int) r, true, ())) := by
  refine iterF_get (f := s81_2 G72 G67 G54 G127 G107 G133 G134) (K := K) (fun h => (r, c, noThrow, ⟨0, 0⟩, ⟨0, 0⟩, x, (landP x.jet).1, fl x.jet, l, n, i0, (h : Int), ())) (fun h => if sideB (wq r x h) c h = true then some h else none) (fun h => some (x, wq r x h, wdV (h : Int) r, true, ())) 4 (by omega) ?_ ?_
  · intro h hh rec K
    have e1 : w64 ((h : Int) + 1) = ((h + 1 : Nat) : Int) := w64_id (by omega) (by omega)
    simp only [s81_2]
    rw [cond_true_dec (by omega), worstI_is r hr h1 hI (by omega)]
    simp only [Option.bind_some]
    have hq : (⟨w64 ((landP x.jet).1.X + w64 (fl x.jet * (wdV (h : Int) r).X)), w64 ((landP x.jet).1.Y + w64 (fl x.jet * (wdV (h : Int) r).Y))⟩ : Place) = wq r x h := rfl
    rw [hq, sideI_is _ c h hh, e1]
    simp only [Option.bind_some, both_self']
    cases sideB (wq r x h) c h <;> rfl
  · intro rec K
    simp only [s81_2]
    rw [cond_false_dec (by omega)]
include hr h1 hS in
theorem wetLS (c : Box) (l : List Throw) (hl : l.length ≤ 1048576) (K : List Place × Box × Throw × List Throw × Int × Int × Unit → Option (Throw × Int × Bool × Unit)) :
    iterF (s78_0 G48 G121 G80 G49 G100 G129) fuel (r, c, noThrow, l, Int.ofNat l.length, 0, ()) K = (hitL r c l).elim (K (r, c, noThrow, l, Int.ofNat l.length, Int.ofNat l.length, ())) (fun a => some (a.1, (a.2 : Int), true, ())) := by
  refine iterF_get (f := s78_0 G48 G121 G80 G49 G100 G129) (K := K) (fun i => (r, c, noThrow, l, Int.ofNat l.length, (i : Int), ())) (fun i => (l[i]?).bind fun x => (hitH r c x).map fun h => (x, h)) (fun a => some (a.1, (a.2 : Int), true, ())) l.length (by omega) ?_ ?_
  · intro i hi rec K
    have hx : l[i]? = some l[i] := by simp
    have hx' := fun (K : Throw → Option (Throw × Int × Bool × Unit)) => rdL_at (K := K) hx
    have e1 : w64 ((i : Int) + 1) = ((i + 1 : Nat) : Int) := w64_id (by omega) (by omega)
    simp only [s78_0]
    rw [cond_true_dec (by simp; omega)]
    simp only [hx', hx, Int.toNat_natCast, Option.bind_some, landS_x]
    rw [innerS hr h1 hS, e1]
    cases hitH r c l[i] <;> rfl
  · intro rec K
    simp only [s78_0]
    rw [cond_false_dec (by simp)]
include hr h1 hI in
theorem wetLI (c : Box) (l : List Throw) (hl : l.length ≤ 1048576) (K : List Place × Box × Throw × Place × Place × List Throw × Int × Int × Unit → Option (Throw × Place × Place × Bool × Unit)) :
    iterF (s81_0 G72 G67 G54 G127 G107 G133 G134) fuel (r, c, noThrow, ⟨0, 0⟩, ⟨0, 0⟩, l, Int.ofNat l.length, 0, ()) K = (hitL r c l).elim (K (r, c, noThrow, ⟨0, 0⟩, ⟨0, 0⟩, l, Int.ofNat l.length, Int.ofNat l.length, ())) (fun a => some (a.1, wq r a.1 a.2, wdV (a.2 : Int) r, true, ())) := by
  refine iterF_get (f := s81_0 G72 G67 G54 G127 G107 G133 G134) (K := K) (fun i => (r, c, noThrow, ⟨0, 0⟩, ⟨0, 0⟩, l, Int.ofNat l.length, (i : Int), ())) (fun i => (l[i]?).bind fun x => (hitH r c x).map fun h => (x, h)) (fun a => some (a.1, wq r a.1 a.2, wdV (a.2 : Int) r, true, ())) l.length (by omega) ?_ ?_
  · intro i hi rec K
    have hx : l[i]? = some l[i] := by simp
    have hx' := fun (K : Throw → Option (Throw × Place × Place × Bool × Unit)) => rdL_at (K := K) hx
    have e1 : w64 ((i : Int) + 1) = ((i + 1 : Nat) : Int) := w64_id (by omega) (by omega)
    simp only [s81_0]
    rw [cond_true_dec (by simp; omega)]
    simp only [hx', hx, Int.toNat_natCast, Option.bind_some, landI_x, flI_is]
    rw [innerI hr h1 hI, e1]
    cases hitH r c l[i] <;> rfl
  · intro rec K
    simp only [s81_0]
    rw [cond_false_dec (by simp)]
end
/-- A wind with one drift. -/
def stL (d : Place) : List Gust := if d.X = 0 ∧ d.Y = 0 then [] else [⟨0, ⟨d.X, d.Y⟩⟩]
theorem stL_len (d : Place) : (stL d).length ≤ 1 := by unfold stL; split <;> simp
theorem changes_one (d : Place) : G82 (([⟨0, ⟨d.X, d.Y⟩⟩] : List Gust), ()) = some (stL d, ()) := by
  obtain ⟨dx, dy⟩ := d
  unfold G82 F82
  refine iterF_for (f := s82_0) (K := fun t3 => some (t3.1, ())) (fun i => ((if i = 0 then [] else stL ⟨dx, dy⟩), (if i = 0 then ⟨0, 0⟩ else ⟨dx, dy⟩), ([⟨0, ⟨dx, dy⟩⟩] : List Gust), Int.ofNat ([⟨0, ⟨dx, dy⟩⟩] : List Gust).length, (i : Int), ())) 1 (by omega) ?_ ?_
  · intro i hi rec K
    have : i = 0 := by omega
    subst this
    have hx : ([⟨0, ⟨dx, dy⟩⟩] : List Gust)[0]? = some ⟨0, ⟨dx, dy⟩⟩ := rfl
    have e1 : w64 (((0 : Nat) : Int) + 1) = ((0 + 1 : Nat) : Int) := w64_id (by omega) (by omega)
    simp only [s82_0]
    rw [cond_true_dec (by simp), rdL_at hx, e1, capK_le (by simp)]
    unfold stL
    by_cases c1 : dx = 0
    · by_cases c2 : dy = 0
      · subst c1 c2; rfl
      · simp [c1, c2]
    · simp [c1]
  · intro rec K
    simp only [s82_0]
    rw [cond_false_dec (by simp)]
theorem steady_is (d : Place) : G79 (d, ()) = some (stL d, ()) := by
  obtain ⟨dx, dy⟩ := d
  unfold G79 F79 G130 F130
  have := iterF_for (f := s130_0) (K := fun t3 => some (t3.1, ())) (fun i => ((if i = 0 then [] else stL ⟨dx, dy⟩), (if i = 0 then ⟨0, 0⟩ else ⟨dx, dy⟩), ([⟨dx, dy⟩] : List Place), Int.ofNat ([⟨dx, dy⟩] : List Place).length, (i : Int), ())) 1 (by omega)
    (by
      intro i hi rec K
      have : i = 0 := by omega
      subst this
      have hx : ([⟨dx, dy⟩] : List Place)[0]? = some ⟨dx, dy⟩ := rfl
      have e1 : w64 (((0 : Nat) : Int) + 1) = ((0 + 1 : Nat) : Int) := w64_id (by omega) (by omega)
      simp only [s130_0]
      rw [cond_true_dec (by simp), rdL_at hx, e1, capK_le (by simp)]
      unfold stL
      by_cases c1 : dx = 0
      · by_cases c2 : dy = 0
        · subst c1 c2; rfl
        · simp [c1, c2]
      · simp [c1])
    (by
      intro rec K
      simp only [s130_0]
      rw [cond_false_dec (by simp)])
  have this : iterF s130_0 fuel (([] : List Gust), (⟨0, 0⟩ : Place), [⟨dx, dy⟩], Int.ofNat [(⟨dx, dy⟩ : Place)].length, 0, ()) (fun t3 => some (t3.1, ())) = some (stL ⟨dx, dy⟩, ()) := this
  rw [this]; rfl
noncomputable def wwL (s : ShowT) (r : List Place) (c : Box) : Option (Throw × Nat) := hitL r c (throwsL s)
theorem wetDrop_is {s : ShowT} (h : ShowV s) {r : List Place} (hr : r.length ≤ 1048576) (hI : G72 (r, ()) = some (true, ())) {c : Box} (hc : isBx c = true) :
    G81 (s, r, c, ()) = (wwL s r c).elim (some (noThrow, ⟨0, 0⟩, ⟨0, 0⟩, false, ())) (fun a => some (a.1, wq r a.1 a.2, wdV (a.2 : Int) r, true, ())) := by
  obtain ⟨b, q1, q2, q3⟩ := roseI_is r hr
  have hb : b = true := by rw [hI] at q1; cases q1; rfl
  obtain ⟨p1, p2, _⟩ := q3 hb
  have hl := throwsL_len h
  unfold G81 F81 wwL
  simp only [es_show, hI, Option.bind_some, Bool.not_true, Bool.not_false, cond_true, cond_false, boxI_is, hc]
  rw [allI_is h]
  simp only [Option.bind_some]
  refine (wetLI p2 p1 hI c (throwsL s) (by omega) _).trans ?_
  cases hitL r c (throwsL s) <;> rfl
theorem wet10_is {s : ShowT} (h : ShowV s) {r : List Place} (hr : r.length ≤ 1048576) (hS : G69 (r, ()) = some (true, ())) (c : Box) :
    G78 (s, r, c, ()) = (wwL s r c).elim (some (noThrow, 0, false, ())) (fun a => some (a.1, (a.2 : Int), true, ())) := by
  obtain ⟨b, q1, q2, q3⟩ := roseI_is r hr
  have hb : b = true := by rw [hS] at q2; cases q2; rfl
  obtain ⟨p1, p2, _⟩ := q3 hb
  have hl := throwsL_len h
  unfold G78 F78 wwL
  simp only [es_show]
  rw [allS_is h]
  simp only [Option.bind_some]
  refine (wetLS p2 p1 hS c (throwsL s) (by omega) _).trans ?_
  cases hitL r c (throwsL s) <;> rfl
theorem wetWind_ok (s : ShowT) (h : ShowOK s) (r : List Place) (hr : r.length ≤ 1048576) (c : Box) : ∃ (L : List Gust) (b : Bool), G35 (s, r, c, ()) = some (L, b, ()) ∧ G36 (s, r, c, ()) = some (L, b, ()) ∧ L.length ≤ 1 := by
  obtain ⟨b, r1, r2, r3⟩ := roseI_is r hr
  unfold G35 F35 G36 F36
  simp only [es_show]
  rw [showS_is s h, r2]
  simp only [Option.bind_some, boxS_is]
  by_cases hgo : showB s = true ∧ b = true ∧ isBx c = true
  · obtain ⟨hb, rfl, hc⟩ := hgo
    have hv := showV_of h hb
    obtain ⟨p1, p2, _⟩ := r3 rfl
    rw [hb, hc, wet10_is hv hr r2, wetDrop_is hv hr r1 hc]
    simp only [Bool.not_true, Bool.not_false, cond_true, cond_false]
    cases hw : wwL s r c with
    | none => exact ⟨[], false, rfl, rfl, by simp⟩
    | some a =>
      obtain ⟨x, k⟩ := a
      have hk := (hitH_lt (hitL_of hw).2).1
      refine ⟨stL (wdV (k : Int) r), true, ?_, ?_, by have := stL_len (wdV (k : Int) r); omega⟩
      · simp only [Option.elim, Option.bind_some, Bool.not_true, cond_false, worstS_is r p2 p1 r2 (show 0 ≤ (k : Int) ∧ (k : Int) ≤ 3 by omega), steady_is]
      · simp only [Option.elim, Option.bind_some, Bool.not_true, cond_false, changes_one]
  · refine ⟨[], false, ?_, ?_, by simp⟩
    · cases hb : showB s
      · rfl
      · cases b
        · rfl
        · cases hc : isBx c
          · rfl
          · exact absurd ⟨hb, rfl, hc⟩ hgo
    · have : G81 (s, r, c, ()) = some (noThrow, ⟨0, 0⟩, ⟨0, 0⟩, false, ()) := by
        unfold G81 F81
        simp only [es_show]
        rw [r1]
        simp only [Option.bind_some, boxI_is]
        cases b
        · rfl
        · cases hc : isBx c
          · rfl
          · have hb : showB s = false := by
              cases hb : showB s
              · rfl
              · exact absurd ⟨hb, rfl, hc⟩ hgo
            simp only [Bool.not_true, Bool.not_false, cond_true, cond_false]
            rw [throwsI_none h hb]
            obtain ⟨p1, p2, _⟩ := r3 rfl
            simp only [Option.bind_some]
            exact wetLI p2 p1 r1 c [] (by simp) _
      rw [this]; rfl
/-! ### Limited shows -/
theorem cloneDev (l : List Device) (hl : l.length ≤ 1048576) : G138 (l, ()) = some (l, ()) := by
  unfold G138 F138 emptyK
  cases l with
  | nil => rw [capK_le (by simp)]; exact both_self'
  | cons x l => rw [capK_le (by simp at hl ⊢; omega)]; rfl
theorem cloneGust (l : List Gust) (hl : l.length ≤ 1048576) : G140 (l, ()) = some (l, ()) := by
  unfold G140 F140 emptyK
  cases l with
  | nil => rw [capK_le (by simp)]; exact both_self'
  | cons x l => rw [capK_le (by simp at hl ⊢; omega)]; rfl
theorem copyDev (l : List Device) (hl : l.length ≤ 1048576) : G135 (l, ()) = some (l, ()) := by
  unfold G135 F135
  rw [capK_le (by simp; omega)]; rfl
theorem cloneShow_is (s : ShowT) (h : ShowOK s) : G86 (s, ()) = some (s, ()) := by
  have h1 := cloneDev s.1 h.rig
  have h2 : G139 (s.2.1, ()) = some (s.2.1, ()) := cloneCue s.2.1 h.score
  have h3 := cloneGust s.2.2.1 h.wind
  unfold G86 F86
  simp only [h1, h2, h3, Option.bind_some]
theorem copyShow_is (s : ShowT) (h : ShowOK s) : G84 (s, ()) = some (s, ()) := by
  have h1 := copyDev s.1 h.rig
  have h2 : G136 (s.2.1, ()) = some (s.2.1, ()) := copyCue s.2.1 h.score
  have h3 := h.wind
  unfold G84 F84
  simp only [h1, h2, Option.bind_some]
  rw [capK_le (by simp; omega)]
  rfl
noncomputable def limV (r : List Place) (c : Box) (d : Device) : Int := ((G87 (d, r, c, ())).map fun x => x.1).getD 0
theorem limV_is (d : Device) (r : List Place) (c : Box) (h1 : d.Name.length ≤ 1048576) (h2 : d.Line.length ≤ 1048576) (hr : r.length ≤ 1048576) : G85 (d, r, c, ()) = some (limV r c d, ()) ∧ G87 (d, r, c, ()) = some (limV r c d, ()) ∧ ((devB d = true ∧ d.Kind = 2 ∧ LimP d r c (limV r c d)) ∨ (¬ (devB d = true ∧ d.Kind = 2) ∧ limV r c d = 0)) := by
  obtain ⟨v, g1, g2, g3⟩ := lim_ok d r c h1 h2 hr
  have g1 : G85 (d, r, c, ()) = some (v, ()) := g1
  have g2 : G87 (d, r, c, ()) = some (v, ()) := g2
  have : limV r c d = v := by unfold limV; rw [g2]; rfl
  rw [this]
  exact ⟨g1, g2, g3⟩
noncomputable def lmD (r : List Place) (c : Box) (d : Device) : Device := if d.Kind = 2 then ⟨d.Name, d.Kind, d.Line, ⟨d.At.X, d.At.Y⟩, d.Heading, d.Tilt, limV r c d⟩ else d
noncomputable def lmS (r : List Place) (c : Box) (s : ShowT) : ShowT := (s.1.map (lmD r c), s.2.1, s.2.2.1, s.2.2.2.1, ())
noncomputable def lmAt (r : List Place) (c : Box) (l : List Device) (i : Nat) : List Device := (l.take i).map (lmD r c) ++ l.drop i
theorem lmAt_get (r : List Place) (c : Box) (l : List Device) (i : Nat) (hi : i < l.length) : (lmAt r c l i)[i]? = some l[i] := by
  unfold lmAt
  rw [List.getElem?_append_right (by simp; omega)]
  have : i - ((l.take i).map (lmD r c)).length = 0 := by simp; omega
  rw [this]; simp [List.getElem?_drop]
theorem lmAt_set (r : List Place) (c : Box) (l : List Device) (i : Nat) (hi : i < l.length) : (lmAt r c l i).set i (lmD r c l[i]) = lmAt r c l (i + 1) := by
  unfold lmAt
  have hn : ((l.take i).map (lmD r c)).length = i := by simp; omega
  rw [List.set_append_right _ _ (by omega), hn, Nat.sub_self, drop_cons' l i hi, List.set_cons_zero, ← map_take_snoc (lmD r c) l i hi, List.append_assoc]; rfl
theorem set_self' {α : Type} {l : List α} {i : Nat} {x : α} (h : l[i]? = some x) : l.set i x = l := by
  apply List.ext_getElem?; intro m
  rw [List.getElem?_set]
  by_cases e : i = m
  · subst e
    have := (List.getElem?_eq_some_iff.mp h).1
    rw [if_pos rfl, h]; simp [this]
  · rw [if_neg e]
theorem lmAt_same (r : List Place) (c : Box) (l : List Device) (i : Nat) (hi : i < l.length) (hk : ¬ l[i].Kind = 2) : lmAt r c l i = lmAt r c l (i + 1) := by
  have e : lmD r c l[i] = l[i] := by unfold lmD; rw [if_neg hk]
  rw [← lmAt_set r c l i hi, e]
  exact (set_self' (lmAt_get r c l i hi)).symm
theorem lmAt_len (r : List Place) (c : Box) (l : List Device) (i : Nat) (hi : i ≤ l.length) : (lmAt r c l i).length = l.length := by
  unfold lmAt; simp; omega
section
variable (r : List Place) (hr : r.length ≤ 1048576) (c : Box) (s : ShowT) (hs : ShowOK s)
include hr hs
theorem limS_loop : iterF (s41_0 G47 G69 G63 G84 G85) fuel (r, c, ([], [], [], 0, ()), s, (), Int.ofNat s.1.length, 0, ()) (fun t9 => some ((t9.2.2.2.1.1, t9.2.2.2.1.2.1, t9.2.2.2.1.2.2.1, t9.2.2.2.1.2.2.2.1, ()), true, ())) = some (lmS r c s, true, ()) := by
  have hlen := hs.rig
  refine (iterF_for (f := s41_0 G47 G69 G63 G84 G85) (K := fun t9 => some ((t9.2.2.2.1.1, t9.2.2.2.1.2.1, t9.2.2.2.1.2.2.1, t9.2.2.2.1.2.2.2.1, ()), true, ())) (fun i => (r, c, ([], [], [], 0, ()), (lmAt r c s.1 i, s.2.1, s.2.2.1, s.2.2.2.1, ()), (), Int.ofNat s.1.length, (i : Int), ())) s.1.length (by omega) ?_ ?_).trans ?_
  · intro i hi rec K
    have hx := lmAt_get r c s.1 i hi
    have hx' := fun (K : Device → Option ((List Device × List Cue × List Gust × Int × Unit) × Bool × Unit)) => rdL_at (K := K) hx
    have e1 : w64 ((i : Int) + 1) = ((i + 1 : Nat) : Int) := w64_id (by omega) (by omega)
    obtain ⟨n1, n2⟩ := hs.devs s.1[i] (by simp)
    have hv := (limV_is s.1[i] r c n1 n2 hr).1
    simp only [s41_0]
    rw [cond_true_dec (by simp; omega)]
    simp only [hx', hx, Int.toNat_natCast, Option.bind_some, e1]
    by_cases hk : s.1[i].Kind = 2
    · rw [cond_true_dec hk, hv]
      simp only [hx', hx, Option.bind_some]
      have := lmAt_set r c s.1 i hi
      unfold lmD at this
      rw [if_pos hk] at this
      rw [this]
    · rw [cond_false_dec hk, ← lmAt_same r c s.1 i hi hk]
  · intro rec K
    simp only [s41_0]
    rw [cond_false_dec (by simp)]
  · simp [lmAt, lmS]
theorem limI_loop : iterF (s42_0 G66 G72 G67 G86 G87) fuel (r, c, ([], [], [], 0, ()), s, (), Int.ofNat s.1.length, 0, ()) (fun t9 => some ((t9.2.2.2.1.1, t9.2.2.2.1.2.1, t9.2.2.2.1.2.2.1, t9.2.2.2.1.2.2.2.1, ()), true, ())) = some (lmS r c s, true, ()) := by
  have hlen := hs.rig
  refine (iterF_for (f := s42_0 G66 G72 G67 G86 G87) (K := fun t9 => some ((t9.2.2.2.1.1, t9.2.2.2.1.2.1, t9.2.2.2.1.2.2.1, t9.2.2.2.1.2.2.2.1, ()), true, ())) (fun i => (r, c, ([], [], [], 0, ()), (lmAt r c s.1 i, s.2.1, s.2.2.1, s.2.2.2.1, ()), (), Int.ofNat s.1.length, (i : Int), ())) s.1.length (by omega) ?_ ?_).trans ?_
  · intro i hi rec K
    have hx := lmAt_get r c s.1 i hi
    have hx' := fun (K : Device → Option ((List Device × List Cue × List Gust × Int × Unit) × Bool × Unit)) => rdL_at (K := K) hx
    have e1 : w64 ((i : Int) + 1) = ((i + 1 : Nat) : Int) := w64_id (by omega) (by omega)
    obtain ⟨n1, n2⟩ := hs.devs s.1[i] (by simp)
    have hv := (limV_is s.1[i] r c n1 n2 hr).2.1
    simp only [s42_0]
    rw [cond_true_dec (by simp; omega)]
    simp only [hx', hx, Int.toNat_natCast, Option.bind_some, e1]
    by_cases hk : s.1[i].Kind = 2
    · rw [cond_true_dec hk, hv]
      simp only [hx', hx, Option.bind_some]
      have := lmAt_set r c s.1 i hi
      unfold lmD at this
      rw [if_pos hk] at this
      rw [this]
    · rw [cond_false_dec hk, ← lmAt_same r c s.1 i hi hk]
  · intro rec K
    simp only [s42_0]
    rw [cond_false_dec (by simp)]
  · simp [lmAt, lmS]
end
theorem limit_ok (s : ShowT) (h : ShowOK s) (r : List Place) (hr : r.length ≤ 1048576) (c : Box) : ∃ (x : ShowT) (b : Bool), G41 (s, r, c, ()) = some (x, b, ()) ∧ G42 (s, r, c, ()) = some (x, b, ()) ∧ x.1.length ≤ 1048576 ∧ x.2.1.length ≤ 1048576 ∧ x.2.2.1.length ≤ 1048576 := by
  obtain ⟨b, r1, r2, r3⟩ := roseI_is r hr
  unfold G41 F41 G42 F42
  simp only [es_show]
  rw [showS_is s h, showI_is s h, r1, r2]
  simp only [Option.bind_some, boxS_is, boxI_is, copyShow_is s h, cloneShow_is s h]
  cases showB s
  · exact ⟨([], [], [], 0, ()), false, rfl, rfl, by simp, by simp, by simp⟩
  · cases b
    · exact ⟨([], [], [], 0, ()), false, rfl, rfl, by simp, by simp, by simp⟩
    · cases isBx c
      · exact ⟨([], [], [], 0, ()), false, rfl, rfl, by simp, by simp, by simp⟩
      · refine ⟨lmS r c s, true, limS_loop r hr c s h, limI_loop r hr c s h, ?_, h.score, h.wind⟩
        unfold lmS
        have := h.rig
        simpa using this
end Ev
