/- The worst drifts, and the first drop that one of them makes land outside. The wind that makes a show wet, and the show whose lifts are limited. -/
import Derived.Test.YtpnlcamcnhpbhaaGreatDoorDropA
set_option linter.unusedVariables false
set_option linter.unusedSimpArgs false
set_option maxRecDepth 100000
namespace Ev
open Go
/-- A loop that is left at the first of its states at which something holds. -/
theorem iterF_findN {R T : Type} {f : T → (T → Option R) → (T → Option R) → Option R} {K : T → Option R} (st : Nat → T) (p : Nat → Bool) (r : Nat → Option R) (n : Nat)
    (hs : ∀ i, i < n → ∀ rec K, f (st i) rec K = cond (p i) (r i) (rec (st (i + 1)))) (he : ∀ rec K, f (st n) rec K = K (st n)) :
    ∀ (d i m : Nat), i + d = n → d < m → iterF f m (st i) K = match (List.range' i d).find? p with | some k => r k | none => K (st n) := by
  intro d
  induction d with
  | zero =>
    intro i m h1 h2
    obtain ⟨m, rfl⟩ : ∃ k, m = k + 1 := ⟨m - 1, by omega⟩
    have : i = n := by omega
    subst this
    rw [iterF_succ, he]; rfl
  | succ d ih =>
    intro i m h1 h2
    obtain ⟨m, rfl⟩ : ∃ k, m = k + 1 := ⟨m - 1, by omega⟩
    rw [iterF_succ, hs i (by omega), ih (i + 1) m (by omega) (by omega), List.range'_succ, List.find?_cons]
    cases p i <;> rfl
theorem iterF_find {R T : Type} {f : T → (T → Option R) → (T → Option R) → Option R} {K : T → Option R} (st : Nat → T) (p : Nat → Bool) (r : Nat → Option R) (n : Nat) (hn : n ≤ 18446744073709551616)
    (hs : ∀ i, i < n → ∀ rec K, f (st i) rec K = cond (p i) (r i) (rec (st (i + 1)))) (he : ∀ rec K, f (st n) rec K = K (st n)) :
    iterF f fuel (st 0) K = match (List.range n).find? p with | some k => r k | none => K (st n) := by
  rw [List.range_eq_range']
  exact iterF_findN st p r n hs he n 0 fuel (by omega) (by rw [fuel_eq]; omega)
/-! ### The worst drift -/
def rotX (h : Int) (p : Place) : Int := (rotN (q4 (w64 (0 - h))) p).X
def wdF (h : Int) (a p : Place) : Place := if rotX h p > rotX h a then p else a
def wdV (h : Int) (r : List Place) : Place := match r with
  | [] => ⟨0, 0⟩
  | p :: _ => r.foldl (wdF h) p
theorem turnS_x (p : Place) (h : Int) : G61 (p, w64 (0 - h), ()) = some (rotN (q4 (w64 (0 - h))) p, ()) := turnS' p _
theorem turnI_x (p : Place) (h : Int) : G112 (p, w64 (0 - h), ()) = some (rotN (q4 (w64 (0 - h))) p, ()) := turnI' p _
theorem worstI_is (r : List Place) (hr : r.length ≤ 4) (h1 : 1 ≤ r.length) (hv : G36 (r, ()) = some (true, ())) {h : Int} (hh : 0 ≤ h ∧ h ≤ 3) : G78 (r, h, ()) = some (wdV h r, ()) := by
  obtain ⟨p0, l, rfl⟩ : ∃ p l, r = p :: l := by
    cases r with
    | nil => simp at h1
    | cons p l => exact ⟨p, l, rfl⟩
  unfold G78 F78
  dsimp only
  have hd : G111 (h, ()) = some (wi h 0 3, ()) := headI h
  rw [hv]
  simp only [Option.bind_some, Bool.not_true, cond_false, hd, wi_of hh.1 hh.2]
  generalize hrr : p0 :: l = r at hr h1 hv ⊢
  have hr0 : r[0]? = some p0 := by rw [← hrr]; rfl
  have hr0' := fun (K : Place → Option (Place × Unit)) => rdL_at (i := 0) (K := K) hr0
  simp only [Int.ofNat_zero, Int.natCast_zero] at hr0'
  rw [hr0']
  have := iterF_for (f := s78_0 G36 G111 G112) (K := fun t6 => some (t6.2.2.1, ())) (fun i => (h, ⟨0, 0⟩, (r.take i).foldl (wdF h) p0, r, Int.ofNat r.length, (i : Int), ())) r.length (by omega)
    (by
      intro i hi rec K
      have hx : r[i]? = some r[i] := by simp
      have e1 : w64 ((i : Int) + 1) = ((i + 1 : Nat) : Int) := w64_id (by omega) (by omega)
      simp only [s78_0]
      rw [cond_true_dec (by simp; omega), rdL_at hx, e1, fold_take _ _ r i hi]
      simp only [turnI_x, Option.bind_some]
      generalize (r.take i).foldl (wdF h) p0 = acc
      unfold wdF
      by_cases hc : rotX h r[i] > rotX h acc
      · rw [if_pos hc]; unfold rotX at hc; rw [cond_true_dec hc]
      · rw [if_neg hc]; unfold rotX at hc; rw [cond_false_dec hc])
    (by
      intro rec K
      simp only [s78_0]
      rw [cond_false_dec (by simp)])
  refine this.trans ?_
  simp only [List.take_length]
  subst hrr
  rfl
end Ev

namespace Ev
open Go
/-- A loop that is left with the first thing that is found. -/
theorem iterF_getN {R T A : Type} {f : T → (T → Option R) → (T → Option R) → Option R} {K : T → Option R} (st : Nat → T) (q : Nat → Option A) (r : A → Option R) (n : Nat)
    (hs : ∀ i, i < n → ∀ rec K, f (st i) rec K = (q i).elim (rec (st (i + 1))) r) (he : ∀ rec K, f (st n) rec K = K (st n)) :
    ∀ (d i m : Nat), i + d = n → d < m → iterF f m (st i) K = ((List.range' i d).findSome? q).elim (K (st n)) r := by
  intro d
  induction d with
  | zero =>
    intro i m h1 h2
    obtain ⟨m, rfl⟩ : ∃ k, m = k + 1 := ⟨m - 1, by omega⟩
    have : i = n := by omega
    subst this
    rw [iterF_succ, he]; rfl
  | succ d ih =>
    intro i m h1 h2
    obtain ⟨m, rfl⟩ : ∃ k, m = k + 1 := ⟨m - 1, by omega⟩
    rw [iterF_succ, hs i (by omega), ih (i + 1) m (by omega) (by omega), List.range'_succ, List.findSome?_cons]
    cases q i <;> rfl
theorem iterF_get {R T A : Type} {f : T → (T → Option R) → (T → Option R) → Option R} {K : T → Option R} (st : Nat → T) (q : Nat → Option A) (r : A → Option R) (n : Nat) (hn : n ≤ 18446744073709551616)
    (hs : ∀ i, i < n → ∀ rec K, f (st i) rec K = (q i).elim (rec (st (i + 1))) r) (he : ∀ rec K, f (st n) rec K = K (st n)) :
    iterF f fuel (st 0) K = ((List.range n).findSome? q).elim (K (st n)) r := by
  rw [List.range_eq_range']
  exact iterF_getN st q r n hs he n 0 fuel (by omega) (by rw [fuel_eq]; omega)
def wq (r : List Place) (x : Throw) (h : Nat) : Place := plus (landP x.jet).1 ⟨w64 (fl x.jet * (wdV (h : Int) r).X), w64 (fl x.jet * (wdV (h : Int) r).Y)⟩
def sideB (p : Place) (c : Box) (h : Nat) : Bool := if h = 0 then decide (p.X > c.High.X) else if h = 1 then decide (p.Y > c.High.Y) else if h = 2 then decide (p.X < c.Low.X) else decide (p.Y < c.Low.Y)
def hitH (r : List Place) (c : Box) (x : Throw) : Option Nat := (List.range 4).findSome? fun h => if sideB (wq r x h) c h = true then some h else none
def hitL (r : List Place) (c : Box) (l : List Throw) : Option (Throw × Nat) := (List.range l.length).findSome? fun i => (l[i]?).bind fun x => (hitH r c x).map fun h => (x, h)
theorem hitH_lt {r : List Place} {c : Box} {x : Throw} {h : Nat} (e : hitH r c x = some h) : h < 4 ∧ sideB (wq r x h) c h = true := by
  unfold hitH at e
  obtain ⟨k, hk, e⟩ := List.exists_of_findSome?_eq_some e
  have hk : k < 4 := by simpa using hk
  split at e
  · cases e; exact ⟨hk, by assumption⟩
  · cases e
theorem hitL_of {r : List Place} {c : Box} {l : List Throw} {x : Throw} {h : Nat} (e : hitL r c l = some (x, h)) : x ∈ l ∧ hitH r c x = some h := by
  unfold hitL at e
  obtain ⟨i, hi, e⟩ := List.exists_of_findSome?_eq_some e
  cases hx : l[i]? with
  | none => rw [hx] at e; cases e
  | some y =>
    rw [hx] at e
    simp only [Option.bind_some] at e
    cases hh : hitH r c y with
    | none => rw [hh] at e; cases e
    | some k =>
      rw [hh] at e
      simp only [Option.map_some, Option.some.injEq, Prod.mk.injEq] at e
      obtain ⟨rfl, rfl⟩ := e
      exact ⟨List.mem_iff_getElem?.mpr ⟨i, hx⟩, hh⟩
theorem hitL_none {r : List Place} {c : Box} {l : List Throw} (e : hitL r c l = none) : ∀ x ∈ l, ∀ h, h < 4 → sideB (wq r x h) c h = false := by
  intro x hx h hh
  unfold hitL at e
  rw [List.findSome?_eq_none_iff] at e
  obtain ⟨i, hi⟩ := List.mem_iff_getElem?.mp hx
  have := e i (by simpa using (List.getElem?_eq_some_iff.mp hi).1)
  rw [hi] at this
  simp only [Option.bind_some] at this
  cases hk : hitH r c x with
  | some k => rw [hk] at this; cases this
  | none =>
    unfold hitH at hk
    rw [List.findSome?_eq_none_iff] at hk
    have := hk h (by simpa using hh)
    cases hs : sideB (wq r x h) c h
    · rfl
    · rw [hs] at this; simp at this
theorem sideI_is (p : Place) (c : Box) (h : Nat) (hh : h < 4) : G79 (p, c, (h : Int), ()) = some (sideB p c h, ()) := by
  rcases k4 hh with rfl | rfl | rfl | rfl <;> rfl
theorem landS_x (j : Jet) : G26 (j, ()) = some ((landP j).1, (landP j).2, ()) := landS j
theorem landI_x (j : Jet) : G76 (j, ()) = some ((landP j).1, (landP j).2, ()) := landI j
def noThrow : Throw := ⟨[], 0, ⟨⟨0, 0⟩, 0, 0, 0⟩⟩
section
variable {r : List Place} (hr : r.length ≤ 4) (h1 : 1 ≤ r.length) (hS : G22 (r, ()) = some (true, ())) (hI : G36 (r, ()) = some (true, ()))
include hr h1 hI in
theorem innerI (c : Box) (x : Throw) (l : List Throw) (n i0 : Int) (K : List Place × Box × Throw × Place × Place × Throw × Place × Int × List Throw × Int × Int × Int × Unit → Option (Throw × Place × Place × Bool × Unit)) :
    iterF (s38_2 G36 G37 G75 G76 G77 G78 G79) fuel (r, c, noThrow, ⟨0, 0⟩, ⟨0, 0⟩, x, (landP x.jet).1, fl x.jet, l, n, i0, 0, ()) K = (hitH r c x).elim (K (r, c, noThrow, ⟨0, 0⟩, ⟨0, 0⟩, x, (landP x.jet).1, fl x.jet, l, n, i0, 4, ())) (fun h => some (x, wq r x h, wdV (h : Int) r, true, ())) := by
  refine iterF_get (f := s38_2 G36 G37 G75 G76 G77 G78 G79) (K := K) (fun h => (r, c, noThrow, ⟨0, 0⟩, ⟨0, 0⟩, x, (landP x.jet).1, fl x.jet, l, n, i0, (h : Int), ())) (fun h => if sideB (wq r x h) c h = true then some h else none) (fun h => some (x, wq r x h, wdV (h : Int) r, true, ())) 4 (by omega) ?_ ?_
  · intro h hh rec K
    have e1 : w64 ((h : Int) + 1) = ((h + 1 : Nat) : Int) := w64_id (by omega) (by omega)
    simp only [s38_2]
    rw [cond_true_dec (by omega), worstI_is r hr h1 hI (by omega)]
    simp only [Option.bind_some]
    have hq : (⟨w64 ((landP x.jet).1.X + w64 (fl x.jet * (wdV (h : Int) r).X)), w64 ((landP x.jet).1.Y + w64 (fl x.jet * (wdV (h : Int) r).Y))⟩ : Place) = wq r x h := rfl
    rw [hq, sideI_is _ c h hh, e1]
    simp only [Option.bind_some, both_self']
    cases sideB (wq r x h) c h <;> rfl
  · intro rec K
    simp only [s38_2]
    rw [cond_false_dec (by omega)]
include hr h1 hI in
theorem wetLI (c : Box) (l : List Throw) (hl : l.length ≤ 1048576) (K : List Place × Box × Throw × Place × Place × List Throw × Int × Int × Unit → Option (Throw × Place × Place × Bool × Unit)) :
    iterF (s38_0 G36 G37 G75 G76 G77 G78 G79) fuel (r, c, noThrow, ⟨0, 0⟩, ⟨0, 0⟩, l, Int.ofNat l.length, 0, ()) K = (hitL r c l).elim (K (r, c, noThrow, ⟨0, 0⟩, ⟨0, 0⟩, l, Int.ofNat l.length, Int.ofNat l.length, ())) (fun a => some (a.1, wq r a.1 a.2, wdV (a.2 : Int) r, true, ())) := by
  refine iterF_get (f := s38_0 G36 G37 G75 G76 G77 G78 G79) (K := K) (fun i => (r, c, noThrow, ⟨0, 0⟩, ⟨0, 0⟩, l, Int.ofNat l.length, (i : Int), ())) (fun i => (l[i]?).bind fun x => (hitH r c x).map fun h => (x, h)) (fun a => some (a.1, wq r a.1 a.2, wdV (a.2 : Int) r, true, ())) l.length (by omega) ?_ ?_
  · intro i hi rec K
    have hx : l[i]? = some l[i] := by simp
    have hx' := fun (K : Throw → Option (Throw × Place × Place × Bool × Unit)) => rdL_at (K := K) hx
    have e1 : w64 ((i : Int) + 1) = ((i + 1 : Nat) : Int) := w64_id (by omega) (by omega)
    simp only [s38_0]
    rw [cond_true_dec (by simp; omega)]
    simp only [hx', hx, Int.toNat_natCast, Option.bind_some, landI_x, flI_is]
    rw [innerI hr h1 hI, e1]
    cases hitH r c l[i] <;> rfl
  · intro rec K
    simp only [s38_0]
    rw [cond_false_dec (by simp)]
end
/-- A wind with one drift. -/
def stL (d : Place) : List Gust := if d.X = 0 ∧ d.Y = 0 then [] else [⟨0, ⟨d.X, d.Y⟩⟩]
theorem stL_len (d : Place) : (stL d).length ≤ 1 := by unfold stL; split <;> simp
theorem changes_one (d : Place) : G46 (([⟨0, ⟨d.X, d.Y⟩⟩] : List Gust), ()) = some (stL d, ()) := by
  obtain ⟨dx, dy⟩ := d
  unfold G46 F46
  refine iterF_for (f := s46_0) (K := fun t3 => some (t3.1, ())) (fun i => ((if i = 0 then [] else stL ⟨dx, dy⟩), (if i = 0 then ⟨0, 0⟩ else ⟨dx, dy⟩), ([⟨0, ⟨dx, dy⟩⟩] : List Gust), Int.ofNat ([⟨0, ⟨dx, dy⟩⟩] : List Gust).length, (i : Int), ())) 1 (by omega) ?_ ?_
  · intro i hi rec K
    have : i = 0 := by omega
    subst this
    have hx : ([⟨0, ⟨dx, dy⟩⟩] : List Gust)[0]? = some ⟨0, ⟨dx, dy⟩⟩ := rfl
    have e1 : w64 (((0 : Nat) : Int) + 1) = ((0 + 1 : Nat) : Int) := w64_id (by omega) (by omega)
    simp only [s46_0]
    rw [cond_true_dec (by simp), rdL_at hx, e1, capK_le (by simp)]
    unfold stL
    by_cases c1 : dx = 0
    · by_cases c2 : dy = 0
      · subst c1 c2; rfl
      · simp [c1, c2]
    · simp [c1]
  · intro rec K
    simp only [s46_0]
    rw [cond_false_dec (by simp)]
noncomputable def wwL (s : ShowT) (r : List Place) (c : Box) : Option (Throw × Nat) := hitL r c (throwsL s)
theorem wetDrop_is {s : ShowT} (h : ShowV s) {r : List Place} (hr : r.length ≤ 1048576) (hI : G36 (r, ()) = some (true, ())) {c : Box} (hc : isBx c = true) :
    G38 (s, r, c, ()) = (wwL s r c).elim (some (noThrow, ⟨0, 0⟩, ⟨0, 0⟩, false, ())) (fun a => some (a.1, wq r a.1 a.2, wdV (a.2 : Int) r, true, ())) := by
  obtain ⟨b, q1, q2, q3⟩ := roseI_is r hr
  have hb : b = true := by rw [hI] at q1; cases q1; rfl
  obtain ⟨p1, p2, _⟩ := q3 hb
  have hl := throwsL_len h
  unfold G38 F38 wwL
  simp only [es_show, hI, Option.bind_some, Bool.not_true, Bool.not_false, cond_true, cond_false, boxI_is, hc]
  rw [allI_is h]
  simp only [Option.bind_some]
  refine (wetLI p2 p1 hI c (throwsL s) (by omega) _).trans ?_
  cases hitL r c (throwsL s) <;> rfl
/-! ### Limited shows -/
theorem copyDev (l : List Device) (hl : l.length ≤ 1048576) : G207 (l, ()) = some (l, ()) := by
  unfold G207 F207
  rw [capK_le (by simp; omega)]; rfl
theorem set_self' {α : Type} {l : List α} {i : Nat} {x : α} (h : l[i]? = some x) : l.set i x = l := by
  apply List.ext_getElem?; intro m
  rw [List.getElem?_set]
  by_cases e : i = m
  · subst e
    have := (List.getElem?_eq_some_iff.mp h).1
    rw [if_pos rfl, h]; simp [this]
  · rw [if_neg e]
section
variable (r : List Place) (hr : r.length ≤ 1048576) (c : Box) (s : ShowT) (hs : ShowOK s)
include hr hs
end
end Ev
