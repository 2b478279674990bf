/- The worst drifts, and the first drop that one of them makes land outside. The wind that makes a show wet, and the show whose lifts are limited. -/
import Derived.Test.YtpnlcamcnhpbhaaGreatDropA
set_option linter.unusedVariables false
set_option linter.unusedSimpArgs false
set_option maxRecDepth 100000
namespace Ev
open Go
/-- A loop that is left at the first of its states at which something holds. -/
theorem iterF_findN {R T : Type} {f : T → (T → Option R) → (T → Option R) → Option R} {K : T → Option R} (st : Nat → T) (p : Nat → Bool) (r : Nat → Option R) (n : Nat)
    (hs : ∀ i, i < n → ∀ rec K, f (st i) rec K = cond (p i) (r i) (rec (st (i + 1)))) (he : ∀ rec K, f (st n) rec K = K (st n)) :
    ∀ (d i m : Nat), i + d = n → d < m → iterF f m (st i) K = match (List.range' i d).find? p with | some k => r k | none => K (st n) := by
  intro d
  induction d with
  | zero =>
    intro i m h1 h2
    obtain ⟨m, rfl⟩ : ∃ k, m = k + 1 := ⟨m - 1, by omega⟩
    have : i = n := by omega
    subst this
    rw [iterF_succ, he]; rfl
  | succ d ih =>
    intro i m h1 h2
    obtain ⟨m, rfl⟩ : ∃ k, m = k + 1 := ⟨m - 1, by omega⟩
    rw [iterF_succ, hs i (by omega), ih (i + 1) m (by omega) (by omega), List.range'_succ, List.find?_cons]
    cases p i <;> rfl
theorem iterF_find {R T : Type} {f : T → (T → Option R) → (T → Option R) → Option R} {K : T → Option R} (st : Nat → T) (p : Nat → Bool) (r : Nat → Option R) (n : Nat) (hn : n ≤ 18446744073709551616)
    (hs : ∀ i, i < n → ∀ rec K, f (st i) rec K = cond (p i) (r i) (rec (st (i + 1)))) (he : ∀ rec K, f (st n) rec K = K (st n)) :
    iterF f fuel (st 0) K = match (List.range n).find? p with | some k => r k | none => K (st n) := by
  rw [List.range_eq_range']
  exact iterF_findN st p r n hs he n 0 fuel (by omega) (by rw [fuel_eq]; omega)
/-! ### The worst drift -/
def rotX (h : Int) (p : Place) : Int := (rotN (q4 (w64 (0 - h))) p).X
def wdF (h : Int) (a p : Place) : Place := if rotX h p > rotX h a then p else a
def wdV (h : Int) (r : List Place) : Place := match r with
  | [] => ⟨0, 0⟩
  | p :: _ => r.foldl (wdF h) p
theorem turnS_x (p : Place) (h : Int) : G177 (p, w64 (0 - h), ()) = some (rotN (q4 (w64 (0 - h))) p, ()) := turnS' p _
theorem turnI_x (p : Place) (h : Int) : G44 (p, w64 (0 - h), ()) = some (rotN (q4 (w64 (0 - h))) p, ()) := turnI' p _
end Ev

namespace Ev
open Go
/-- A loop that is left with the first thing that is found. -/
theorem iterF_getN {R T A : Type} {f : T → (T → Option R) → (T → Option R) → Option R} {K : T → Option R} (st : Nat → T) (q : Nat → Option A) (r : A → Option R) (n : Nat)
    (hs : ∀ i, i < n → ∀ rec K, f (st i) rec K = (q i).elim (rec (st (i + 1))) r) (he : ∀ rec K, f (st n) rec K = K (st n)) :
    ∀ (d i m : Nat), i + d = n → d < m → iterF f m (st i) K = ((List.range' i d).findSome? q).elim (K (st n)) r := by
  intro d
  induction d with
  | zero =>
    intro i m h1 h2
    obtain ⟨m, rfl⟩ : ∃ k, m = k + 1 := ⟨m - 1, by omega⟩
    have : i = n := by omega
    subst this
    rw [iterF_succ, he]; rfl
  | succ d ih =>
    intro i m h1 h2
    obtain ⟨m, rfl⟩ : ∃ k, m = k + 1 := ⟨m - 1, by omega⟩
    rw [iterF_succ, hs i (by omega), ih (i + 1) m (by omega) (by omega), List.range'_succ, List.findSome?_cons]
    cases q i <;> rfl
theorem iterF_get {R T A : Type} {f : T → (T → Option R) → (T → Option R) → Option R} {K : T → Option R} (st : Nat → T) (q : Nat → Option A) (r : A → Option R) (n : Nat) (hn : n ≤ 18446744073709551616)
    (hs : ∀ i, i < n → ∀ rec K, f (st i) rec K = (q i).elim (rec (st (i + 1))) r) (he : ∀ rec K, f (st n) rec K = K (st n)) :
    iterF f fuel (st 0) K = ((List.range n).findSome? q).elim (K (st n)) r := by
  rw [List.range_eq_range']
  exact iterF_getN st q r n hs he n 0 fuel (by omega) (by rw [fuel_eq]; omega)
def wq (r : List Place) (x : Throw) (h : Nat) : Place := plus (landP x.jet).1 ⟨w64 (fl x.jet * (wdV (h : Int) r).X), w64 (fl x.jet * (wdV (h : Int) r).Y)⟩
def sideB (p : Place) (c : Box) (h : Nat) : Bool := if h = 0 then decide (p.X > c.High.X) else if h = 1 then decide (p.Y > c.High.Y) else if h = 2 then decide (p.X < c.Low.X) else decide (p.Y < c.Low.Y)
def hitH (r : List Place) (c : Box) (x : Throw) : Option Nat := (List.range 4).findSome? fun h => if sideB (wq r x h) c h = true then some h else none
def hitL (r : List Place) (c : Box) (l : List Throw) : Option (Throw × Nat) := (List.range l.length).findSome? fun i => (l[i]?).bind fun x => (hitH r c x).map fun h => (x, h)
theorem hitH_lt {r : List Place} {c : Box} {x : Throw} {h : Nat} (e : hitH r c x = some h) : h < 4 ∧ sideB (wq r x h) c h = true := by
  unfold hitH at e
  obtain ⟨k, hk, e⟩ := List.exists_of_findSome?_eq_some e
  have hk : k < 4 := by simpa using hk
  split at e
  · cases e; exact ⟨hk, by assumption⟩
  · cases e
theorem hitL_of {r : List Place} {c : Box} {l : List Throw} {x : Throw} {h : Nat} (e : hitL r c l = some (x, h)) : x ∈ l ∧ hitH r c x = some h := by
  unfold hitL at e
  obtain ⟨i, hi, e⟩ := List.exists_of_findSome?_eq_some e
  cases hx : l[i]? with
  | none => rw [hx] at e; cases e
  | some y =>
    rw [hx] at e
    simp only [Option.bind_some] at e
    cases hh : hitH r c y with
    | none => rw [hh] at e; cases e
    | some k =>
      rw [hh] at e
      simp only [Option.map_some, Option.some.injEq, Prod.mk.injEq] at e
      obtain ⟨rfl, rfl⟩ := e
      exact ⟨List.mem_iff_getElem?.mpr ⟨i, hx⟩, hh⟩
theorem hitL_none {r : List Place} {c : Box} {l : List Throw} (e : hitL r c l = none) : ∀ x ∈ l, ∀ h, h < 4 → sideB (wq r x h) c h = false := by
  intro x hx h hh
  unfold hitL at e
  rw [List.findSome?_eq_none_iff] at e
  obtain ⟨i, hi⟩ := List.mem_iff_getElem?.mp hx
  have := e i (by simpa using (List.getElem?_eq_some_iff.mp hi).1)
  rw [hi] at this
  simp only [Option.bind_some] at this
  cases hk : hitH r c x with
  | some k => rw [hk] at this; cases this
  | none =>
    unfold hitH at hk
    rw [List.findSome?_eq_none_iff] at hk
    have := hk h (by simpa using hh)
    cases hs : sideB (wq r x h) c h
    · rfl
    · rw [hs] at this; simp at this
theorem landS_x (j : Jet) : G109 (j, ()) = some ((landP j).1, (landP j).2, ()) := landS j
theorem landI_x (j : Jet) : G104 (j, ()) = some ((landP j).1, (landP j).2, ()) := landI j
def noThrow : Throw := ⟨[], 0, ⟨⟨0, 0⟩, 0, 0, 0⟩⟩
section
variable {r : List Place} (hr : r.length ≤ 4) (h1 : 1 ≤ r.length) (hS : G60 (r, ()) = some (true, ())) (hI : G57 (r, ()) = some (true, ()))
end
/-- A wind with one drift. -/
def stL (d : Place) : List Gust := if d.X = 0 ∧ d.Y = 0 then [] else [⟨0, ⟨d.X, d.Y⟩⟩]
theorem stL_len (d : Place) : (stL d).length ≤ 1 := by unfold stL; split <;> simp
noncomputable def wwL (s : ShowT) (r : List Place) (c : Box) : Option (Throw × Nat) := hitL r c (throwsL s)
/-! ### Limited shows -/
theorem copyDev (l : List Device) (hl : l.length ≤ 1048576) : G162 (l, ()) = some (l, ()) := by
  unfold G162 F162
  rw [capK_le (by simp; omega)]; rfl
theorem set_self' {α : Type} {l : List α} {i : Nat} {x : α} (h : l[i]? = some x) : l.set i x = l := by
  apply List.ext_getElem?; intro m
  rw [List.getElem?_set]
  by_cases e : i = m
  · subst e
    have := (List.getElem?_eq_some_iff.mp h).1
    rw [if_pos rfl, h]; simp [this]
  · rw [if_neg e]
section
variable (r : List Place) (hr : r.length ≤ 1048576) (c : Box) (s : ShowT) (hs : ShowOK s)
include hr hs
end
end Ev
