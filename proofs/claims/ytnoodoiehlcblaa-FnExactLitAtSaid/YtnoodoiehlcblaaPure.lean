/- Plain facts about what the evaluator's functions are made of. -/
import Derived.Test.YtnoodoiehlcblaaGen
set_option linter.unusedVariables false
set_option linter.unusedSimpArgs false
namespace Ev
open Go

theorem w64_id {n : Int} (h1 : -9223372036854775808 ≤ n) (h2 : n < 9223372036854775808) : w64 n = n := by
  simp [w64, IntKind.wrap, IntKind.signed, IntKind.bits]
  split <;> omega
theorem okIf_pos {R : Type} {c : Prop} [Decidable c] {K : Option R} (h : c) : okIf c K = K := if_pos h
theorem capK_le {R : Type} {n : Nat} {K : Option R} (h : n ≤ 1099511627776) : capK n K = K := if_pos h
theorem rdL_at {R α : Type} {l : List α} {i : Nat} {x : α} {K : α → Option R} (h : l[i]? = some x) : rdL l (i : Int) K = K x := by
  unfold rdL
  rw [if_pos (by omega)]
  simp [h]
theorem rdL_nat {R α : Type} {l : List α} {i : Nat} {K : α → Option R} : rdL l (i : Int) K = (l[i]?).bind K := by
  unfold rdL
  rw [if_pos (by omega)]
  simp
theorem cond_dec {α : Type} {c : Prop} [Decidable c] {a b : α} : cond (decide c) a b = if c then a else b := by
  by_cases h : c <;> simp [h]
theorem cond_true_dec {α : Type} {c : Prop} [Decidable c] {a b : α} (h : c) : cond (decide c) a b = a := by rw [cond_dec, if_pos h]
theorem cond_false_dec {α : Type} {c : Prop} [Decidable c] {a b : α} (h : ¬ c) : cond (decide c) a b = b := by rw [cond_dec, if_neg h]
theorem mx_eq (a b : Int) : mx a b = if a < b then b else a := by
  unfold mx; simp only [gt_iff_lt]
theorem mn_eq (a b : Int) : mn a b = if b < a then b else a := rfl
def inR (x : Int) : Bool := decide (0 ≤ x) && decide (x ≤ 32)
def isTr (l : List Int) : Bool := l.all inR && decide (l.length ≤ 64)
/-! ### Loops -/
theorem iterF_succ {R T : Type} {f : T → (T → Option R) → (T → Option R) → Option R} {n : Nat} {t : T} {K : T → Option R} : iterF f (n + 1) t K = f t (fun t => iterF f n t K) K := rfl
def scan {α σ ρ : Type} (h : Nat → α → σ → ρ ⊕ σ) : Nat → List α → σ → ρ ⊕ σ
  | _, [], s => .inr s
  | i, x :: xs, s => match h i x s with
    | .inl r => .inl r
    | .inr s' => scan h (i + 1) xs s'
theorem iterF_scan_from {R T α σ : Type} {f : T → (T → Option R) → (T → Option R) → Option R} {P : Nat → σ → T} {l : List α} {h : Nat → α → σ → Option R ⊕ σ} {Inv : Nat → σ → Prop} {K : T → Option R}
    (hs : ∀ i s x, Inv i s → l[i]? = some x → ∀ rec K, f (P i s) rec K = match h i x s with | .inl r => r | .inr s' => rec (P (i + 1) s'))
    (hi : ∀ i s x s', Inv i s → l[i]? = some x → h i x s = .inr s' → Inv (i + 1) s')
    (he : ∀ s, Inv l.length s → ∀ rec K, f (P l.length s) rec K = K (P l.length s)) : ∀ (m : List α) (i n : Nat) (s : σ), i + m.length = l.length → (∀ j, m[j]? = l[i + j]?) → m.length < n → Inv i s →
      iterF f n (P i s) K = match scan h i m s with | .inl r => r | .inr s' => K (P l.length s')
  | [], i, n, s, hl, hm, hn, inv => by
    obtain ⟨n, rfl⟩ : ∃ k, n = k + 1 := ⟨n - 1, by simp at hn; omega⟩
    simp at hl
    subst hl
    rw [iterF_succ, he s inv]; rfl
  | x :: m, i, n, s, hl, hm, hn, inv => by
    obtain ⟨n, rfl⟩ : ∃ k, n = k + 1 := ⟨n - 1, by simp at hn; omega⟩
    have hx : l[i]? = some x := by have := hm 0; simpa using this.symm
    rw [iterF_succ, hs i s x inv hx]
    simp only [scan]
    cases hh : h i x s with
    | inl r => rfl
    | inr s' =>
      simp only []
      exact iterF_scan_from hs hi he m (i + 1) n s' (by simp at hl; omega) (fun j => by have := hm (j + 1); simp at this; rw [this]; congr 1; omega) (by simp at hn; omega) (hi i s x s' inv hx hh)
theorem iterF_scan {R T α σ : Type} {f : T → (T → Option R) → (T → Option R) → Option R} (P : Nat → σ → T) (l : List α) (h : Nat → α → σ → Option R ⊕ σ) (Inv : Nat → σ → Prop) {K : T → Option R} {s : σ}
    (hn : l.length ≤ 2305843009213693952) (inv : Inv 0 s)
    (hs : ∀ i s x, Inv i s → l[i]? = some x → i < l.length → ∀ rec K, f (P i s) rec K = match h i x s with | .inl r => r | .inr s' => rec (P (i + 1) s'))
    (hi : ∀ i s x s', Inv i s → l[i]? = some x → h i x s = .inr s' → Inv (i + 1) s')
    (he : ∀ s, Inv l.length s → ∀ rec K, f (P l.length s) rec K = K (P l.length s)) :
      iterF f fuel (P 0 s) K = match scan h 0 l s with | .inl r => r | .inr s' => K (P l.length s') :=
  iterF_scan_from (fun i s x a b => hs i s x a b (List.getElem?_eq_some_iff.mp b).1) hi he l 0 fuel s (by simp) (by simp) (by rw [fuel_eq]; omega) inv
/-- Two loops that do the same. -/
theorem iterF_congr {R T : Type} {f g : T → (T → Option R) → (T → Option R) → Option R} {K K' : T → Option R} (Inv : T → Prop)
    (h : ∀ t rec rec', Inv t → (∀ t', Inv t' → rec t' = rec' t') → f t rec K = g t rec' K') : ∀ (n : Nat) (t : T), Inv t → iterF f n t K = iterF g n t K'
  | 0, t, _ => rfl
  | n + 1, t, ht => by
    rw [iterF_succ, iterF_succ]
    exact h t _ _ ht fun t' ht' => iterF_congr Inv h n t' ht'
/-- A loop of at most 'n' rounds: it comes to its end, or out of it with what 'Out' says. -/
theorem iterF_rule_from {R T : Type} {f : T → (T → Option R) → (T → Option R) → Option R} {K : T → Option R} {n : Nat} {Inv : Nat → T → Prop} {Out : Option R → Prop} {Brk : T → Prop}
    (hs : ∀ i t, i < n → Inv i t → (∃ t', Inv (i + 1) t' ∧ ∀ rec K, f t rec K = rec t') ∨ (∃ r, Out r ∧ ∀ rec K, f t rec K = r) ∨ (∃ t', Brk t' ∧ ∀ rec K, f t rec K = K t'))
    (he : ∀ t, Inv n t → (∃ r, Out r ∧ ∀ rec K, f t rec K = r) ∨ (∃ t', Brk t' ∧ ∀ rec K, f t rec K = K t')) : ∀ (d i m : Nat) (t : T), i + d = n → d < m → Inv i t →
      (∃ r, Out r ∧ iterF f m t K = r) ∨ ∃ t', Brk t' ∧ iterF f m t K = K t'
  | 0, i, m, t, hd, hm, inv => by
    obtain ⟨m, rfl⟩ : ∃ k, m = k + 1 := ⟨m - 1, by omega⟩
    have : i = n := by omega
    subst this
    rw [iterF_succ]
    rcases he t inv with ⟨r, hr, h⟩ | ⟨t', hb, h⟩
    · exact .inl ⟨r, hr, h _ _⟩
    · exact .inr ⟨t', hb, h _ _⟩
  | d + 1, i, m, t, hd, hm, inv => by
    obtain ⟨m, rfl⟩ : ∃ k, m = k + 1 := ⟨m - 1, by omega⟩
    rw [iterF_succ]
    rcases hs i t (by omega) inv with ⟨t', hi, h⟩ | ⟨r, hr, h⟩ | ⟨t', hb, h⟩
    · rw [h]
      exact iterF_rule_from hs he d (i + 1) m t' (by omega) (by omega) hi
    · exact .inl ⟨r, hr, h _ _⟩
    · exact .inr ⟨t', hb, h _ _⟩
theorem iterF_rule {R T : Type} {f : T → (T → Option R) → (T → Option R) → Option R} {K : T → Option R} {t : T} (n : Nat) (Inv : Nat → T → Prop) (Out : Option R → Prop) (Brk : T → Prop) (hn : n ≤ 18446744073709551616) (inv : Inv 0 t)
    (hs : ∀ i t, i < n → Inv i t → (∃ t', Inv (i + 1) t' ∧ ∀ rec K, f t rec K = rec t') ∨ (∃ r, Out r ∧ ∀ rec K, f t rec K = r) ∨ (∃ t', Brk t' ∧ ∀ rec K, f t rec K = K t'))
    (he : ∀ t, Inv n t → (∃ r, Out r ∧ ∀ rec K, f t rec K = r) ∨ (∃ t', Brk t' ∧ ∀ rec K, f t rec K = K t')) :
      (∃ r, Out r ∧ iterF f fuel t K = r) ∨ ∃ t', Brk t' ∧ iterF f fuel t K = K t' :=
  iterF_rule_from hs he n 0 fuel t (by omega) (by rw [fuel_eq]; omega) inv
/-- A loop that is never left from within. -/
theorem iterF_all {R T : Type} {f : T → (T → Option R) → (T → Option R) → Option R} {K : T → Option R} {t : T} (n : Nat) (Inv : Nat → T → Prop) (hn : n ≤ 18446744073709551616) (inv : Inv 0 t)
    (hs : ∀ i t, i < n → Inv i t → ∃ t', Inv (i + 1) t' ∧ ∀ rec K, f t rec K = rec t') (he : ∀ t, Inv n t → ∀ rec K, f t rec K = K t) : ∃ t', Inv n t' ∧ iterF f fuel t K = K t' := by
  rcases iterF_rule (f := f) (K := K) n Inv (fun _ => False) (Inv n) hn inv (fun i t hi h => .inl (hs i t hi h)) (fun t h => .inr ⟨t, h, he t h⟩) with ⟨r, h, _⟩ | h
  · exact h.elim
  · exact h
end Ev
