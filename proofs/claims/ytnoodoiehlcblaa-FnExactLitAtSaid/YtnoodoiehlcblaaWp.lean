/- What a run ends with: rules for the shapes that the functions' texts have. -/
import Derived.Test.YtnoodoiehlcblaaPure
set_option linter.unusedVariables false
set_option linter.unusedSimpArgs false
namespace Ev
open Go
def wp {R : Type} (o : Option R) (Q : R → Prop) : Prop := ∃ r, o = some r ∧ Q r
theorem wp_some {R : Type} {r : R} {Q : R → Prop} (h : Q r) : wp (some r) Q := ⟨r, rfl, h⟩
theorem wp_mono {R : Type} {o : Option R} {P Q : R → Prop} (h : wp o P) (k : ∀ r, P r → Q r) : wp o Q := by
  obtain ⟨r, e, p⟩ := h
  exact ⟨r, e, k r p⟩
theorem wp_bind {R S : Type} {o : Option R} {K : R → Option S} {P : R → Prop} {Q : S → Prop} (h : wp o P) (k : ∀ r, P r → wp (K r) Q) : wp (o.bind K) Q := by
  obtain ⟨r, e, p⟩ := h
  rw [e]
  exact k r p
theorem wp_cond {R : Type} {c : Bool} {a b : Option R} {Q : R → Prop} (h1 : c = true → wp a Q) (h2 : c = false → wp b Q) : wp (cond c a b) Q := by
  cases c with
  | true => exact h1 rfl
  | false => exact h2 rfl
theorem wp_dec {R : Type} {p : Prop} [Decidable p] {a b : Option R} {Q : R → Prop} (h1 : p → wp a Q) (h2 : ¬ p → wp b Q) : wp (cond (decide p) a b) Q := by
  by_cases h : p
  · rw [cond_true_dec h]; exact h1 h
  · rw [cond_false_dec h]; exact h2 h
theorem wp_cap {R : Type} {n : Nat} {o : Option R} {Q : R → Prop} (h : n ≤ 1099511627776) (k : wp o Q) : wp (capK n o) Q := by
  rw [capK_le h]; exact k
theorem wp_okIf {R : Type} {p : Prop} [Decidable p] {o : Option R} {Q : R → Prop} (h : p) (k : wp o Q) : wp (okIf p o) Q := by
  rw [okIf_pos h]; exact k
theorem wp_rd {R α : Type} {l : List α} {i : Int} {K : α → Option R} {Q : R → Prop} (h0 : 0 ≤ i) (h1 : i < l.length) (k : ∀ x, x ∈ l → l[i.toNat]? = some x → wp (K x) Q) : wp (rdL l i K) Q := by
  obtain ⟨n, rfl⟩ := Int.eq_ofNat_of_zero_le h0
  have hn : n < l.length := by omega
  have hx : l[n]? = some l[n] := by simp
  rw [rdL_at hx]
  exact k _ (by simp) (by simp [hn])
/-- A loop whose measure falls. -/
theorem wp_iterN {R T : Type} {f : T → (T → Option R) → (T → Option R) → Option R} {K : T → Option R} {Q : R → Prop} (I : Nat → T → Prop)
    (hs : ∀ j t, I j t → ∀ rec : T → Option R, (∀ j' t', j' < j → I j' t' → wp (rec t') Q) → wp (f t rec K) Q) :
    ∀ (m j : Nat) (t : T), j < m → I j t → wp (iterF f m t K) Q := by
  intro m
  induction m with
  | zero => intro j t h; omega
  | succ m ih =>
    intro j t hj h
    exact hs j t h _ fun j' t' hlt h' => ih j' t' (by omega) h'
theorem wp_iter {R T : Type} {f : T → (T → Option R) → (T → Option R) → Option R} {K : T → Option R} {Q : R → Prop} {t : T} (j : Nat) (I : Nat → T → Prop) (hj : j < 36893488147419103232) (h0 : I j t)
    (hs : ∀ j t, I j t → ∀ rec : T → Option R, (∀ j' t', j' < j → I j' t' → wp (rec t') Q) → wp (f t rec K) Q) : wp (iterF f fuel t K) Q :=
  wp_iterN I hs fuel j t (by rw [fuel_eq]; exact hj) h0
/-- The same, where what comes behind the loop is looked at apart. -/
theorem wp_loop {R T : Type} {f : T → (T → Option R) → (T → Option R) → Option R} {K : T → Option R} {Q : R → Prop} {t : T} (j : Nat) (I : Nat → T → Prop) (P : T → Prop) (hj : j < 36893488147419103232) (h0 : I j t)
    (hs : ∀ j t, I j t → ∀ rec K : T → Option R, (∀ j' t', j' < j → I j' t' → wp (rec t') Q) → (∀ t', P t' → wp (K t') Q) → wp (f t rec K) Q) (hk : ∀ t, P t → wp (K t) Q) : wp (iterF f fuel t K) Q :=
  wp_iter j I hj h0 fun j t h rec hr => hs j t h rec K hr hk
/-- A loop over states that are known. -/
theorem iterF_for {R T : Type} {f : T → (T → Option R) → (T → Option R) → Option R} {K : T → Option R} (st : Nat → T) (n : Nat) (hn : n ≤ 18446744073709551616)
    (hs : ∀ i, i < n → ∀ rec K, f (st i) rec K = rec (st (i + 1))) (he : ∀ rec K, f (st n) rec K = K (st n)) : iterF f fuel (st 0) K = K (st n) := by
  obtain ⟨t, e1, e⟩ := iterF_all (f := f) (K := K) (t := st 0) n (fun i t => t = st i) hn rfl (fun i t hi h => ⟨st (i + 1), rfl, fun rec K => by rw [h]; exact hs i hi rec K⟩) (fun t h rec K => by rw [h]; exact he rec K)
  rw [e, e1]
/-- A loop that looks at each state, and is left with 'r' where one is not as it should be. -/
theorem iterF_chkN {R T : Type} {f : T → (T → Option R) → (T → Option R) → Option R} {K : T → Option R} (st : Nat → T) (p : Nat → Bool) (r : Option R) (n : Nat)
    (hs : ∀ i, i < n → ∀ rec K, f (st i) rec K = cond (p i) (rec (st (i + 1))) r) (he : ∀ rec K, f (st n) rec K = K (st n)) :
    ∀ (d i m : Nat), i + d = n → d < m → iterF f m (st i) K = cond ((List.range' i d).all p) (K (st n)) r := by
  intro d
  induction d with
  | zero =>
    intro i m h1 h2
    obtain ⟨m, rfl⟩ : ∃ k, m = k + 1 := ⟨m - 1, by omega⟩
    have : i = n := by omega
    subst this
    rw [iterF_succ, he]; rfl
  | succ d ih =>
    intro i m h1 h2
    obtain ⟨m, rfl⟩ : ∃ k, m = k + 1 := ⟨m - 1, by omega⟩
    rw [iterF_succ, hs i (by omega), ih (i + 1) m (by omega) (by omega), List.range'_succ, List.all_cons]
    cases p i <;> rfl
theorem iterF_chk {R T : Type} {f : T → (T → Option R) → (T → Option R) → Option R} {K : T → Option R} (st : Nat → T) (p : Nat → Bool) (r : Option R) (n : Nat) (hn : n ≤ 18446744073709551616)
    (hs : ∀ i, i < n → ∀ rec K, f (st i) rec K = cond (p i) (rec (st (i + 1))) r) (he : ∀ rec K, f (st n) rec K = K (st n)) :
    iterF f fuel (st 0) K = cond ((List.range n).all p) (K (st n)) r := by
  rw [List.range_eq_range']
  exact iterF_chkN st p r n hs he n 0 fuel (by omega) (by rw [fuel_eq]; omega)
/-! ### Cursors of drawn bytes -/
abbrev Cur := List Int × Int × Int × Unit
def CurP {α : Type} (b : List Int) (P : α → Prop) (r : Cur × α × Unit) : Prop := ∃ i h, r.1 = (b, i, h, ()) ∧ 0 ≤ i ∧ P r.2.1
theorem wp_cur {α S : Type} {b : List Int} {P : α → Prop} {o : Option (Cur × α × Unit)} {K : Cur × α × Unit → Option S} {Q : S → Prop} (h : wp o (CurP b P)) (k : ∀ i h v, 0 ≤ i → P v → wp (K ((b, i, h, ()), v, ())) Q) : wp (o.bind K) Q := by
  obtain ⟨⟨c, v, u⟩, e, i, h, hc, hi, hp⟩ := h
  rw [e]
  have hc : c = (b, i, h, ()) := hc
  subst hc
  exact k i h v hi hp
theorem wp_ret {α : Type} {b : List Int} {P : α → Prop} {i h : Int} {v : α} (hi : 0 ≤ i) (hp : P v) : wp (some ((b, i, h, ()), v, ())) (CurP b P) := ⟨_, rfl, i, h, rfl, hi, hp⟩
end Ev
