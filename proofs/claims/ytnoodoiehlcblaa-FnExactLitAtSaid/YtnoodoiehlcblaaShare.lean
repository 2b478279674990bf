/- Water that is shared out. -/
import Derived.Test.YtnoodoiehlcblaaPlace
import Derived.Test.YtnoodoiehlcblaaWp
set_option linter.unusedVariables false
set_option linter.unusedSimpArgs false
set_option maxRecDepth 100000
namespace Ev
open Go
/-! ### Sums -/
def sumL : List Int → Int
  | [] => 0
  | x :: l => x + sumL l
theorem sumL_app : ∀ a b : List Int, sumL (a ++ b) = sumL a + sumL b
  | [], b => by simp [sumL]
  | x :: a, b => by simp [sumL, sumL_app a b]; omega
theorem take_snocG {α : Type} (r : List α) (i : Nat) (h : i < r.length) : r.take (i + 1) = r.take i ++ [r[i]] := by
  rw [List.take_add_one]; simp [h]
theorem sumL_take (l : List Int) (i : Nat) (h : i < l.length) : sumL (l.take (i + 1)) = sumL (l.take i) + l[i] := by
  rw [take_snocG l i h, sumL_app]; simp [sumL]
theorem sumL_bound (m : Int) (hm : 0 ≤ m) : ∀ l : List Int, (∀ x ∈ l, 0 ≤ x ∧ x ≤ m) → 0 ≤ sumL l ∧ sumL l ≤ m * l.length
  | [], _ => by simp [sumL]
  | x :: l, h => by
    have h1 := h x (by simp)
    have h2 := sumL_bound m hm l fun y hy => h y (by simp [hy])
    simp only [sumL, List.length_cons, Int.natCast_add, Int.mul_add]
    omega
theorem sumL_set : ∀ (l : List Int) (i : Nat) (x y : Int), l[i]? = some x → sumL (l.set i y) = sumL l - x + y
  | [], i, x, y, h => by simp at h
  | a :: l, 0, x, y, h => by simp at h; subst h; simp [sumL]; omega
  | a :: l, i + 1, x, y, h => by
    simp at h
    simp only [List.set_cons_succ, sumL, sumL_set l i x y (by simpa using h)]
    omega
theorem sumL_le : ∀ (a b : List Int), a.length = b.length → (∀ (i : Nat) x y, a[i]? = some x → b[i]? = some y → x ≤ y) → sumL a ≤ sumL b
  | [], [], _, _ => by simp [sumL]
  | [], _ :: _, h, _ => by simp at h
  | _ :: _, [], h, _ => by simp at h
  | x :: a, y :: b, h, k => by
    have h1 := k 0 x y rfl rfl
    have h2 := sumL_le a b (by simpa using h) fun i x y hx hy => k (i + 1) x y (by simpa using hx) (by simpa using hy)
    simp only [sumL]; omega
theorem sumS_is (m : Int) (hm : 0 ≤ m) (hm2 : m ≤ 4294967296) (l : List Int) (hl : l.length ≤ 1048576) (h : ∀ x ∈ l, 0 ≤ x ∧ x ≤ m) : G105 (l, ()) = some (sumL l, ()) := by
  unfold G105 F105
  refine (iterF_for (f := s105_0) (K := fun t3 => some (t3.1, ())) (fun i => (sumL (l.take i), l, Int.ofNat l.length, (i : Int), ())) l.length (by omega) ?_ ?_).trans (by simp)
  · intro i hi rec K
    have hx : l[i]? = some l[i] := by simp
    have e1 : w64 ((i : Int) + 1) = ((i + 1 : Nat) : Int) := w64_id (by omega) (by omega)
    have hb := sumL_bound m hm (l.take i) fun x hx => h x (List.mem_of_mem_take hx)
    have hb2 : m * ((l.take i).length : Int) ≤ 4294967296 * 1048576 := by
      have : ((l.take i).length : Int) ≤ 1048576 := by simp; omega
      exact Int.mul_le_mul hm2 this (by omega) (by omega)
    have hx1 := h l[i] (by simp)
    simp only [s105_0]
    rw [cond_true_dec (by simp; omega), rdL_at hx, e1, sumL_take l i hi, w64_id (by omega) (by omega)]
  · intro rec K
    simp only [s105_0]
    rw [cond_false_dec (by simp)]
theorem sumI_is (m : Int) (hm : 0 ≤ m) (hm2 : m ≤ 4294967296) (l : List Int) (hl : l.length ≤ 1048576) (h : ∀ x ∈ l, 0 ≤ x ∧ x ≤ m) : G85 (l, ()) = some (sumL l, ()) := by
  have e : G85 (l, ()) = G105 (l, ()) := rfl
  rw [e]; exact sumS_is m hm hm2 l hl h
/-! ### Demands -/
def demB (l : List Int) : Bool := (List.range l.length).all (fun i => wi ((l[i]?).getD 0) 0 64) && decide (l.length ≤ 8)
theorem demB_iff (l : List Int) : demB l = true ↔ l.length ≤ 8 ∧ ∀ x ∈ l, 0 ≤ x ∧ x ≤ 64 := by
  unfold demB
  rw [Bool.and_eq_true, decide_eq_true_eq, List.all_eq_true]
  constructor
  · rintro ⟨h, h8⟩
    refine ⟨h8, fun x hx => ?_⟩
    obtain ⟨i, hi⟩ := List.mem_iff_getElem?.mp hx
    have := h i (by simpa using (List.getElem?_eq_some_iff.mp hi).1)
    rw [hi] at this
    exact wi_true.1 this
  · rintro ⟨h8, h⟩
    refine ⟨fun i hi => ?_, h8⟩
    have hi : i < l.length := by simpa using hi
    have hx : l[i]? = some l[i] := by simp
    rw [hx]
    exact wi_true.2 (h _ (by simp))
theorem demS_is (l : List Int) (hl : l.length ≤ 1048576) : G101 (l, ()) = some (demB l, ()) := by
  unfold G101 F101 demB
  refine (iterF_chk (f := s101_0 G70) (fun i => (l, l, Int.ofNat l.length, (i : Int), ())) (fun i => wi ((l[i]?).getD 0) 0 64) (some (false, ())) l.length (by omega) ?_ ?_).trans ?_
  · intro i hi rec K
    have hx : l[i]? = some l[i] := by simp
    have e1 : w64 ((i : Int) + 1) = ((i + 1 : Nat) : Int) := w64_id (by omega) (by omega)
    have hw : G70 (l[i], 0, 64, ()) = some (wi l[i] 0 64, ()) := in_is _ _ _
    simp only [s101_0]
    rw [cond_true_dec (by simp; omega), rdL_at hx, hw, e1, hx]
    simp only [Option.bind_some, Option.getD_some]
    cases wi l[i] 0 64 <;> rfl
  · intro rec K
    simp only [s101_0]
    rw [cond_false_dec (by simp)]
  · have : decide ((Int.ofNat l.length) ≤ 8) = decide (l.length ≤ 8) := by
      by_cases h : l.length ≤ 8
      · rw [decide_eq_true h, decide_eq_true (by simp; omega)]
      · rw [decide_eq_false h, decide_eq_false (by simp; omega)]
    cases (List.range l.length).all (fun i => wi ((l[i]?).getD 0) 0 64)
    · rfl
    · simp only [cond_true, Bool.true_and, this]
theorem demI_is (l : List Int) (hl : l.length ≤ 1048576) : G81 (l, ()) = some (demB l, ()) := by
  unfold G81 F81 demB
  refine (iterF_chk (f := s81_0 G44) (fun i => (l, l, Int.ofNat l.length, (i : Int), ())) (fun i => wi ((l[i]?).getD 0) 0 64) (some (false, ())) l.length (by omega) ?_ ?_).trans ?_
  · intro i hi rec K
    have hx : l[i]? = some l[i] := by simp
    have e1 : w64 ((i : Int) + 1) = ((i + 1 : Nat) : Int) := w64_id (by omega) (by omega)
    have hw : G44 (l[i], 0, 64, ()) = some (wi l[i] 0 64, ()) := within_is _ _ _
    simp only [s81_0]
    rw [cond_true_dec (by simp; omega), rdL_at hx, hw, e1, hx]
    simp only [Option.bind_some, Option.getD_some]
    cases wi l[i] 0 64 <;> rfl
  · intro rec K
    simp only [s81_0]
    rw [cond_false_dec (by simp)]
  · have : decide ((Int.ofNat l.length) ≤ 8) = decide (l.length ≤ 8) := by
      by_cases h : l.length ≤ 8
      · rw [decide_eq_true h, decide_eq_true (by simp; omega)]
      · rw [decide_eq_false h, decide_eq_false (by simp; omega)]
    cases (List.range l.length).all (fun i => wi ((l[i]?).getD 0) 0 64)
    · rfl
    · simp only [cond_true, Bool.true_and, this]
/-! ### Cut demands -/
def cutL (l : List Int) (v : Int) : List Int := l.map fun x => mn x v
theorem cutL_at (l : List Int) (v : Int) (i : Nat) : (cutL l v)[i]? = (l[i]?).map fun x => mn x v := by simp [cutL]
theorem cut_snoc (l : List Int) (v : Int) (i : Nat) (h : i < l.length) : cutL (l.take i) v ++ [mn l[i] v] = cutL (l.take (i + 1)) v := by
  rw [take_snocG l i h]; unfold cutL; rw [List.map_append]; rfl
theorem mn_le (a b : Int) : mn a b ≤ a ∧ mn a b ≤ b ∧ (mn a b = a ∨ mn a b = b) := by
  rw [mn_eq]; split <;> omega
theorem cut_bound {l : List Int} (h : ∀ x ∈ l, 0 ≤ x ∧ x ≤ 64) {v : Int} (hv : 0 ≤ v) : ∀ x ∈ cutL l v, 0 ≤ x ∧ x ≤ 64 := by
  intro x hx
  obtain ⟨y, hy, rfl⟩ := List.mem_map.mp hx
  have := h y hy
  have := mn_le y v
  omega
theorem cutS_is (l : List Int) (hl : l.length ≤ 1048576) (v : Int) : G104 (l, v, ()) = some (cutL l v, ()) := by
  unfold G104 F104
  refine (iterF_for (f := s104_0 G71) (K := fun t4 => some (t4.2.1, ())) (fun i => (v, cutL (l.take i) v, l, Int.ofNat l.length, (i : Int), ())) l.length (by omega) ?_ ?_).trans (by simp)
  · intro i hi rec K
    have hx : l[i]? = some l[i] := by simp
    have e1 : w64 ((i : Int) + 1) = ((i + 1 : Nat) : Int) := w64_id (by omega) (by omega)
    have hm : G71 (l[i], v, ()) = some (mn l[i] v, ()) := min_is _ _
    simp only [s104_0]
    rw [cond_true_dec (by simp; omega), rdL_at hx, hm, e1]
    simp only [Option.bind_some]
    rw [capK_le (by simp [cutL]; omega), cut_snoc l v i hi]
  · intro rec K
    simp only [s104_0]
    rw [cond_false_dec (by simp)]
theorem cutI_is (l : List Int) (hd : demB l = true) (v : Int) (hv : 0 ≤ v) : G84 (l, v, ()) = some (cutL l v, ()) := by
  have hl := ((demB_iff l).1 hd).1
  unfold G84 F84
  dsimp only
  rw [demI_is l (by omega), hd]
  simp only [Option.bind_some, Bool.not_true, Bool.not_false, cond_true]
  rw [cond_false_dec (by omega)]
  refine (iterF_for (f := s84_0 G81) (K := fun t4 => some (t4.2.1, ())) (fun i => (v, cutL (l.take i) v, l, Int.ofNat l.length, (i : Int), ())) l.length (by omega) ?_ ?_).trans (by simp)
  · intro i hi rec K
    have hx : l[i]? = some l[i] := by simp
    have e1 : w64 ((i : Int) + 1) = ((i + 1 : Nat) : Int) := w64_id (by omega) (by omega)
    simp only [s84_0]
    rw [cond_true_dec (by simp; omega), rdL_at hx, e1]
    rw [capK_le (by simp [cutL]; omega), cut_snoc l v i hi]
  · intro rec K
    simp only [s84_0]
    rw [cond_false_dec (by simp)]
/-! ### The level -/
def fitsN (s : Int) (l : List Int) (n : Nat) : Bool := decide (sumL (cutL l (n : Int)) ≤ s)
def best (P : Nat → Bool) : Nat → Nat
  | 0 => 0
  | n + 1 => if P (n + 1) = true then n + 1 else best P n
theorem best_le (P : Nat → Bool) : ∀ n, best P n ≤ n
  | 0 => by simp [best]
  | n + 1 => by
    have := best_le P n
    unfold best; split <;> omega
theorem best_ok (P : Nat → Bool) (h0 : P 0 = true) : ∀ n, P (best P n) = true
  | 0 => h0
  | n + 1 => by
    unfold best
    by_cases h : P (n + 1) = true
    · rw [if_pos h]; exact h
    · rw [if_neg h]; exact best_ok P h0 n
theorem best_next (P : Nat → Bool) : ∀ n, best P n = n ∨ P (best P n + 1) = false
  | 0 => .inl rfl
  | n + 1 => by
    unfold best
    by_cases h : P (n + 1) = true
    · rw [if_pos h]; exact .inl rfl
    · rw [if_neg h]
      rcases best_next P n with e | e
      · rw [e]; exact .inr (by simpa using h)
      · exact .inr e
theorem fits_zero {s : Int} {l : List Int} (hs : 0 ≤ s) (h : ∀ x ∈ l, 0 ≤ x ∧ x ≤ 64) : fitsN s l 0 = true := by
  unfold fitsN
  have : ∀ l : List Int, (∀ x ∈ l, 0 ≤ x ∧ x ≤ 64) → sumL (cutL l ((0 : Nat) : Int)) = 0 := by
    intro l
    induction l with
    | nil => intro _; rfl
    | cons x l ih =>
      intro h
      have h1 := h x (by simp)
      have h2 := ih fun y hy => h y (by simp [hy])
      simp only [cutL, List.map_cons, sumL] at h2 ⊢
      rw [h2, mn_eq]; split <;> omega
  rw [this l h]; simpa using hs
theorem supS_is (x : Int) : G102 (x, ()) = some (wi x 0 512, ()) := by
  unfold G102 F102
  rw [show G70 (x, 0, 512, ()) = some (wi x 0 512, ()) from in_is _ _ _]; rfl
theorem supI_is (x : Int) : G82 (x, ()) = some (wi x 0 512, ()) := by
  unfold G82 F82
  rw [show G44 (x, 0, 512, ()) = some (wi x 0 512, ()) from within_is _ _ _]; rfl
theorem levelS_is (s : Int) (l : List Int) (hs : wi s 0 512 = true) (hd : demB l = true) : G103 (s, l, ()) = some (((best (fitsN s l) 64 : Nat) : Int), ()) := by
  obtain ⟨h8, h⟩ := (demB_iff l).1 hd
  unfold G103 F103
  refine (iterF_for (f := s103_0 G101 G102 G104 G105) (K := fun t6 => some (t6.2.2.1, ())) (fun i => (s, l, ((best (fitsN s l) i : Nat) : Int), ((i + 1 : Nat) : Int), ())) 64 (by omega) ?_ ?_).trans rfl
  · intro i hi rec K
    have e1 : w64 (((i + 1 : Nat) : Int) + 1) = ((i + 1 + 1 : Nat) : Int) := w64_id (by omega) (by omega)
    simp only [s103_0]
    rw [cond_true_dec (by omega), demS_is l (by omega), hd, supS_is, hs, cutS_is l (by omega), e1]
    simp only [Option.bind_some, cond_true]
    rw [sumS_is 64 (by omega) (by omega) _ (by simp [cutL]; omega) (cut_bound h (by omega))]
    simp only [Option.bind_some]
    by_cases hf : sumL (cutL l ((i + 1 : Nat) : Int)) ≤ s
    · rw [cond_true_dec hf]
      have : best (fitsN s l) (i + 1) = i + 1 := by
        unfold best; rw [if_pos (by unfold fitsN; exact decide_eq_true hf)]
      rw [this]
    · rw [cond_false_dec hf]
      have : best (fitsN s l) (i + 1) = best (fitsN s l) i := by
        conv => lhs; unfold best
        rw [if_neg (by unfold fitsN; rw [decide_eq_false hf]; simp)]
      rw [this]
  · intro rec K
    simp only [s103_0]
    rw [cond_false_dec (by omega)]
theorem levelI_is (s : Int) (l : List Int) (hs : wi s 0 512 = true) (hd : demB l = true) : G83 (s, l, ()) = some (((best (fitsN s l) 64 : Nat) : Int), ()) := by
  obtain ⟨h8, h⟩ := (demB_iff l).1 hd
  have hs' := wi_true.1 hs
  have key : ∀ (n m : Nat), n ≤ 64 → n < m → iterF (s83_0 G81 G82 G84 G85) m (s, l, (n : Int), ()) (fun t6 => some (t6.2.2.1, ())) = some (((best (fitsN s l) n : Nat) : Int), ()) := by
    intro n
    induction n with
    | zero =>
      intro m _ hm
      obtain ⟨m, rfl⟩ : ∃ k, m = k + 1 := ⟨m - 1, by omega⟩
      have hf := fits_zero hs'.1 h
      unfold fitsN at hf
      rw [iterF_succ]
      simp only [s83_0]
      rw [cutI_is l hd _ (by omega)]
      simp only [Option.bind_some]
      rw [sumI_is 64 (by omega) (by omega) _ (by simp [cutL]; omega) (cut_bound h (by omega))]
      simp only [Option.bind_some]
      rw [cond_false_dec (by have := of_decide_eq_true hf; omega)]
      rfl
    | succ n ih =>
      intro m hn hm
      obtain ⟨m, rfl⟩ : ∃ k, m = k + 1 := ⟨m - 1, by omega⟩
      have e1 : w64 (((n + 1 : Nat) : Int) - 1) = (n : Int) := by rw [w64_id (by omega) (by omega)]; omega
      rw [iterF_succ]
      simp only [s83_0]
      rw [cutI_is l hd _ (by omega)]
      simp only [Option.bind_some]
      rw [sumI_is 64 (by omega) (by omega) _ (by simp [cutL]; omega) (cut_bound h (by omega))]
      simp only [Option.bind_some]
      by_cases hf : sumL (cutL l ((n + 1 : Nat) : Int)) ≤ s
      · rw [cond_false_dec (by omega)]
        have : best (fitsN s l) (n + 1) = n + 1 := by
          unfold best; rw [if_pos (by unfold fitsN; exact decide_eq_true hf)]
        rw [this]
      · rw [cond_true_dec (by omega), e1]
        have : best (fitsN s l) (n + 1) = best (fitsN s l) n := by
          conv => lhs; unfold best
          rw [if_neg (by unfold fitsN; rw [decide_eq_false hf]; simp)]
        rw [this]
        exact ih m (by omega) (by omega)
  unfold G83 F83
  dsimp only
  rw [demI_is l (by omega), hd, supI_is, hs]
  simp only [Option.bind_some, Bool.not_true, Bool.not_false, cond_true, cond_false]
  exact key 64 fuel (by omega) (by rw [fuel_eq]; omega)
/-! ### Shares -/
/-- Shares of a supply, of a level and one more for some. -/
structure SharesP (s : Int) (l R : List Int) : Prop where
  len : R.length = l.length
  ex : ∃ (v : Nat) (left : Int), v ≤ 64 ∧ fitsN s l v = true ∧ (v = 64 ∨ fitsN s l (v + 1) = false) ∧ 0 ≤ left ∧ sumL R + left = s ∧
    (∀ (j : Nat) x y, R[j]? = some x → l[j]? = some y → (y ≤ v ∧ x = y) ∨ (v < y ∧ (x = v ∨ x = v + 1) ∧ (left = 0 ∨ x = v + 1)))
theorem share_loop (s : Int) (l : List Int) (hs : wi s 0 512 = true) (hd : demB l = true) (K : Int × List Int × Int × List Int × Int × Int × Unit → Option (List Int × Unit)) :
    ∃ R left, SharesP s l R ∧ iterF (s46_0 G81 G82 G83 G84 G85) fuel ((best (fitsN s l) 64 : Nat), cutL l (best (fitsN s l) 64 : Nat), w64 (s - sumL (cutL l (best (fitsN s l) 64 : Nat))), l, Int.ofNat l.length, 0, ()) K = K ((best (fitsN s l) 64 : Nat), R, left, l, Int.ofNat l.length, Int.ofNat l.length, ()) := by
  obtain ⟨h8, h⟩ := (demB_iff l).1 hd
  have hs' := wi_true.1 hs
  have hv := best_le (fitsN s l) 64
  have hP := best_ok (fitsN s l) (fits_zero hs'.1 h) 64
  have hN := best_next (fitsN s l) 64
  generalize best (fitsN s l) 64 = v at hv hP hN ⊢
  have hc := sumL_bound 64 (by omega) (cutL l v) (cut_bound h (by omega))
  have hcl : (cutL l (v : Int)).length = l.length := by simp [cutL]
  have hf := of_decide_eq_true hP
  rw [w64_id (by omega) (by omega)]
  obtain ⟨t, ⟨R, left, rfl, i1, i2, i3, i4, i5⟩, e⟩ := iterF_all (f := s46_0 G81 G82 G83 G84 G85) (K := K) (t := ((v : Int), cutL l v, s - sumL (cutL l v), l, Int.ofNat l.length, 0, ())) l.length
    (fun i t => ∃ (R : List Int) (left : Int), t = ((v : Int), R, left, l, Int.ofNat l.length, (i : Int), ()) ∧ R.length = l.length ∧ (0 ≤ left ∧ left ≤ 512) ∧ sumL R + left = s ∧
      (∀ (j : Nat) x y, j < i → R[j]? = some x → l[j]? = some y → (y ≤ v ∧ x = y) ∨ (v < y ∧ (x = v ∨ x = v + 1) ∧ (left = 0 ∨ x = v + 1))) ∧ (∀ (j : Nat) x y, i ≤ j → R[j]? = some x → l[j]? = some y → x = mn y v))
    (by omega) ⟨cutL l v, _, rfl, hcl, ⟨by omega, by omega⟩, by omega, fun j x y hj => by omega, fun j x y _ hx hy => by rw [cutL_at, hy] at hx; simpa using hx.symm⟩
    (by
      rintro i _ hi ⟨R, left, rfl, i1, i2, i3, i4, i5⟩
      have hx : l[i]? = some l[i] := by simp
      have hr : R[i]? = some R[i] := by simp
      have e1 : w64 ((i : Int) + 1) = ((i + 1 : Nat) : Int) := w64_id (by omega) (by omega)
      have hcur := i5 i _ _ (Nat.le_refl _) hr hx
      have hmn := mn_le l[i] v
      have hb := h l[i] (by simp)
      by_cases hg : l[i] > (v : Int)
      · have hcv : R[i] = v := by rw [hcur, mn_eq, if_pos (by omega)]
        by_cases hz : left > 0
        · refine ⟨_, ⟨R.set i (v + 1), left - 1, rfl, by simp [i1], ⟨by omega, by omega⟩, ?_, ?_, ?_⟩, fun rec K => ?_⟩
          · rw [sumL_set R i R[i] _ hr]; omega
          · intro j x y hj hx' hy'
            rw [List.getElem?_set] at hx'
            by_cases hji : i = j
            · subst hji
              rw [if_pos rfl, if_pos (by omega)] at hx'
              rw [hx] at hy'
              cases hx'; cases hy'
              exact .inr ⟨hg, .inr rfl, .inr rfl⟩
            · rw [if_neg hji] at hx'
              rcases i4 j x y (by omega) hx' hy' with q | ⟨q1, q2, q3⟩
              · exact .inl q
              · exact .inr ⟨q1, q2, by omega⟩
          · intro j x y hj hx' hy'
            rw [List.getElem?_set, if_neg (by omega)] at hx'
            exact i5 j x y (by omega) hx' hy'
          · simp only [s46_0]
            rw [cond_true_dec (by simp; omega), rdL_at hx, cond_true_dec hg, cond_true_dec hz]
            have hr' := fun (K : Int → Option (List Int × Unit)) => rdL_at (K := K) hr
            simp only [hr', Int.toNat_natCast, hr, Option.bind_some]
            rw [e1, w64_id (n := left - 1) (by omega) (by omega), hcv, w64_id (by omega) (by omega)]
        · refine ⟨_, ⟨R, left, rfl, i1, i2, i3, ?_, fun j x y hj => i5 j x y (by omega)⟩, fun rec K => ?_⟩
          · intro j x y hj hx' hy'
            by_cases hji : j = i
            · subst hji
              rw [hr] at hx'; rw [hx] at hy'
              cases hx'; cases hy'
              exact .inr ⟨hg, .inl hcv, .inl (by omega)⟩
            · exact i4 j x y (by omega) hx' hy'
          · simp only [s46_0]
            rw [cond_true_dec (by simp; omega), rdL_at hx, cond_true_dec hg, cond_false_dec hz, e1]
      · refine ⟨_, ⟨R, left, rfl, i1, i2, i3, ?_, fun j x y hj => i5 j x y (by omega)⟩, fun rec K => ?_⟩
        · intro j x y hj hx' hy'
          by_cases hji : j = i
          · subst hji
            rw [hr] at hx'; rw [hx] at hy'
            cases hx'; cases hy'
            exact .inl ⟨by omega, by rw [hcur, mn_eq, if_neg (by omega)]⟩
          · exact i4 j x y (by omega) hx' hy'
        · simp only [s46_0]
          rw [cond_true_dec (by simp; omega), rdL_at hx, cond_false_dec hg, e1])
    (by
      rintro _ ⟨R, left, rfl, _⟩ rec K
      simp only [s46_0]
      rw [cond_false_dec (by simp)])
  exact ⟨R, left, ⟨i1, v, left, hv, hP, hN, i2.1, i3, fun j x y hx hy => i4 j x y (by rw [← i1]; exact (List.getElem?_eq_some_iff.mp hx).1) hx hy⟩, e⟩
/-- What is shared out: nothing, of no demands, or shares. -/
theorem share_ok (s : Int) (l : List Int) (hl : l.length ≤ 1048576) : ∃ R, G73 (s, l, ()) = some (R, ()) ∧ G46 (s, l, ()) = some (R, ()) ∧ ((R = [] ∧ (demB l && wi s 0 512) = false) ∨ ((demB l && wi s 0 512) = true ∧ SharesP s l R)) := by
  unfold G73 F73 G46 F46
  dsimp only
  rw [demS_is l hl, demI_is l hl]
  simp only [Option.bind_some]
  cases hd : demB l
  · exact ⟨[], rfl, rfl, .inl ⟨rfl, rfl⟩⟩
  · simp only [Bool.not_true, Bool.not_false, cond_true, supS_is, supI_is, Option.bind_some]
    cases hs : wi s 0 512
    · exact ⟨[], rfl, rfl, .inl ⟨rfl, rfl⟩⟩
    · obtain ⟨h8, h⟩ := (demB_iff l).1 hd
      have hb := cut_bound h (v := (best (fitsN s l) 64 : Nat)) (by omega)
      have hcl : (cutL l ((best (fitsN s l) 64 : Nat) : Int)).length ≤ 1048576 := by simp [cutL]; omega
      simp only [Bool.not_true, Bool.not_false, cond_false, levelS_is s l hs hd, levelI_is s l hs hd, Option.bind_some, cutS_is l hl, cutI_is l hd _ (show (0 : Int) ≤ ((best (fitsN s l) 64 : Nat) : Int) by omega), sumS_is 64 (by omega) (by omega) _ hcl hb, sumI_is 64 (by omega) (by omega) _ hcl hb]
      obtain ⟨R, left, hR, e⟩ := share_loop s l hs hd (fun t10 => some (t10.2.1, ()))
      have e' : s73_0 G101 G102 G103 G104 G105 = s46_0 G81 G82 G83 G84 G85 := rfl
      rw [e']
      exact ⟨R, e, e, .inr ⟨rfl, hR⟩⟩
/-- No share is above what was wanted. -/
theorem shares_le {s : Int} {l R : List Int} (h : SharesP s l R) (hd : demB l = true) {j : Nat} {x y : Int} (hx : R[j]? = some x) (hy : l[j]? = some y) : 0 ≤ x ∧ x ≤ y := by
  obtain ⟨v, left, h1, h2, h3, h4, h5, h6⟩ := h.ex
  have := ((demB_iff l).1 hd).2 y (List.mem_iff_getElem?.mpr ⟨j, hy⟩)
  rcases h6 j x y hx hy with q | q <;> omega
end Ev
