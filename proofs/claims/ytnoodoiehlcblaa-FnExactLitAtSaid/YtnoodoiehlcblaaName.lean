/- Names. -/
import Derived.Test.YtnoodoiehlcblaaPlace
set_option linter.unusedVariables false
set_option linter.unusedSimpArgs false
set_option maxRecDepth 100000
namespace Ev
open Go
/-! ### Names -/
def chOK (i : Nat) (c : UInt8) : Bool := wi (c.toNat : Int) 97 122 || (!decide (i = 0) && wi (c.toNat : Int) 48 57)
def nm : Nat → Str → Bool
  | _, [] => true
  | i, c :: r => chOK i c && nm (i + 1) r
def isNm (s : Str) : Bool := nm 0 s && wi (Int.ofNat s.length) 1 8
theorem drop_cons' {α : Type} (s : List α) (i : Nat) (h : i < s.length) : s.drop i = s[i] :: s.drop (i + 1) := by
  rw [List.drop_eq_getElem_cons h]
theorem nameS_round (s : Str) (hs : s.length ≤ 1048576) (i : Nat) (hi : i < s.length) (rec K) : s117_0 (s, (i : Int), ()) rec K = cond (chOK i s[i]) (rec (s, ((i + 1 : Nat) : Int), ())) (some (false, ())) := by
  have hx : s[i]? = some s[i] := by simp
  have hx' := fun (K : UInt8 → Option (Bool × Unit)) => rdL_at (K := K) hx
  have d0 : (i : Int) < Int.ofNat s.length := by simp; omega
  have ew : w64 ((i : Int) + 1) = ((i + 1 : Nat) : Int) := w64_id (by omega) (by omega)
  simp only [s117_0, d0, decide_true, cond_true, hx', ew]
  unfold chOK wi
  have hc : (Int.ofNat s[i].toNat) = (s[i].toNat : Int) := rfl
  simp only [hc]
  generalize (s[i].toNat : Int) = c
  by_cases c1 : c ≥ 97 <;> by_cases c2 : c ≤ 122 <;> by_cases c3 : c ≥ 48 <;> by_cases c4 : c ≤ 57 <;> by_cases h0 : i = 0 <;>
    (have c1' := c1; have c3' := c3; rw [ge_iff_le] at c1' c3'; have h0' : ((i : Int) = 0) = (i = 0) := by simp
     simp only [c1, c2, c3, c4, c1', c3', h0, h0', decide_true, decide_false, Bool.not_true, Bool.not_false, cond_true, cond_false, Bool.true_and, Bool.false_and, Bool.and_true, Bool.and_false, Bool.or_true, Bool.or_false, Bool.true_or, Bool.false_or] <;> first | rfl | omega)
noncomputable abbrev gNmS := F117
noncomputable abbrev gNm := F122 gW
theorem nameI_round (s : Str) (hs : s.length ≤ 1048576) (i : Nat) (hi : i < s.length) (rec K) : s122_0 gW (s, Int.ofNat s.length, (i : Int), ()) rec K = cond (chOK i s[i]) (rec (s, Int.ofNat s.length, ((i + 1 : Nat) : Int), ())) (some (false, ())) := by
  have hx : s[i]? = some s[i] := by simp
  have hx' := fun (K : UInt8 → Option (Bool × Unit)) => rdL_at (K := K) hx
  have d0 : (i : Int) < Int.ofNat s.length := by simp; omega
  have ew : w64 ((i : Int) + 1) = ((i + 1 : Nat) : Int) := w64_id (by omega) (by omega)
  simp only [s122_0, d0, decide_true, cond_true, hx', ew]
  unfold chOK wi
  have hc : (Int.ofNat s[i].toNat) = (s[i].toNat : Int) := rfl
  simp only [hc]
  generalize (s[i].toNat : Int) = c
  by_cases c1 : c ≥ 97 <;> by_cases c2 : c ≤ 122 <;> by_cases c3 : c ≥ 48 <;> by_cases c4 : c ≤ 57 <;> by_cases h0 : i = 0 <;>
    (have c1' := c1; have c3' := c3; rw [ge_iff_le] at c1' c3'; have h0' : ((i : Int) = 0) = (i = 0) := by simp
     have c5 : (c < 48) = ¬ (48 ≤ c) := by simp
     have c6 : (c > 57) = ¬ (c ≤ 57) := by simp
     simp only [c1, c2, c3, c4, c5, c6, c1', c3', h0, h0', not_true_eq_false, not_false_eq_true, decide_true, decide_false, Bool.not_true, Bool.not_false, cond_true, cond_false, Bool.true_and, Bool.false_and, Bool.and_true, Bool.and_false, Bool.or_true, Bool.or_false, Bool.true_or, Bool.false_or] <;> first | rfl | omega)
theorem nameS (s : Str) (hs : s.length ≤ 1048576) : gNmS (s, ()) = some (isNm s, ()) := by
  have key : ∀ (d i n : Nat), i + d = s.length → d < n → iterF s117_0 n (s, (i : Int), ()) (fun t8 => cond (decide ((Int.ofNat (List.length t8.1)) > 0)) (some ((decide ((Int.ofNat (List.length t8.1)) ≤ 8)), ())) (some (false, ()))) = some (nm i (s.drop i) && wi (Int.ofNat s.length) 1 8, ()) := by
    intro d
    induction d with
    | zero =>
      intro i n hd hn
      obtain ⟨n, rfl⟩ : ∃ k, n = k + 1 := ⟨n - 1, by omega⟩
      rw [iterF_succ]; simp only [s117_0]
      rw [cond_false_dec (by simp; omega), List.drop_eq_nil_of_le (by omega)]
      unfold wi
      by_cases h : Int.ofNat s.length > 0
      · rw [cond_true_dec h, decide_eq_true (by omega : 1 ≤ Int.ofNat s.length)]; rfl
      · rw [cond_false_dec h, decide_eq_false (by omega : ¬ 1 ≤ Int.ofNat s.length)]; rfl
    | succ d ih =>
      intro i n hd hn
      obtain ⟨n, rfl⟩ : ∃ k, n = k + 1 := ⟨n - 1, by omega⟩
      have hi : i < s.length := by omega
      rw [iterF_succ, nameS_round s hs i hi, drop_cons' s i hi]
      simp only [nm]
      cases hc : chOK i s[i]
      · rfl
      · rw [cond_true, ih (i + 1) n (by omega) (by omega)]; rfl
  exact key s.length 0 fuel (by omega) (by rw [fuel_eq]; omega)
theorem nameI (s : Str) (hs : s.length ≤ 1048576) : gNm (s, ()) = some (isNm s, ()) := by
  have key : ∀ (d i n : Nat), i + d = s.length → d < n → iterF (s122_0 gW) n (s, Int.ofNat s.length, (i : Int), ()) (fun t8 => (gW ((Int.ofNat (List.length t8.1)), 1, 8, ())).bind fun x9 => some (x9.1, ())) = some (nm i (s.drop i) && wi (Int.ofNat s.length) 1 8, ()) := by
    intro d
    induction d with
    | zero =>
      intro i n hd hn
      obtain ⟨n, rfl⟩ : ∃ k, n = k + 1 := ⟨n - 1, by omega⟩
      rw [iterF_succ]; simp only [s122_0]
      rw [cond_false_dec (by simp; omega), List.drop_eq_nil_of_le (by omega), within_is]
      rfl
    | succ d ih =>
      intro i n hd hn
      obtain ⟨n, rfl⟩ : ∃ k, n = k + 1 := ⟨n - 1, by omega⟩
      have hi : i < s.length := by omega
      rw [iterF_succ, nameI_round s hs i hi, drop_cons' s i hi]
      simp only [nm]
      cases hc : chOK i s[i]
      · rfl
      · rw [cond_true, ih (i + 1) n (by omega) (by omega)]; rfl
  exact key s.length 0 fuel (by omega) (by rw [fuel_eq]; omega)
end Ev
