/- A function that calls itself: numbers in decimals. -/
import Derived.Test.YtpnlcamcnhpbhaaGreatDoorFn 
import Derived.Test.YtpnlcamcnhpbhaaGreatDoorPureA
import Derived.Lib.ItoaNum
set_option linter.unusedVariables false
set_option linter.unusedSimpArgs false
set_option maxRecDepth 100000
namespace Ev
open Go
theorem ok_mono {P : Program} {f : Nat} {ps rs : List SP} {sh : Bool} {G G' : densS ps → Option (densS (muts ps ++ rs))} (h : OK P f (mkE ps rs sh G')) (hg : ∀ a x, G a = some x → G' a = some x) : OK P f (mkE ps rs sh G) := by
  refine ⟨fun R av bs K r hs => h.ent R av bs K r ?_, h.fn⟩
  simp only [mkE, Option.bind_eq_some_iff] at hs ⊢
  obtain ⟨a, h1, x, h2, h3⟩ := hs
  exact ⟨a, h1, x, hg a x h2, h3⟩
theorem ok_none {P : Program} {f : Nat} {fn : Func} {ps rs : List SP} {sh : Bool} {G : densS ps → Option (densS (muts ps ++ rs))} (hf : P.funcs[f]? = some fn) (hb : fn.body.isNone = false) (hn : fn.name ≠ "runtime.NumGoroutine") (hg : ∀ a, G a = none) : OK P f (mkE ps rs sh G) := by
  refine ⟨fun R av bs K r hs => ?_, fn, hf, hb, hn⟩
  simp only [mkE, Option.bind_eq_some_iff] at hs
  obtain ⟨a, _, x, h2, _⟩ := hs
  rw [hg a] at h2; cases h2
def measN (n : Int) : Nat := 2 * n.natAbs + if n < 0 then 1 else 0
/-- A number in decimals, by so many calls. -/
def itoaG (d : Nat) (a : Int × Unit) : Option (Str × Unit) := if (-4611686018427387904 < a.1 ∧ a.1 < 4611686018427387904) ∧ measN a.1 < d then some (Go.Lib.itoa a.1, ()) else none
theorem decDigits_len (k : Nat) : ∀ u : Nat, u < 10 ^ (k + 1) → (Go.Lib.decDigits u).length ≤ k + 1 := by
  induction k with
  | zero => intro u hu; rw [Go.Lib.decDigits_one (by simpa using hu)]; simp
  | succ k ih =>
    intro u hu
    rw [Go.Lib.decDigits]
    split
    · simp
    · have := ih (u / 10) (by rw [Nat.div_lt_iff_lt_mul (by omega)]; rw [Nat.pow_succ] at hu; exact hu)
      simp only [List.length_append, List.length_cons, List.length_nil]; omega
theorem dec_len {u : Nat} (h : u < 4611686018427387904) : (Go.Lib.decDigits u).length ≤ 19 := decDigits_len 18 u (by omega)
theorem itoa_nn {n : Int} (h : 0 ≤ n) : Go.Lib.itoa n = Go.Lib.decDigits n.toNat := by unfold Go.Lib.itoa; rw [if_neg (by omega)]
theorem itoa_neg {n : Int} (h : n < 0) : Go.Lib.itoa n = 45 :: Go.Lib.decDigits (-n).toNat := by
  unfold Go.Lib.itoa; rw [if_pos h]
  congr 2
  omega
theorem dig_is {n : Int} (h0 : 0 ≤ n) (h1 : n < 4611686018427387904) : IntKind.wrap .u8 (w64 (48 + Int.tmod n 10)) = ((48 + n.toNat % 10 : Nat) : Int) := by
  have e : Int.tmod n 10 = ((n.toNat % 10 : Nat) : Int) := by rw [Int.tmod_eq_emod_of_nonneg h0]; omega
  rw [e, w64_id (by omega) (by omega)]
  have hd : n.toNat % 10 < 10 := Nat.mod_lt _ (by omega)
  generalize n.toNat % 10 = m at hd ⊢
  simp [IntKind.wrap, IntKind.signed, IntKind.bits]
  omega
end Ev
