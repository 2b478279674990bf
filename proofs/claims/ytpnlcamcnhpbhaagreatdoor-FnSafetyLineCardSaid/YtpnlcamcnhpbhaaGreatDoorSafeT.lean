/- What is told of a show's safety. -/
import Derived.Test.YtpnlcamcnhpbhaaGreatDoorText
set_option linter.unusedVariables false
set_option linter.unusedSimpArgs false
set_option maxRecDepth 100000
namespace Ev
open Go
def noT : Str := [110, 111, 116, 104, 105, 110, 103, 32, 116, 111, 32, 115, 97, 121]
def safeT : Str := [115, 97, 102, 101]
/-- What is told of a drop that lands outside. -/
def wetT (r : List Place) (a : Throw × Nat) : Str := ((((((([119, 101, 116, 58, 32] ++ a.1.name) ++ [32, 97, 116, 32]) ++ Go.Lib.itoa a.1.born) ++ [32, 108, 97, 110, 100, 115, 32, 97, 116, 32]) ++ pText (wq r a.1 a.2)) ++ [32, 105, 110, 32]) ++ pText (wdV (a.2 : Int) r))
noncomputable def safeL (s : ShowT) (r : List Place) (b : Bool) (c : Box) : Str := if showB s = true ∧ b = true ∧ isBx c = true then (wwL s r c).elim safeT (wetT r) else noT
theorem throw_name {s : ShowT} (h : ShowV s) {x : Throw} (hx : x ∈ throwsL s) : x.name.length ≤ 1048576 := by
  obtain ⟨i, d, hi, _, e, _⟩ := (throws_mem h hx).dev
  rw [e]
  exact (h.ok.devs d (List.mem_of_getElem? hi)).1
theorem safeLI_is (s : ShowT) (h : ShowOK s) (r : List Place) (hr : r.length ≤ 1048576) (c : Box) (b : Bool) (hb : G36 (r, ()) = some (b, ())) : G11 (s, r, c, ()) = some (safeL s r b c, ()) := by
  obtain ⟨b', r1, r2, r3⟩ := roseI_is r hr
  obtain rfl : b' = b := by rw [hb] at r1; cases r1; rfl
  unfold G11 F11 safeL
  simp only [es_show]
  rw [showI_is s h, r1]
  simp only [Option.bind_some, boxI_is]
  by_cases hgo : showB s = true ∧ b' = true ∧ isBx c = true
  · rw [if_pos hgo]
    obtain ⟨hsb, rfl, hc⟩ := hgo
    have hv := showV_of h hsb
    obtain ⟨p1, p2, _⟩ := r3 rfl
    rw [hsb, hc, wetDrop_is hv hr r1 hc]
    simp only [Bool.not_true, Bool.not_false, cond_true, cond_false]
    cases hw : wwL s r c with
    | none => rfl
    | some a =>
      obtain ⟨x, k⟩ := a
      have hx := (hitL_of hw).1
      have hn := throw_name hv hx
      have hbo := (throws_mem hv hx).born
      have ht := hv.tick
      have hi := itoa_len (n := x.born) (by omega) (by omega)
      have l1 := pText_len (wq r x k)
      have l2 := pText_len (wdV (k : Int) r)
      simp only [Option.elim, Option.bind_some, Bool.not_true, cond_false, numI (n := x.born) (by omega) (by omega), fpI]
      simp only [List.length_append, List.length_cons, List.length_nil]
      rw [capK_le (by omega), capK_le (by omega), capK_le (by omega), capK_le (by omega), capK_le (by omega), capK_le (by omega), capK_le (by omega)]
      rfl
  · rw [if_neg hgo]
    cases hsb : showB s
    · rfl
    · cases b'
      · rfl
      · cases hc : isBx c
        · rfl
        · exact absurd ⟨hsb, rfl, hc⟩ hgo
end Ev
