/- Functions of the library by their contracts. -/
import Derived.Test.YtpnlcamcnhpbhaaGreatDoorPureA
import Derived.Test.YtpnlcamcnhpbhaaGreatDoorShelf
import Derived.Lib.ItoaNum
import Derived.Lib.TrimByte
set_option linter.unusedVariables false
set_option linter.unusedSimpArgs false
set_option maxRecDepth 100000
namespace Ev
open Go
/-- A number in decimals. -/
def itoaF (a : Int × Unit) : Option (Str × Unit) := if -9223372036854775808 ≤ a.1 ∧ a.1 ≤ 9223372036854775807 then some (Go.Lib.itoa a.1, ()) else none
theorem chg_grow (w : World) (k : Nat) (os : Array Obj) : Chg (fun _ => False) w (Go.Sort.grow (w.drewN k) os) :=
  ⟨rfl, rfl, rfl, by simp [Go.Sort.grow, World.drewN], fun b hb _ => by simp only [Go.Sort.grow, World.drewN]; rw [Array.getElem?_append_left hb], Nat.le_add_right _ _⟩
theorem tab_pow {F : Nat → Prop} {w : World} (h : Glob F w) : Go.Lib.TabIs Proofs.Tryz.prog w "internal/strconv.uint64pow10" .u64 Go.Lib.pow10Tab := by
  obtain ⟨_, cs, e, r, h1, h2⟩ := h (0, fun cs => cs = (Go.Lib.pow10Tab.map fun z => Value.int .u64 z).toArray) (by unfold GP; simp)
  have hg : Proofs.Tryz.prog.globalNamed "internal/strconv.uint64pow10" = some 0 := by kernel_rfl
  simp only at h1 h2
  unfold Go.Lib.TabIs World.var?
  rw [hg, Option.bind_some, h1, h2]
/-! strconv.Itoa -/
def p80 : List SP := [.one (.int .i64)]
def r80 : List SP := [.one (.str)]
abbrev T80 := Int × Unit → Option (Str × Unit)
abbrev N80 (f : T80) : Entry := mkE p80 r80 false f
noncomputable def F80 : densS p80 → Option (densS (muts p80 ++ r80)) := itoaF
theorem ok80 : OK Proofs.Tryz.prog 80 (mkE p80 r80 false F80) := by
  refine ok_plain Proofs.Tryz.func80 (by kernel_rfl) (of_decide_eq_false (by kernel_rfl)) (fun a => rfl) (fun a => rfl) (fun x => ⟨rfl, rfl⟩) fun a x hx w F hg hs => ?_
  unfold F80 itoaF at hx
  split at hx
  · rename_i hr
    cases hx
    refine (Proofs.Tryz.strconv_Itoa a.1 hr.1 hr.2 w (tab_pow hg)).mono ?_
    rintro e w' ⟨rfl, k, os, rfl⟩
    exact ⟨rfl, chg_grow w k os⟩
  · cases hx
/-- A text without one letter at its end. -/
def trimRF (a : Str × Str × Unit) : Option (Str × Unit) := match a.2.1 with
  | [c] => if c.toNat < 128 ∧ a.1.length ≤ 9223372036854775807 then some (Go.Lib.trimRightB a.1 c, ()) else none
  | _ => none
/-! strings.TrimRight -/
def p114 : List SP := [.one (.str), .one (.str)]
def r114 : List SP := [.one (.str)]
abbrev T114 := Str × Str × Unit → Option (Str × Unit)
abbrev N114 (f : T114) : Entry := mkE p114 r114 false f
noncomputable def F114 : densS p114 → Option (densS (muts p114 ++ r114)) := trimRF
theorem ok114 : OK Proofs.Tryz.prog 114 (mkE p114 r114 false F114) := by
  refine ok_plain Proofs.Tryz.func114 (by kernel_rfl) (of_decide_eq_false (by kernel_rfl)) (fun a => rfl) (fun a => rfl) (fun x => ⟨rfl, rfl⟩) fun a x hx w F hg hs => ?_
  obtain ⟨s, t, u⟩ := a
  unfold F114 trimRF at hx
  split at hx
  · rename_i c hc
    simp only at hc
    subst hc
    split at hx
    · rename_i hr
      cases hx
      refine (Proofs.Tryz.strings_TrimRight_one ⟨⟨s⟩⟩ c hr.1 w (by simpa [ByteArray.size] using hr.2)).mono ?_
      rintro e w' ⟨rfl, rfl⟩
      exact ⟨rfl, Chg.refl _ _⟩
    · cases hx
  · cases hx
end Ev
