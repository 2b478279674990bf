/- Functions of the library by their contracts. -/
import Derived.Test.YtpnlcamcnhpbhaaGreatPureA
set_option linter.unusedVariables false
set_option linter.unusedSimpArgs false
set_option maxRecDepth 100000
namespace Ev
open Go
/-! slices.SortFunc[[]loop.example/g03017/impl.Place,loop.example/g03017/impl.Place] -/
abbrev T64 := List Place × Unit → Option (List Place × Unit)
/-- Rows that are sorted in place, by a comparison of the program. -/
def N64 (f : T64) : Entry where
  pars := [.one (.m .place), .one .f]
  res := []
  shares := false
  muts := true
  sem := fun R av bs K => match av, bs with
    | [.own 0, .fn g []], [.rows .place l] => cond (Nat.beq g 65) ((f (l, ())).bind fun x => K (.tup []) [.rows .place x.1]) none
    | _, _ => none
end Ev
