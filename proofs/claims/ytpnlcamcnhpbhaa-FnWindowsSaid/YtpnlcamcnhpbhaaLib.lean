/- Functions of the library by their contracts. -/
import Derived.Test.YtpnlcamcnhpbhaaPureA
set_option linter.unusedVariables false
set_option linter.unusedSimpArgs false
set_option maxRecDepth 100000
namespace Ev
open Go
/-! loop.example/g03017/impl.JoinTracks -/
def p7 : List SP := [.one (.r .int), .one (.r .int)]
def r7 : List SP := [.one (.o 0 .int), .one (.bool)]
abbrev T7 := List Int × List Int × Unit → Option (List Int × Bool × Unit)
abbrev N7 (f : T7) : Entry := mkE p7 r7 false f
end Ev
