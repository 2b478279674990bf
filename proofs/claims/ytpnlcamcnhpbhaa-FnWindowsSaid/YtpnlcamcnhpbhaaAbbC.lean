/- The functions of the program with all that they call. -/
import Derived.Test.YtpnlcamcnhpbhaaFn
import Derived.Test.YtpnlcamcnhpbhaaPureA
set_option linter.unusedVariables false
namespace Ev
open Go
noncomputable abbrev G27 := F27
theorem okG27 : OK Proofs.Try.prog 27 (mkE p27 r27 false G27) := ok27
noncomputable abbrev G15 := F15 G27
theorem okG15 : OK Proofs.Try.prog 15 (mkE p15 r15 false G15) := ok15 okG27
end Ev
