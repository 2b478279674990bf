/- The functions of the program with all that they call. -/
import Derived.Test.YtpnlcamcnhpbhaaGreatFn2
import Derived.Test.YtpnlcamcnhpbhaaGreatPureA
set_option linter.unusedVariables false
namespace Ev
open Go
noncomputable abbrev G161 := F161
theorem okG161 : OK Proofs.Tryz.prog 161 (mkE p161 r161 false G161) := ok161
noncomputable abbrev G115 := F115 G161
theorem okG115 : OK Proofs.Tryz.prog 115 (mkE p115 r115 false G115) := ok115 okG161
noncomputable abbrev G114 := F114
theorem okG114 : OK Proofs.Tryz.prog 114 (mkE p114 r114 false G114) := ok114
noncomputable abbrev G65 := F65 G115 G114
theorem okG65 : OK Proofs.Tryz.prog 65 (mkE p65 r65 false G65) := ok65 okG115 okG114
end Ev
