/- The functions of the program with all that they call. -/
import Derived.Test.YtpnlcamcnhpbhaaCat
import Derived.Test.YtpnlcamcnhpbhaaFn
import Derived.Test.YtpnlcamcnhpbhaaPureA
set_option linter.unusedVariables false
namespace Ev
open Go
noncomputable abbrev G6 := F6
theorem okG6 : OK Proofs.Try.prog 6 (mkE p6 r6 false G6) := ok6
noncomputable abbrev G29 := F29
theorem okG29 : OK Proofs.Try.prog 29 (mkE p29 r29 false G29) := ok29
noncomputable abbrev G19 := F19 G29
theorem okG19 : OK Proofs.Try.prog 19 (mkE p19 r19 false G19) := ok19 okG29
noncomputable abbrev G5 := F5 G19
theorem okG5 : OK Proofs.Try.prog 5 (mkE p5 r5 false G5) := ok5 okG19
noncomputable abbrev G8 := F8
theorem okG8 : OK Proofs.Try.prog 8 (mkE p8 r8 false G8) := ok8
noncomputable abbrev G9 := F9
theorem okG9 : OK Proofs.Try.prog 9 (mkE p9 r9 false G9) := ok9
noncomputable abbrev G10 := F10
theorem okG10 : OK Proofs.Try.prog 10 (mkE p10 r10 false G10) := ok10
noncomputable abbrev G3 := F3 G6 G5 G7 G8 G9 G10
theorem okG3 : OK Proofs.Try.prog 3 (mkE p3 r3 false G3) := ok3 okG6 okG5 okG7 okG8 okG9 okG10
noncomputable abbrev G11 := F11
theorem okG11 : OK Proofs.Try.prog 11 (mkE p11 r11 false G11) := ok11
noncomputable abbrev G21 := F21
theorem okG21 : OK Proofs.Try.prog 21 (mkE p21 r21 true G21) := ok21
noncomputable abbrev G33 := F33
theorem okG33 : OK Proofs.Try.prog 33 (mkE p33 r33 true G33) := ok33
noncomputable abbrev G25 := F25 G33
theorem okG25 : OK Proofs.Try.prog 25 (mkE p25 r25 true G25) := ok25 okG33
noncomputable abbrev G32 := F32 G25
theorem okG32 : OK Proofs.Try.prog 32 (mkE p32 r32 true G32) := ok32 okG25
noncomputable abbrev G23 := F23 G25
theorem okG23 : OK Proofs.Try.prog 23 (mkE p23 r23 true G23) := ok23 okG25
noncomputable abbrev G31 := F31 G25 G32 G23
theorem okG31 : OK Proofs.Try.prog 31 (mkE p31 r31 true G31) := ok31 okG25 okG32 okG23
noncomputable abbrev G24 := F24 G32
theorem okG24 : OK Proofs.Try.prog 24 (mkE p24 r24 true G24) := ok24 okG32
noncomputable abbrev G22 := F22 G31 G25 G24 G32
theorem okG22 : OK Proofs.Try.prog 22 (mkE p22 r22 true G22) := ok22 okG31 okG25 okG24 okG32
noncomputable abbrev G12 := F12 G21 G22 G23 G24 G25
theorem okG12 : OK Proofs.Try.prog 12 (mkE p12 r12 false G12) := ok12 okG21 okG22 okG23 okG24 okG25
noncomputable abbrev G26 := F26
theorem okG26 : OK Proofs.Try.prog 26 (mkE p26 r26 false G26) := ok26
noncomputable abbrev G13 := F13 G15 G26
theorem okG13 : OK Proofs.Try.prog 13 (mkE p13 r13 false G13) := ok13 okG15 okG26
noncomputable abbrev G14 := F14 G19
theorem okG14 : OK Proofs.Try.prog 14 (mkE p14 r14 false G14) := ok14 okG19
noncomputable abbrev G16 := F16
theorem okG16 : OK Proofs.Try.prog 16 (mkE p16 r16 false G16) := ok16
noncomputable abbrev G28 := F28
theorem okG28 : OK Proofs.Try.prog 28 (mkE p28 r28 false G28) := ok28
noncomputable abbrev G17 := F17 G15 G28
theorem okG17 : OK Proofs.Try.prog 17 (mkE p17 r17 false G17) := ok17 okG15 okG28
noncomputable abbrev G18 := F18 G15
theorem okG18 : OK Proofs.Try.prog 18 (mkE p18 r18 false G18) := ok18 okG15
noncomputable abbrev G4 := F4 G11 G12 G13 G14 G15 G7 G16 G17 G18
theorem okG4 : OK Proofs.Try.prog 4 (mkE p4 r4 false G4) := ok4 okG11 okG12 okG13 okG14 okG15 okG7 okG16 okG17 okG18
end Ev
