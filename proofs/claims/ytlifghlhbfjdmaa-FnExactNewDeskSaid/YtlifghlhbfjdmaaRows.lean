/-
  No cell of these rows narrows 'for every input' (looked for: loops, veiled, ifaces, maps, wideKeys, modest, calm, conditions, laid).
  DERIVED. THE GIVEN ROWS OF THIS SEAT. 10 by the template 'for every input the law returns true; each argument reads behind the call as it read before'; 0 by the template 'total and deterministic' (their statements: YtlifghlhbfjdmaaTotals.lean).
  GIVEN WITH THE SEED: the statements are not yours to turn. If you find one false, say at which input.
  Laid BY PROGRAM, IN A SANDBOX (cutbox-rows.mjs): the forced cells as the released guide's own fill.sh prints them over the translation fca6a86ba28aa252… (all of the seat's roots in one cut). By AI agents, Wed Nov 11 2026. No macro, syntax, notation, axiom, sorry.
-/
import Derived.Test.YtlifghlhbfjdmaaChecked
import GoSem.Claim
import GoSem.ClaimJoined
import GoSem.ClaimMapViews
import Derived.JoinedTies
import Derived.KernelRfl
namespace Go.Proofs.Ytlifghlhbfjdmaa
/- THE CELL 'sum', in the pinned program and in every row, IS THE sha256 OF THE DUMP (.gsa) THAT YtlifghlhbfjdmaaProg.lean LOADS. Nothing in Lean hashes anything: it is a label: what it is worth is what the hold of that sum in a sandbox is worth. -/
noncomputable def Try.pinned : Pinned := { name := "ytlifghlhbfjdmaa", sum := "fca6a86ba28aa252e0289e923b1d74e2b7fcbc1b5ff3efbd53e2f1724bd21beb", checked := Try.checked }
namespace Rows
def none {H : Type} : Left H := { results := [], args := [] }

/-- 'laws.FnRuns': WHATEVER THE INPUT: true; the input reads as it did. -/
def fnRunsSpec : ChangeSpec := { name := "fnRuns", fn := fun _ => fun
  | [d] => { results := [.lit (.bool true)], args := [d] }
  | _ => none }
def fnRunsRow : OpenClaim := { program := "ytlifghlhbfjdmaa", sum := "fca6a86ba28aa252e0289e923b1d74e2b7fcbc1b5ff3efbd53e2f1724bd21beb", func := "loop.example/g03017/laws.FnRuns", spec := "fnRuns", apart := false }
def FnRunsSaid : Prop := fnRunsRow.holds Try.pinned (OpenSpec.ofChange fnRunsSpec)

/-- ITS FALSE NEIGHBOUR: 'it returns false'. Refute it at one input. -/
def fnRunsWrong : ChangeSpec := { name := "fnRuns", fn := fun _ => fun
  | [d] => { results := [.lit (.bool false)], args := [d] }
  | _ => none }
def FnRunsWrongFalsely : Prop := fnRunsRow.holds Try.pinned (OpenSpec.ofChange fnRunsWrong)

/-- 'laws.FnHigher': WHATEVER THE INPUT: true; the input reads as it did. -/
def fnHigherSpec : ChangeSpec := { name := "fnHigher", fn := fun _ => fun
  | [d] => { results := [.lit (.bool true)], args := [d] }
  | _ => none }
def fnHigherRow : OpenClaim := { program := "ytlifghlhbfjdmaa", sum := "fca6a86ba28aa252e0289e923b1d74e2b7fcbc1b5ff3efbd53e2f1724bd21beb", func := "loop.example/g03017/laws.FnHigher", spec := "fnHigher", apart := false }
def FnHigherSaid : Prop := fnHigherRow.holds Try.pinned (OpenSpec.ofChange fnHigherSpec)

/-- ITS FALSE NEIGHBOUR: 'it returns false'. Refute it at one input. -/
def fnHigherWrong : ChangeSpec := { name := "fnHigher", fn := fun _ => fun
  | [d] => { results := [.lit (.bool false)], args := [d] }
  | _ => none }
def FnHigherWrongFalsely : Prop := fnHigherRow.holds Try.pinned (OpenSpec.ofChange fnHigherWrong)

/-- 'laws.FnWindows': WHATEVER THE INPUT: true; the input reads as it did. -/
def fnWindowsSpec : ChangeSpec := { name := "fnWindows", fn := fun _ => fun
  | [d] => { results := [.lit (.bool true)], args := [d] }
  | _ => none }
def fnWindowsRow : OpenClaim := { program := "ytlifghlhbfjdmaa", sum := "fca6a86ba28aa252e0289e923b1d74e2b7fcbc1b5ff3efbd53e2f1724bd21beb", func := "loop.example/g03017/laws.FnWindows", spec := "fnWindows", apart := false }
def FnWindowsSaid : Prop := fnWindowsRow.holds Try.pinned (OpenSpec.ofChange fnWindowsSpec)

/-- ITS FALSE NEIGHBOUR: 'it returns false'. Refute it at one input. -/
def fnWindowsWrong : ChangeSpec := { name := "fnWindows", fn := fun _ => fun
  | [d] => { results := [.lit (.bool false)], args := [d] }
  | _ => none }
def FnWindowsWrongFalsely : Prop := fnWindowsRow.holds Try.pinned (OpenSpec.ofChange fnWindowsWrong)

/-- 'laws.FnTrackLevels': WHATEVER THE INPUT: true; the input reads as it did. -/
def fnTrackLevelsSpec : ChangeSpec := { name := "fnTrackLevels", fn := fun _ => fun
  | [d] => { results := [.lit (.bool true)], args := [d] }
  | _ => none }
def fnTrackLevelsRow : OpenClaim := { program := "ytlifghlhbfjdmaa", sum := "fca6a86ba28aa252e0289e923b1d74e2b7fcbc1b5ff3efbd53e2f1724bd21beb", func := "loop.example/g03017/laws.FnTrackLevels", spec := "fnTrackLevels", apart := false }
def FnTrackLevelsSaid : Prop := fnTrackLevelsRow.holds Try.pinned (OpenSpec.ofChange fnTrackLevelsSpec)

/-- ITS FALSE NEIGHBOUR: 'it returns false'. Refute it at one input. -/
def fnTrackLevelsWrong : ChangeSpec := { name := "fnTrackLevels", fn := fun _ => fun
  | [d] => { results := [.lit (.bool false)], args := [d] }
  | _ => none }
def FnTrackLevelsWrongFalsely : Prop := fnTrackLevelsRow.holds Try.pinned (OpenSpec.ofChange fnTrackLevelsWrong)

/-- 'laws.FnExactLandingBox': WHATEVER THE INPUT: true; the input reads as it did. -/
def fnExactLandingBoxSpec : ChangeSpec := { name := "fnExactLandingBox", fn := fun _ => fun
  | [d1, d2] => { results := [.lit (.bool true)], args := [d1, d2] }
  | _ => none }
def fnExactLandingBoxRow : OpenClaim := { program := "ytlifghlhbfjdmaa", sum := "fca6a86ba28aa252e0289e923b1d74e2b7fcbc1b5ff3efbd53e2f1724bd21beb", func := "loop.example/g03017/laws.FnExactLandingBox", spec := "fnExactLandingBox", apart := false }
def FnExactLandingBoxSaid : Prop := fnExactLandingBoxRow.holds Try.pinned (OpenSpec.ofChange fnExactLandingBoxSpec)

/-- ITS FALSE NEIGHBOUR: 'it returns false'. Refute it at one input. -/
def fnExactLandingBoxWrong : ChangeSpec := { name := "fnExactLandingBox", fn := fun _ => fun
  | [d1, d2] => { results := [.lit (.bool false)], args := [d1, d2] }
  | _ => none }
def FnExactLandingBoxWrongFalsely : Prop := fnExactLandingBoxRow.holds Try.pinned (OpenSpec.ofChange fnExactLandingBoxWrong)

/-- 'laws.FnExactTrackOf': WHATEVER THE INPUT: true; the input reads as it did. -/
def fnExactTrackOfSpec : ChangeSpec := { name := "fnExactTrackOf", fn := fun _ => fun
  | [d1, d2, d3] => { results := [.lit (.bool true)], args := [d1, d2, d3] }
  | _ => none }
def fnExactTrackOfRow : OpenClaim := { program := "ytlifghlhbfjdmaa", sum := "fca6a86ba28aa252e0289e923b1d74e2b7fcbc1b5ff3efbd53e2f1724bd21beb", func := "loop.example/g03017/laws.FnExactTrackOf", spec := "fnExactTrackOf", apart := false }
def FnExactTrackOfSaid : Prop := fnExactTrackOfRow.holds Try.pinned (OpenSpec.ofChange fnExactTrackOfSpec)

/-- ITS FALSE NEIGHBOUR: 'it returns false'. Refute it at one input. -/
def fnExactTrackOfWrong : ChangeSpec := { name := "fnExactTrackOf", fn := fun _ => fun
  | [d1, d2, d3] => { results := [.lit (.bool false)], args := [d1, d2, d3] }
  | _ => none }
def FnExactTrackOfWrongFalsely : Prop := fnExactTrackOfRow.holds Try.pinned (OpenSpec.ofChange fnExactTrackOfWrong)

/-- 'laws.FnExactNewDesk': WHATEVER THE INPUT: true; the input reads as it did. -/
def fnExactNewDeskSpec : ChangeSpec := { name := "fnExactNewDesk", fn := fun _ => fun
  | [] => { results := [.lit (.bool true)], args := [] }
  | _ => none }
def fnExactNewDeskRow : OpenClaim := { program := "ytlifghlhbfjdmaa", sum := "fca6a86ba28aa252e0289e923b1d74e2b7fcbc1b5ff3efbd53e2f1724bd21beb", func := "loop.example/g03017/laws.FnExactNewDesk", spec := "fnExactNewDesk", apart := false }
def FnExactNewDeskSaid : Prop := fnExactNewDeskRow.holds Try.pinned (OpenSpec.ofChange fnExactNewDeskSpec)

/-- ITS FALSE NEIGHBOUR: 'it returns false'. Refute it at one input. -/
def fnExactNewDeskWrong : ChangeSpec := { name := "fnExactNewDesk", fn := fun _ => fun
  | [] => { results := [.lit (.bool false)], args := [] }
  | _ => none }
def FnExactNewDeskWrongFalsely : Prop := fnExactNewDeskRow.holds Try.pinned (OpenSpec.ofChange fnExactNewDeskWrong)

/-- 'laws.FnLimits': WHATEVER THE INPUT: true; the input reads as it did. -/
def fnLimitsSpec : ChangeSpec := { name := "fnLimits", fn := fun _ => fun
  | [d] => { results := [.lit (.bool true)], args := [d] }
  | _ => none }
def fnLimitsRow : OpenClaim := { program := "ytlifghlhbfjdmaa", sum := "fca6a86ba28aa252e0289e923b1d74e2b7fcbc1b5ff3efbd53e2f1724bd21beb", func := "loop.example/g03017/laws.FnLimits", spec := "fnLimits", apart := false }
def FnLimitsSaid : Prop := fnLimitsRow.holds Try.pinned (OpenSpec.ofChange fnLimitsSpec)

/-- ITS FALSE NEIGHBOUR: 'it returns false'. Refute it at one input. -/
def fnLimitsWrong : ChangeSpec := { name := "fnLimits", fn := fun _ => fun
  | [d] => { results := [.lit (.bool false)], args := [d] }
  | _ => none }
def FnLimitsWrongFalsely : Prop := fnLimitsRow.holds Try.pinned (OpenSpec.ofChange fnLimitsWrong)

/-- 'laws.FnExactLiftLimit': WHATEVER THE INPUT: true; the input reads as it did. -/
def fnExactLiftLimitSpec : ChangeSpec := { name := "fnExactLiftLimit", fn := fun _ => fun
  | [d1, d2, d3] => { results := [.lit (.bool true)], args := [d1, d2, d3] }
  | _ => none }
def fnExactLiftLimitRow : OpenClaim := { program := "ytlifghlhbfjdmaa", sum := "fca6a86ba28aa252e0289e923b1d74e2b7fcbc1b5ff3efbd53e2f1724bd21beb", func := "loop.example/g03017/laws.FnExactLiftLimit", spec := "fnExactLiftLimit", apart := false }
def FnExactLiftLimitSaid : Prop := fnExactLiftLimitRow.holds Try.pinned (OpenSpec.ofChange fnExactLiftLimitSpec)

/-- ITS FALSE NEIGHBOUR: 'it returns false'. Refute it at one input. -/
def fnExactLiftLimitWrong : ChangeSpec := { name := "fnExactLiftLimit", fn := fun _ => fun
  | [d1, d2, d3] => { results := [.lit (.bool false)], args := [d1, d2, d3] }
  | _ => none }
def FnExactLiftLimitWrongFalsely : Prop := fnExactLiftLimitRow.holds Try.pinned (OpenSpec.ofChange fnExactLiftLimitWrong)

/-- 'laws.FnExactIsShow': WHATEVER THE INPUT: true; the input reads as it did. -/
def fnExactIsShowSpec : ChangeSpec := { name := "fnExactIsShow", fn := fun _ => fun
  | [d] => { results := [.lit (.bool true)], args := [d] }
  | _ => none }
def fnExactIsShowRow : OpenClaim := { program := "ytlifghlhbfjdmaa", sum := "fca6a86ba28aa252e0289e923b1d74e2b7fcbc1b5ff3efbd53e2f1724bd21beb", func := "loop.example/g03017/laws.FnExactIsShow", spec := "fnExactIsShow", unfollowed := true, recurses := true, apart := false }
def FnExactIsShowSaid : Prop := fnExactIsShowRow.holds Try.pinned (OpenSpec.ofChange fnExactIsShowSpec)

/-- ITS FALSE NEIGHBOUR: 'it returns false'. Refute it at one input. -/
def fnExactIsShowWrong : ChangeSpec := { name := "fnExactIsShow", fn := fun _ => fun
  | [d] => { results := [.lit (.bool false)], args := [d] }
  | _ => none }
def FnExactIsShowWrongFalsely : Prop := fnExactIsShowRow.holds Try.pinned (OpenSpec.ofChange fnExactIsShowWrong)

/- THE SECOND FORM. 'bulk': how many values and letters a reading holds, each counted each time it is reached (what is shared counts as often as it is met; a slice's spare places count too). A statement '..UptoSaid' is the law's where the arguments, and the package variables that the reading takes, are together of bulk at most 1048576: NARROWER than '..Said'. Prove '..Said' where nothing that the law and all that it calls make is longer than what came in: it says more and counts as full. Else prove '..UptoSaid'. A law counts once. -/
mutual
def uptoBulk {H : Type} : DataW H → Nat
  | .lit (.string bytes) => bytes.length + 1
  | .lit _ => 1
  | .nil => 1
  | .ptr d => uptoBulk d + 1
  | .slice elems spare => uptoBulkAll elems + uptoBulkAll spare + 1
  | .agg parts => uptoBulkAll parts + 1
  | .iface _ d => uptoBulk d + 1
  | .map entries => uptoBulkEntries entries + 1
  | .held _ => 1
def uptoBulkAll {H : Type} : List (DataW H) → Nat
  | [] => 0
  | d :: r => uptoBulk d + uptoBulkAll r
def uptoBulkEntries {H : Type} : List (Lit × DataW H) → Nat
  | [] => 0
  | x :: r => uptoBulkEntry x + uptoBulkEntries r
def uptoBulkEntry {H : Type} : Lit × DataW H → Nat
  | (.string bytes, d) => bytes.length + uptoBulk d + 1
  | (_, d) => uptoBulk d + 1
 end
def uptoSmall : (H : Type) → List (DataW H) → Bool := fun _ ds => decide (uptoBulkAll ds ≤ 1048576)
def OpenSpec.upto (s : _root_.Go.ChangeSpec) : _root_.Go.OpenSpec := { _root_.Go.OpenSpec.ofChange s with cond := some uptoSmall }

/-- 'laws.FnRuns', WHERE WHAT IT READS IS OF BULK AT MOST 1048576: true; the input reads as it did. -/
def fnRunsUptoRow : OpenClaim := { program := "ytlifghlhbfjdmaa", sum := "fca6a86ba28aa252e0289e923b1d74e2b7fcbc1b5ff3efbd53e2f1724bd21beb", func := "loop.example/g03017/laws.FnRuns", spec := "fnRuns", apart := false, narrowed := true }
def FnRunsUptoSaid : Prop := fnRunsUptoRow.holds Try.pinned (OpenSpec.upto fnRunsSpec)

/-- 'laws.FnHigher', WHERE WHAT IT READS IS OF BULK AT MOST 1048576: true; the input reads as it did. -/
def fnHigherUptoRow : OpenClaim := { program := "ytlifghlhbfjdmaa", sum := "fca6a86ba28aa252e0289e923b1d74e2b7fcbc1b5ff3efbd53e2f1724bd21beb", func := "loop.example/g03017/laws.FnHigher", spec := "fnHigher", apart := false, narrowed := true }
def FnHigherUptoSaid : Prop := fnHigherUptoRow.holds Try.pinned (OpenSpec.upto fnHigherSpec)

/-- 'laws.FnWindows', WHERE WHAT IT READS IS OF BULK AT MOST 1048576: true; the input reads as it did. -/
def fnWindowsUptoRow : OpenClaim := { program := "ytlifghlhbfjdmaa", sum := "fca6a86ba28aa252e0289e923b1d74e2b7fcbc1b5ff3efbd53e2f1724bd21beb", func := "loop.example/g03017/laws.FnWindows", spec := "fnWindows", apart := false, narrowed := true }
def FnWindowsUptoSaid : Prop := fnWindowsUptoRow.holds Try.pinned (OpenSpec.upto fnWindowsSpec)

/-- 'laws.FnTrackLevels', WHERE WHAT IT READS IS OF BULK AT MOST 1048576: true; the input reads as it did. -/
def fnTrackLevelsUptoRow : OpenClaim := { program := "ytlifghlhbfjdmaa", sum := "fca6a86ba28aa252e0289e923b1d74e2b7fcbc1b5ff3efbd53e2f1724bd21beb", func := "loop.example/g03017/laws.FnTrackLevels", spec := "fnTrackLevels", apart := false, narrowed := true }
def FnTrackLevelsUptoSaid : Prop := fnTrackLevelsUptoRow.holds Try.pinned (OpenSpec.upto fnTrackLevelsSpec)

/-- 'laws.FnExactLandingBox', WHERE WHAT IT READS IS OF BULK AT MOST 1048576: true; the input reads as it did. -/
def fnExactLandingBoxUptoRow : OpenClaim := { program := "ytlifghlhbfjdmaa", sum := "fca6a86ba28aa252e0289e923b1d74e2b7fcbc1b5ff3efbd53e2f1724bd21beb", func := "loop.example/g03017/laws.FnExactLandingBox", spec := "fnExactLandingBox", apart := false, narrowed := true }
def FnExactLandingBoxUptoSaid : Prop := fnExactLandingBoxUptoRow.holds Try.pinned (OpenSpec.upto fnExactLandingBoxSpec)

/-- 'laws.FnExactTrackOf', WHERE WHAT IT READS IS OF BULK AT MOST 1048576: true; the input reads as it did. -/
def fnExactTrackOfUptoRow : OpenClaim := { program := "ytlifghlhbfjdmaa", sum := "fca6a86ba28aa252e0289e923b1d74e2b7fcbc1b5ff3efbd53e2f1724bd21beb", func := "loop.example/g03017/laws.FnExactTrackOf", spec := "fnExactTrackOf", apart := false, narrowed := true }
def FnExactTrackOfUptoSaid : Prop := fnExactTrackOfUptoRow.holds Try.pinned (OpenSpec.upto fnExactTrackOfSpec)

/-- 'laws.FnExactNewDesk', WHERE WHAT IT READS IS OF BULK AT MOST 1048576: true; the input reads as it did. -/
def fnExactNewDeskUptoRow : OpenClaim := { program := "ytlifghlhbfjdmaa", sum := "fca6a86ba28aa252e0289e923b1d74e2b7fcbc1b5ff3efbd53e2f1724bd21beb", func := "loop.example/g03017/laws.FnExactNewDesk", spec := "fnExactNewDesk", apart := false, narrowed := true }
def FnExactNewDeskUptoSaid : Prop := fnExactNewDeskUptoRow.holds Try.pinned (OpenSpec.upto fnExactNewDeskSpec)

/-- 'laws.FnLimits', WHERE WHAT IT READS IS OF BULK AT MOST 1048576: true; the input reads as it did. -/
def fnLimitsUptoRow : OpenClaim := { program := "ytlifghlhbfjdmaa", sum := "fca6a86ba28aa252e0289e923b1d74e2b7fcbc1b5ff3efbd53e2f1724bd21beb", func := "loop.example/g03017/laws.FnLimits", spec := "fnLimits", apart := false, narrowed := true }
def FnLimitsUptoSaid : Prop := fnLimitsUptoRow.holds Try.pinned (OpenSpec.upto fnLimitsSpec)

/-- 'laws.FnExactLiftLimit', WHERE WHAT IT READS IS OF BULK AT MOST 1048576: true; the input reads as it did. -/
def fnExactLiftLimitUptoRow : OpenClaim := { program := "ytlifghlhbfjdmaa", sum := "fca6a86ba28aa252e0289e923b1d74e2b7fcbc1b5ff3efbd53e2f1724bd21beb", func := "loop.example/g03017/laws.FnExactLiftLimit", spec := "fnExactLiftLimit", apart := false, narrowed := true }
def FnExactLiftLimitUptoSaid : Prop := fnExactLiftLimitUptoRow.holds Try.pinned (OpenSpec.upto fnExactLiftLimitSpec)

/-- 'laws.FnExactIsShow', WHERE WHAT IT READS IS OF BULK AT MOST 1048576: true; the input reads as it did. -/
def fnExactIsShowUptoRow : OpenClaim := { program := "ytlifghlhbfjdmaa", sum := "fca6a86ba28aa252e0289e923b1d74e2b7fcbc1b5ff3efbd53e2f1724bd21beb", func := "loop.example/g03017/laws.FnExactIsShow", spec := "fnExactIsShow", unfollowed := true, recurses := true, apart := false, narrowed := true }
def FnExactIsShowUptoSaid : Prop := fnExactIsShowUptoRow.holds Try.pinned (OpenSpec.upto fnExactIsShowSpec)

end Rows
end Go.Proofs.Ytlifghlhbfjdmaa
