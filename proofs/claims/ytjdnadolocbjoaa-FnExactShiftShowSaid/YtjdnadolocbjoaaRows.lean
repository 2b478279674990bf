/-
  No cell of these rows narrows 'for every input' (looked for: loops, veiled, ifaces, maps, wideKeys, modest, calm, conditions, laid).
  DERIVED. THE GIVEN ROWS OF THIS SEAT. 7 by the template 'for every input the law returns true; each argument reads behind the call as it read before'; 0 by the template 'total and deterministic' (their statements: YtjdnadolocbjoaaTotals.lean).
  GIVEN WITH THE SEED: the statements are not yours to turn. If you find one false, say at which input.
  Laid BY PROGRAM, IN A SANDBOX (cutbox-rows.mjs): the forced cells as the released guide's own fill.sh prints them over the translation c6c1ff7ad10f3236… (all of the seat's roots in one cut). By AI agents, Wed Nov 11 2026. No macro, syntax, notation, axiom, sorry.
-/
import Derived.Test.YtjdnadolocbjoaaChecked
import GoSem.Claim
import GoSem.ClaimJoined
import GoSem.ClaimMapViews
import Derived.JoinedTies
import Derived.KernelRfl
namespace Go.Proofs.Ytjdnadolocbjoaa
/- THE CELL 'sum', in the pinned program and in every row, IS THE sha256 OF THE DUMP (.gsa) THAT YtjdnadolocbjoaaProg.lean LOADS. Nothing in Lean hashes anything: it is a label: what it is worth is what the hold of that sum in a sandbox is worth. -/
noncomputable def Try.pinned : Pinned := { name := "ytjdnadolocbjoaa", sum := "c6c1ff7ad10f3236ba455ccd6ea69a90f50bd769ec5cd05615fdac054d34bccf", checked := Try.checked }
namespace Rows
def none {H : Type} : Left H := { results := [], args := [] }

/-- 'laws.FnTrackLevels': WHATEVER THE INPUT: true; the input reads as it did. -/
def fnTrackLevelsSpec : ChangeSpec := { name := "fnTrackLevels", fn := fun _ => fun
  | [d] => { results := [.lit (.bool true)], args := [d] }
  | _ => none }
def fnTrackLevelsRow : OpenClaim := { program := "ytjdnadolocbjoaa", sum := "c6c1ff7ad10f3236ba455ccd6ea69a90f50bd769ec5cd05615fdac054d34bccf", func := "loop.example/g03017/laws.FnTrackLevels", spec := "fnTrackLevels", apart := false }
def FnTrackLevelsSaid : Prop := fnTrackLevelsRow.holds Try.pinned (OpenSpec.ofChange fnTrackLevelsSpec)

/-- ITS FALSE NEIGHBOUR: 'it returns false'. Refute it at one input. -/
def fnTrackLevelsWrong : ChangeSpec := { name := "fnTrackLevels", fn := fun _ => fun
  | [d] => { results := [.lit (.bool false)], args := [d] }
  | _ => none }
def FnTrackLevelsWrongFalsely : Prop := fnTrackLevelsRow.holds Try.pinned (OpenSpec.ofChange fnTrackLevelsWrong)

/-- 'laws.FnLimits': WHATEVER THE INPUT: true; the input reads as it did. -/
def fnLimitsSpec : ChangeSpec := { name := "fnLimits", fn := fun _ => fun
  | [d] => { results := [.lit (.bool true)], args := [d] }
  | _ => none }
def fnLimitsRow : OpenClaim := { program := "ytjdnadolocbjoaa", sum := "c6c1ff7ad10f3236ba455ccd6ea69a90f50bd769ec5cd05615fdac054d34bccf", func := "loop.example/g03017/laws.FnLimits", spec := "fnLimits", apart := false }
def FnLimitsSaid : Prop := fnLimitsRow.holds Try.pinned (OpenSpec.ofChange fnLimitsSpec)

/-- ITS FALSE NEIGHBOUR: 'it returns false'. Refute it at one input. -/
def fnLimitsWrong : ChangeSpec := { name := "fnLimits", fn := fun _ => fun
  | [d] => { results := [.lit (.bool false)], args := [d] }
  | _ => none }
def FnLimitsWrongFalsely : Prop := fnLimitsRow.holds Try.pinned (OpenSpec.ofChange fnLimitsWrong)

/-- 'laws.FnLifts': WHATEVER THE INPUT: true; the input reads as it did. -/
def fnLiftsSpec : ChangeSpec := { name := "fnLifts", fn := fun _ => fun
  | [d] => { results := [.lit (.bool true)], args := [d] }
  | _ => none }
def fnLiftsRow : OpenClaim := { program := "ytjdnadolocbjoaa", sum := "c6c1ff7ad10f3236ba455ccd6ea69a90f50bd769ec5cd05615fdac054d34bccf", func := "loop.example/g03017/laws.FnLifts", spec := "fnLifts", unfollowed := true, recurses := true, apart := false }
def FnLiftsSaid : Prop := fnLiftsRow.holds Try.pinned (OpenSpec.ofChange fnLiftsSpec)

/-- ITS FALSE NEIGHBOUR: 'it returns false'. Refute it at one input. -/
def fnLiftsWrong : ChangeSpec := { name := "fnLifts", fn := fun _ => fun
  | [d] => { results := [.lit (.bool false)], args := [d] }
  | _ => none }
def FnLiftsWrongFalsely : Prop := fnLiftsRow.holds Try.pinned (OpenSpec.ofChange fnLiftsWrong)

/-- 'laws.FnShiftedShow': WHATEVER THE INPUT: true; the input reads as it did. -/
def fnShiftedShowSpec : ChangeSpec := { name := "fnShiftedShow", fn := fun _ => fun
  | [d] => { results := [.lit (.bool true)], args := [d] }
  | _ => none }
def fnShiftedShowRow : OpenClaim := { program := "ytjdnadolocbjoaa", sum := "c6c1ff7ad10f3236ba455ccd6ea69a90f50bd769ec5cd05615fdac054d34bccf", func := "loop.example/g03017/laws.FnShiftedShow", spec := "fnShiftedShow", unfollowed := true, recurses := true, apart := false }
def FnShiftedShowSaid : Prop := fnShiftedShowRow.holds Try.pinned (OpenSpec.ofChange fnShiftedShowSpec)

/-- ITS FALSE NEIGHBOUR: 'it returns false'. Refute it at one input. -/
def fnShiftedShowWrong : ChangeSpec := { name := "fnShiftedShow", fn := fun _ => fun
  | [d] => { results := [.lit (.bool false)], args := [d] }
  | _ => none }
def FnShiftedShowWrongFalsely : Prop := fnShiftedShowRow.holds Try.pinned (OpenSpec.ofChange fnShiftedShowWrong)

/-- 'laws.FnLit': WHATEVER THE INPUT: true; the input reads as it did. -/
def fnLitSpec : ChangeSpec := { name := "fnLit", fn := fun _ => fun
  | [d] => { results := [.lit (.bool true)], args := [d] }
  | _ => none }
def fnLitRow : OpenClaim := { program := "ytjdnadolocbjoaa", sum := "c6c1ff7ad10f3236ba455ccd6ea69a90f50bd769ec5cd05615fdac054d34bccf", func := "loop.example/g03017/laws.FnLit", spec := "fnLit", unfollowed := true, recurses := true, apart := false }
def FnLitSaid : Prop := fnLitRow.holds Try.pinned (OpenSpec.ofChange fnLitSpec)

/-- ITS FALSE NEIGHBOUR: 'it returns false'. Refute it at one input. -/
def fnLitWrong : ChangeSpec := { name := "fnLit", fn := fun _ => fun
  | [d] => { results := [.lit (.bool false)], args := [d] }
  | _ => none }
def FnLitWrongFalsely : Prop := fnLitRow.holds Try.pinned (OpenSpec.ofChange fnLitWrong)

/-- 'laws.FnWater': WHATEVER THE INPUT: true; the input reads as it did. -/
def fnWaterSpec : ChangeSpec := { name := "fnWater", fn := fun _ => fun
  | [d] => { results := [.lit (.bool true)], args := [d] }
  | _ => none }
def fnWaterRow : OpenClaim := { program := "ytjdnadolocbjoaa", sum := "c6c1ff7ad10f3236ba455ccd6ea69a90f50bd769ec5cd05615fdac054d34bccf", func := "loop.example/g03017/laws.FnWater", spec := "fnWater", unfollowed := true, recurses := true, apart := false }
def FnWaterSaid : Prop := fnWaterRow.holds Try.pinned (OpenSpec.ofChange fnWaterSpec)

/-- ITS FALSE NEIGHBOUR: 'it returns false'. Refute it at one input. -/
def fnWaterWrong : ChangeSpec := { name := "fnWater", fn := fun _ => fun
  | [d] => { results := [.lit (.bool false)], args := [d] }
  | _ => none }
def FnWaterWrongFalsely : Prop := fnWaterRow.holds Try.pinned (OpenSpec.ofChange fnWaterWrong)

/-- 'laws.FnExactShiftShow': WHATEVER THE INPUT: true; the input reads as it did. -/
def fnExactShiftShowSpec : ChangeSpec := { name := "fnExactShiftShow", fn := fun _ => fun
  | [d1, d2] => { results := [.lit (.bool true)], args := [d1, d2] }
  | _ => none }
def fnExactShiftShowRow : OpenClaim := { program := "ytjdnadolocbjoaa", sum := "c6c1ff7ad10f3236ba455ccd6ea69a90f50bd769ec5cd05615fdac054d34bccf", func := "loop.example/g03017/laws.FnExactShiftShow", spec := "fnExactShiftShow", unfollowed := true, recurses := true, apart := false }
def FnExactShiftShowSaid : Prop := fnExactShiftShowRow.holds Try.pinned (OpenSpec.ofChange fnExactShiftShowSpec)

/-- ITS FALSE NEIGHBOUR: 'it returns false'. Refute it at one input. -/
def fnExactShiftShowWrong : ChangeSpec := { name := "fnExactShiftShow", fn := fun _ => fun
  | [d1, d2] => { results := [.lit (.bool false)], args := [d1, d2] }
  | _ => none }
def FnExactShiftShowWrongFalsely : Prop := fnExactShiftShowRow.holds Try.pinned (OpenSpec.ofChange fnExactShiftShowWrong)

/- THE SECOND FORM. 'bulk': how many values and letters a reading holds, each counted each time it is reached (what is shared counts as often as it is met; a slice's spare places count too). A statement '..UptoSaid' is the law's where the arguments, and the package variables that the reading takes, are together of bulk at most 1048576: NARROWER than '..Said'. Prove '..Said' where nothing that the law and all that it calls make is longer than what came in: it says more and counts as full. Else prove '..UptoSaid'. A law counts once. -/
mutual
def uptoBulk {H : Type} : DataW H → Nat
  | .lit (.string bytes) => bytes.length + 1
  | .lit _ => 1
  | .nil => 1
  | .ptr d => uptoBulk d + 1
  | .slice elems spare => uptoBulkAll elems + uptoBulkAll spare + 1
  | .agg parts => uptoBulkAll parts + 1
  | .iface _ d => uptoBulk d + 1
  | .map entries => uptoBulkEntries entries + 1
  | .held _ => 1
def uptoBulkAll {H : Type} : List (DataW H) → Nat
  | [] => 0
  | d :: r => uptoBulk d + uptoBulkAll r
def uptoBulkEntries {H : Type} : List (Lit × DataW H) → Nat
  | [] => 0
  | x :: r => uptoBulkEntry x + uptoBulkEntries r
def uptoBulkEntry {H : Type} : Lit × DataW H → Nat
  | (.string bytes, d) => bytes.length + uptoBulk d + 1
  | (_, d) => uptoBulk d + 1
 end
def uptoSmall : (H : Type) → List (DataW H) → Bool := fun _ ds => decide (uptoBulkAll ds ≤ 1048576)
def OpenSpec.upto (s : _root_.Go.ChangeSpec) : _root_.Go.OpenSpec := { _root_.Go.OpenSpec.ofChange s with cond := some uptoSmall }

/-- 'laws.FnTrackLevels', WHERE WHAT IT READS IS OF BULK AT MOST 1048576: true; the input reads as it did. -/
def fnTrackLevelsUptoRow : OpenClaim := { program := "ytjdnadolocbjoaa", sum := "c6c1ff7ad10f3236ba455ccd6ea69a90f50bd769ec5cd05615fdac054d34bccf", func := "loop.example/g03017/laws.FnTrackLevels", spec := "fnTrackLevels", apart := false, narrowed := true }
def FnTrackLevelsUptoSaid : Prop := fnTrackLevelsUptoRow.holds Try.pinned (OpenSpec.upto fnTrackLevelsSpec)

/-- 'laws.FnLimits', WHERE WHAT IT READS IS OF BULK AT MOST 1048576: true; the input reads as it did. -/
def fnLimitsUptoRow : OpenClaim := { program := "ytjdnadolocbjoaa", sum := "c6c1ff7ad10f3236ba455ccd6ea69a90f50bd769ec5cd05615fdac054d34bccf", func := "loop.example/g03017/laws.FnLimits", spec := "fnLimits", apart := false, narrowed := true }
def FnLimitsUptoSaid : Prop := fnLimitsUptoRow.holds Try.pinned (OpenSpec.upto fnLimitsSpec)

/-- 'laws.FnLifts', WHERE WHAT IT READS IS OF BULK AT MOST 1048576: true; the input reads as it did. -/
def fnLiftsUptoRow : OpenClaim := { program := "ytjdnadolocbjoaa", sum := "c6c1ff7ad10f3236ba455ccd6ea69a90f50bd769ec5cd05615fdac054d34bccf", func := "loop.example/g03017/laws.FnLifts", spec := "fnLifts", unfollowed := true, recurses := true, apart := false, narrowed := true }
def FnLiftsUptoSaid : Prop := fnLiftsUptoRow.holds Try.pinned (OpenSpec.upto fnLiftsSpec)

/-- 'laws.FnShiftedShow', WHERE WHAT IT READS IS OF BULK AT MOST 1048576: true; the input reads as it did. -/
def fnShiftedShowUptoRow : OpenClaim := { program := "ytjdnadolocbjoaa", sum := "c6c1ff7ad10f3236ba455ccd6ea69a90f50bd769ec5cd05615fdac054d34bccf", func := "loop.example/g03017/laws.FnShiftedShow", spec := "fnShiftedShow", unfollowed := true, recurses := true, apart := false, narrowed := true }
def FnShiftedShowUptoSaid : Prop := fnShiftedShowUptoRow.holds Try.pinned (OpenSpec.upto fnShiftedShowSpec)

/-- 'laws.FnLit', WHERE WHAT IT READS IS OF BULK AT MOST 1048576: true; the input reads as it did. -/
def fnLitUptoRow : OpenClaim := { program := "ytjdnadolocbjoaa", sum := "c6c1ff7ad10f3236ba455ccd6ea69a90f50bd769ec5cd05615fdac054d34bccf", func := "loop.example/g03017/laws.FnLit", spec := "fnLit", unfollowed := true, recurses := true, apart := false, narrowed := true }
def FnLitUptoSaid : Prop := fnLitUptoRow.holds Try.pinned (OpenSpec.upto fnLitSpec)

/-- 'laws.FnWater', WHERE WHAT IT READS IS OF BULK AT MOST 1048576: true; the input reads as it did. -/
def fnWaterUptoRow : OpenClaim := { program := "ytjdnadolocbjoaa", sum := "c6c1ff7ad10f3236ba455ccd6ea69a90f50bd769ec5cd05615fdac054d34bccf", func := "loop.example/g03017/laws.FnWater", spec := "fnWater", unfollowed := true, recurses := true, apart := false, narrowed := true }
def FnWaterUptoSaid : Prop := fnWaterUptoRow.holds Try.pinned (OpenSpec.upto fnWaterSpec)

/-- 'laws.FnExactShiftShow', WHERE WHAT IT READS IS OF BULK AT MOST 1048576: true; the input reads as it did. -/
def fnExactShiftShowUptoRow : OpenClaim := { program := "ytjdnadolocbjoaa", sum := "c6c1ff7ad10f3236ba455ccd6ea69a90f50bd769ec5cd05615fdac054d34bccf", func := "loop.example/g03017/laws.FnExactShiftShow", spec := "fnExactShiftShow", unfollowed := true, recurses := true, apart := false, narrowed := true }
def FnExactShiftShowUptoSaid : Prop := fnExactShiftShowUptoRow.holds Try.pinned (OpenSpec.upto fnExactShiftShowSpec)

end Rows
end Go.Proofs.Ytjdnadolocbjoaa
