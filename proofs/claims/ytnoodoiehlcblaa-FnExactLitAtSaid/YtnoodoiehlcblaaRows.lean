/-
  No cell of these rows narrows 'for every input' (looked for: loops, veiled, ifaces, maps, wideKeys, modest, calm, conditions, laid).
  DERIVED. THE GIVEN ROWS OF THIS SEAT. 7 by the template 'for every input the law returns true; each argument reads behind the call as it read before'; 0 by the template 'total and deterministic' (their statements: YtnoodoiehlcblaaTotals.lean).
  GIVEN WITH THE SEED: the statements are not yours to turn. If you find one false, say at which input.
  Laid BY PROGRAM, IN A SANDBOX (cutbox-rows.mjs): the forced cells as the released guide's own fill.sh prints them over the translation 79203473143122d5… (all of the seat's roots in one cut). By AI agents, Wed Nov 11 2026. No macro, syntax, notation, axiom, sorry.
-/
import Derived.Test.YtnoodoiehlcblaaChecked
import GoSem.Claim
import GoSem.ClaimJoined
import GoSem.ClaimMapViews
import Derived.JoinedTies
import Derived.KernelRfl
namespace Go.Proofs.Ytnoodoiehlcblaa
/- THE CELL 'sum', in the pinned program and in every row, IS THE sha256 OF THE DUMP (.gsa) THAT YtnoodoiehlcblaaProg.lean LOADS. Nothing in Lean hashes anything: it is a label: what it is worth is what the hold of that sum in a sandbox is worth. -/
noncomputable def Try.pinned : Pinned := { name := "ytnoodoiehlcblaa", sum := "79203473143122d55d266b2a9ef5c5e81b83a32284315e272f1f1eb64113a3f5", checked := Try.checked }
namespace Rows
def none {H : Type} : Left H := { results := [], args := [] }

/-- 'laws.FnExactLiftsAt': WHATEVER THE INPUT: true; the input reads as it did. -/
def fnExactLiftsAtSpec : ChangeSpec := { name := "fnExactLiftsAt", fn := fun _ => fun
  | [d1, d2] => { results := [.lit (.bool true)], args := [d1, d2] }
  | _ => none }
def fnExactLiftsAtRow : OpenClaim := { program := "ytnoodoiehlcblaa", sum := "79203473143122d55d266b2a9ef5c5e81b83a32284315e272f1f1eb64113a3f5", func := "loop.example/g03017/laws.FnExactLiftsAt", spec := "fnExactLiftsAt", unfollowed := true, recurses := true, apart := false }
def FnExactLiftsAtSaid : Prop := fnExactLiftsAtRow.holds Try.pinned (OpenSpec.ofChange fnExactLiftsAtSpec)

/-- ITS FALSE NEIGHBOUR: 'it returns false'. Refute it at one input. -/
def fnExactLiftsAtWrong : ChangeSpec := { name := "fnExactLiftsAt", fn := fun _ => fun
  | [d1, d2] => { results := [.lit (.bool false)], args := [d1, d2] }
  | _ => none }
def FnExactLiftsAtWrongFalsely : Prop := fnExactLiftsAtRow.holds Try.pinned (OpenSpec.ofChange fnExactLiftsAtWrong)

/-- 'laws.FnExactJetAt': WHATEVER THE INPUT: true; the input reads as it did. -/
def fnExactJetAtSpec : ChangeSpec := { name := "fnExactJetAt", fn := fun _ => fun
  | [d1, d2, d3] => { results := [.lit (.bool true)], args := [d1, d2, d3] }
  | _ => none }
def fnExactJetAtRow : OpenClaim := { program := "ytnoodoiehlcblaa", sum := "79203473143122d55d266b2a9ef5c5e81b83a32284315e272f1f1eb64113a3f5", func := "loop.example/g03017/laws.FnExactJetAt", spec := "fnExactJetAt", unfollowed := true, recurses := true, apart := false }
def FnExactJetAtSaid : Prop := fnExactJetAtRow.holds Try.pinned (OpenSpec.ofChange fnExactJetAtSpec)

/-- ITS FALSE NEIGHBOUR: 'it returns false'. Refute it at one input. -/
def fnExactJetAtWrong : ChangeSpec := { name := "fnExactJetAt", fn := fun _ => fun
  | [d1, d2, d3] => { results := [.lit (.bool false)], args := [d1, d2, d3] }
  | _ => none }
def FnExactJetAtWrongFalsely : Prop := fnExactJetAtRow.holds Try.pinned (OpenSpec.ofChange fnExactJetAtWrong)

/-- 'laws.FnExactWaterOf': WHATEVER THE INPUT: true; the input reads as it did. -/
def fnExactWaterOfSpec : ChangeSpec := { name := "fnExactWaterOf", fn := fun _ => fun
  | [d] => { results := [.lit (.bool true)], args := [d] }
  | _ => none }
def fnExactWaterOfRow : OpenClaim := { program := "ytnoodoiehlcblaa", sum := "79203473143122d55d266b2a9ef5c5e81b83a32284315e272f1f1eb64113a3f5", func := "loop.example/g03017/laws.FnExactWaterOf", spec := "fnExactWaterOf", unfollowed := true, recurses := true, apart := false }
def FnExactWaterOfSaid : Prop := fnExactWaterOfRow.holds Try.pinned (OpenSpec.ofChange fnExactWaterOfSpec)

/-- ITS FALSE NEIGHBOUR: 'it returns false'. Refute it at one input. -/
def fnExactWaterOfWrong : ChangeSpec := { name := "fnExactWaterOf", fn := fun _ => fun
  | [d] => { results := [.lit (.bool false)], args := [d] }
  | _ => none }
def FnExactWaterOfWrongFalsely : Prop := fnExactWaterOfRow.holds Try.pinned (OpenSpec.ofChange fnExactWaterOfWrong)

/-- 'laws.FnExactThrownBy': WHATEVER THE INPUT: true; the input reads as it did. -/
def fnExactThrownBySpec : ChangeSpec := { name := "fnExactThrownBy", fn := fun _ => fun
  | [d1, d2] => { results := [.lit (.bool true)], args := [d1, d2] }
  | _ => none }
def fnExactThrownByRow : OpenClaim := { program := "ytnoodoiehlcblaa", sum := "79203473143122d55d266b2a9ef5c5e81b83a32284315e272f1f1eb64113a3f5", func := "loop.example/g03017/laws.FnExactThrownBy", spec := "fnExactThrownBy", unfollowed := true, recurses := true, apart := false }
def FnExactThrownBySaid : Prop := fnExactThrownByRow.holds Try.pinned (OpenSpec.ofChange fnExactThrownBySpec)

/-- ITS FALSE NEIGHBOUR: 'it returns false'. Refute it at one input. -/
def fnExactThrownByWrong : ChangeSpec := { name := "fnExactThrownBy", fn := fun _ => fun
  | [d1, d2] => { results := [.lit (.bool false)], args := [d1, d2] }
  | _ => none }
def FnExactThrownByWrongFalsely : Prop := fnExactThrownByRow.holds Try.pinned (OpenSpec.ofChange fnExactThrownByWrong)

/-- 'laws.FnExactLandedBy': WHATEVER THE INPUT: true; the input reads as it did. -/
def fnExactLandedBySpec : ChangeSpec := { name := "fnExactLandedBy", fn := fun _ => fun
  | [d1, d2] => { results := [.lit (.bool true)], args := [d1, d2] }
  | _ => none }
def fnExactLandedByRow : OpenClaim := { program := "ytnoodoiehlcblaa", sum := "79203473143122d55d266b2a9ef5c5e81b83a32284315e272f1f1eb64113a3f5", func := "loop.example/g03017/laws.FnExactLandedBy", spec := "fnExactLandedBy", unfollowed := true, recurses := true, apart := false }
def FnExactLandedBySaid : Prop := fnExactLandedByRow.holds Try.pinned (OpenSpec.ofChange fnExactLandedBySpec)

/-- ITS FALSE NEIGHBOUR: 'it returns false'. Refute it at one input. -/
def fnExactLandedByWrong : ChangeSpec := { name := "fnExactLandedBy", fn := fun _ => fun
  | [d1, d2] => { results := [.lit (.bool false)], args := [d1, d2] }
  | _ => none }
def FnExactLandedByWrongFalsely : Prop := fnExactLandedByRow.holds Try.pinned (OpenSpec.ofChange fnExactLandedByWrong)

/-- 'laws.FnExactHighestOf': WHATEVER THE INPUT: true; the input reads as it did. -/
def fnExactHighestOfSpec : ChangeSpec := { name := "fnExactHighestOf", fn := fun _ => fun
  | [d] => { results := [.lit (.bool true)], args := [d] }
  | _ => none }
def fnExactHighestOfRow : OpenClaim := { program := "ytnoodoiehlcblaa", sum := "79203473143122d55d266b2a9ef5c5e81b83a32284315e272f1f1eb64113a3f5", func := "loop.example/g03017/laws.FnExactHighestOf", spec := "fnExactHighestOf", unfollowed := true, recurses := true, apart := false }
def FnExactHighestOfSaid : Prop := fnExactHighestOfRow.holds Try.pinned (OpenSpec.ofChange fnExactHighestOfSpec)

/-- ITS FALSE NEIGHBOUR: 'it returns false'. Refute it at one input. -/
def fnExactHighestOfWrong : ChangeSpec := { name := "fnExactHighestOf", fn := fun _ => fun
  | [d] => { results := [.lit (.bool false)], args := [d] }
  | _ => none }
def FnExactHighestOfWrongFalsely : Prop := fnExactHighestOfRow.holds Try.pinned (OpenSpec.ofChange fnExactHighestOfWrong)

/-- 'laws.FnExactLitAt': WHATEVER THE INPUT: true; the input reads as it did. -/
def fnExactLitAtSpec : ChangeSpec := { name := "fnExactLitAt", fn := fun _ => fun
  | [d1, d2] => { results := [.lit (.bool true)], args := [d1, d2] }
  | _ => none }
def fnExactLitAtRow : OpenClaim := { program := "ytnoodoiehlcblaa", sum := "79203473143122d55d266b2a9ef5c5e81b83a32284315e272f1f1eb64113a3f5", func := "loop.example/g03017/laws.FnExactLitAt", spec := "fnExactLitAt", unfollowed := true, recurses := true, apart := false }
def FnExactLitAtSaid : Prop := fnExactLitAtRow.holds Try.pinned (OpenSpec.ofChange fnExactLitAtSpec)

/-- ITS FALSE NEIGHBOUR: 'it returns false'. Refute it at one input. -/
def fnExactLitAtWrong : ChangeSpec := { name := "fnExactLitAt", fn := fun _ => fun
  | [d1, d2] => { results := [.lit (.bool false)], args := [d1, d2] }
  | _ => none }
def FnExactLitAtWrongFalsely : Prop := fnExactLitAtRow.holds Try.pinned (OpenSpec.ofChange fnExactLitAtWrong)

/- THE SECOND FORM. 'bulk': how many values and letters a reading holds, each counted each time it is reached (what is shared counts as often as it is met; a slice's spare places count too). A statement '..UptoSaid' is the law's where the arguments, and the package variables that the reading takes, are together of bulk at most 1048576: NARROWER than '..Said'. Prove '..Said' where nothing that the law and all that it calls make is longer than what came in: it says more and counts as full. Else prove '..UptoSaid'. A law counts once. -/
mutual
def uptoBulk {H : Type} : DataW H → Nat
  | .lit (.string bytes) => bytes.length + 1
  | .lit _ => 1
  | .nil => 1
  | .ptr d => uptoBulk d + 1
  | .slice elems spare => uptoBulkAll elems + uptoBulkAll spare + 1
  | .agg parts => uptoBulkAll parts + 1
  | .iface _ d => uptoBulk d + 1
  | .map entries => uptoBulkEntries entries + 1
  | .held _ => 1
def uptoBulkAll {H : Type} : List (DataW H) → Nat
  | [] => 0
  | d :: r => uptoBulk d + uptoBulkAll r
def uptoBulkEntries {H : Type} : List (Lit × DataW H) → Nat
  | [] => 0
  | x :: r => uptoBulkEntry x + uptoBulkEntries r
def uptoBulkEntry {H : Type} : Lit × DataW H → Nat
  | (.string bytes, d) => bytes.length + uptoBulk d + 1
  | (_, d) => uptoBulk d + 1
 end
def uptoSmall : (H : Type) → List (DataW H) → Bool := fun _ ds => decide (uptoBulkAll ds ≤ 1048576)
def OpenSpec.upto (s : _root_.Go.ChangeSpec) : _root_.Go.OpenSpec := { _root_.Go.OpenSpec.ofChange s with cond := some uptoSmall }

/-- 'laws.FnExactLiftsAt', WHERE WHAT IT READS IS OF BULK AT MOST 1048576: true; the input reads as it did. -/
def fnExactLiftsAtUptoRow : OpenClaim := { program := "ytnoodoiehlcblaa", sum := "79203473143122d55d266b2a9ef5c5e81b83a32284315e272f1f1eb64113a3f5", func := "loop.example/g03017/laws.FnExactLiftsAt", spec := "fnExactLiftsAt", unfollowed := true, recurses := true, apart := false, narrowed := true }
def FnExactLiftsAtUptoSaid : Prop := fnExactLiftsAtUptoRow.holds Try.pinned (OpenSpec.upto fnExactLiftsAtSpec)

/-- 'laws.FnExactJetAt', WHERE WHAT IT READS IS OF BULK AT MOST 1048576: true; the input reads as it did. -/
def fnExactJetAtUptoRow : OpenClaim := { program := "ytnoodoiehlcblaa", sum := "79203473143122d55d266b2a9ef5c5e81b83a32284315e272f1f1eb64113a3f5", func := "loop.example/g03017/laws.FnExactJetAt", spec := "fnExactJetAt", unfollowed := true, recurses := true, apart := false, narrowed := true }
def FnExactJetAtUptoSaid : Prop := fnExactJetAtUptoRow.holds Try.pinned (OpenSpec.upto fnExactJetAtSpec)

/-- 'laws.FnExactWaterOf', WHERE WHAT IT READS IS OF BULK AT MOST 1048576: true; the input reads as it did. -/
def fnExactWaterOfUptoRow : OpenClaim := { program := "ytnoodoiehlcblaa", sum := "79203473143122d55d266b2a9ef5c5e81b83a32284315e272f1f1eb64113a3f5", func := "loop.example/g03017/laws.FnExactWaterOf", spec := "fnExactWaterOf", unfollowed := true, recurses := true, apart := false, narrowed := true }
def FnExactWaterOfUptoSaid : Prop := fnExactWaterOfUptoRow.holds Try.pinned (OpenSpec.upto fnExactWaterOfSpec)

/-- 'laws.FnExactThrownBy', WHERE WHAT IT READS IS OF BULK AT MOST 1048576: true; the input reads as it did. -/
def fnExactThrownByUptoRow : OpenClaim := { program := "ytnoodoiehlcblaa", sum := "79203473143122d55d266b2a9ef5c5e81b83a32284315e272f1f1eb64113a3f5", func := "loop.example/g03017/laws.FnExactThrownBy", spec := "fnExactThrownBy", unfollowed := true, recurses := true, apart := false, narrowed := true }
def FnExactThrownByUptoSaid : Prop := fnExactThrownByUptoRow.holds Try.pinned (OpenSpec.upto fnExactThrownBySpec)

/-- 'laws.FnExactLandedBy', WHERE WHAT IT READS IS OF BULK AT MOST 1048576: true; the input reads as it did. -/
def fnExactLandedByUptoRow : OpenClaim := { program := "ytnoodoiehlcblaa", sum := "79203473143122d55d266b2a9ef5c5e81b83a32284315e272f1f1eb64113a3f5", func := "loop.example/g03017/laws.FnExactLandedBy", spec := "fnExactLandedBy", unfollowed := true, recurses := true, apart := false, narrowed := true }
def FnExactLandedByUptoSaid : Prop := fnExactLandedByUptoRow.holds Try.pinned (OpenSpec.upto fnExactLandedBySpec)

/-- 'laws.FnExactHighestOf', WHERE WHAT IT READS IS OF BULK AT MOST 1048576: true; the input reads as it did. -/
def fnExactHighestOfUptoRow : OpenClaim := { program := "ytnoodoiehlcblaa", sum := "79203473143122d55d266b2a9ef5c5e81b83a32284315e272f1f1eb64113a3f5", func := "loop.example/g03017/laws.FnExactHighestOf", spec := "fnExactHighestOf", unfollowed := true, recurses := true, apart := false, narrowed := true }
def FnExactHighestOfUptoSaid : Prop := fnExactHighestOfUptoRow.holds Try.pinned (OpenSpec.upto fnExactHighestOfSpec)

/-- 'laws.FnExactLitAt', WHERE WHAT IT READS IS OF BULK AT MOST 1048576: true; the input reads as it did. -/
def fnExactLitAtUptoRow : OpenClaim := { program := "ytnoodoiehlcblaa", sum := "79203473143122d55d266b2a9ef5c5e81b83a32284315e272f1f1eb64113a3f5", func := "loop.example/g03017/laws.FnExactLitAt", spec := "fnExactLitAt", unfollowed := true, recurses := true, apart := false, narrowed := true }
def FnExactLitAtUptoSaid : Prop := fnExactLitAtUptoRow.holds Try.pinned (OpenSpec.upto fnExactLitAtSpec)

end Rows
end Go.Proofs.Ytnoodoiehlcblaa
