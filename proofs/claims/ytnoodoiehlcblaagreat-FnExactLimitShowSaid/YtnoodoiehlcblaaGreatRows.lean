/-
  No cell of these rows narrows 'for every input' (looked for: loops, veiled, ifaces, maps, wideKeys, modest, calm, conditions, laid).
  DERIVED. THE GIVEN ROWS OF THIS SEAT. 8 by the template 'for every input the law returns true; each argument reads behind the call as it read before'; 0 by the template 'total and deterministic' (their statements: YtnoodoiehlcblaaGreatTotals.lean).
  GIVEN WITH THE SEED: the statements are not yours to turn. If you find one false, say at which input.
  Laid BY PROGRAM, IN A SANDBOX (cutbox-rows.mjs): the forced cells as the released guide's own fill.sh prints them over the translation ac97592286769594… (all of the seat's roots in one cut). By AI agents, Wed Nov 11 2026. No macro, syntax, notation, axiom, sorry.
-/
import Derived.Test.YtnoodoiehlcblaaGreatChecked
import GoSem.Claim
import GoSem.ClaimJoined
import GoSem.ClaimMapViews
import Derived.JoinedTies
import Derived.KernelRfl
namespace Go.Proofs.YtnoodoiehlcblaaGreat
/- THE CELL 'sum', in the pinned program and in every row, IS THE sha256 OF THE DUMP (.gsa) THAT YtnoodoiehlcblaaGreatProg.lean LOADS. Nothing in Lean hashes anything: it is a label: what it is worth is what the hold of that sum in a sandbox is worth. -/
noncomputable def Tryz.pinned : Pinned := { name := "ytnoodoiehlcblaagreat", sum := "ac97592286769594a20cb9c4b089edb282a92c527eeec0f1bd31da8c3b5f1d35", checked := Tryz.checked }
namespace Rows
def none {H : Type} : Left H := { results := [], args := [] }

/-- 'laws.FnExactDropsAt': WHATEVER THE INPUT: true; the input reads as it did. -/
def fnExactDropsAtSpec : ChangeSpec := { name := "fnExactDropsAt", fn := fun _ => fun
  | [d1, d2] => { results := [.lit (.bool true)], args := [d1, d2] }
  | _ => none }
def fnExactDropsAtRow : OpenClaim := { program := "ytnoodoiehlcblaagreat", sum := "ac97592286769594a20cb9c4b089edb282a92c527eeec0f1bd31da8c3b5f1d35", func := "loop.example/g03017/laws.FnExactDropsAt", spec := "fnExactDropsAt", unfollowed := true, recurses := true, apart := false }
def FnExactDropsAtSaid : Prop := fnExactDropsAtRow.holds Tryz.pinned (OpenSpec.ofChange fnExactDropsAtSpec)

/-- ITS FALSE NEIGHBOUR: 'it returns false'. Refute it at one input. -/
def fnExactDropsAtWrong : ChangeSpec := { name := "fnExactDropsAt", fn := fun _ => fun
  | [d1, d2] => { results := [.lit (.bool false)], args := [d1, d2] }
  | _ => none }
def FnExactDropsAtWrongFalsely : Prop := fnExactDropsAtRow.holds Tryz.pinned (OpenSpec.ofChange fnExactDropsAtWrong)

/-- 'laws.FnExactLandingsOf': WHATEVER THE INPUT: true; the input reads as it did. -/
def fnExactLandingsOfSpec : ChangeSpec := { name := "fnExactLandingsOf", fn := fun _ => fun
  | [d] => { results := [.lit (.bool true)], args := [d] }
  | _ => none }
def fnExactLandingsOfRow : OpenClaim := { program := "ytnoodoiehlcblaagreat", sum := "ac97592286769594a20cb9c4b089edb282a92c527eeec0f1bd31da8c3b5f1d35", func := "loop.example/g03017/laws.FnExactLandingsOf", spec := "fnExactLandingsOf", unfollowed := true, recurses := true, apart := false }
def FnExactLandingsOfSaid : Prop := fnExactLandingsOfRow.holds Tryz.pinned (OpenSpec.ofChange fnExactLandingsOfSpec)

/-- ITS FALSE NEIGHBOUR: 'it returns false'. Refute it at one input. -/
def fnExactLandingsOfWrong : ChangeSpec := { name := "fnExactLandingsOf", fn := fun _ => fun
  | [d] => { results := [.lit (.bool false)], args := [d] }
  | _ => none }
def FnExactLandingsOfWrongFalsely : Prop := fnExactLandingsOfRow.holds Tryz.pinned (OpenSpec.ofChange fnExactLandingsOfWrong)

/-- 'laws.FnExactIsDry': WHATEVER THE INPUT: true; the input reads as it did. -/
def fnExactIsDrySpec : ChangeSpec := { name := "fnExactIsDry", fn := fun _ => fun
  | [d1, d2] => { results := [.lit (.bool true)], args := [d1, d2] }
  | _ => none }
def fnExactIsDryRow : OpenClaim := { program := "ytnoodoiehlcblaagreat", sum := "ac97592286769594a20cb9c4b089edb282a92c527eeec0f1bd31da8c3b5f1d35", func := "loop.example/g03017/laws.FnExactIsDry", spec := "fnExactIsDry", unfollowed := true, recurses := true, apart := false }
def FnExactIsDrySaid : Prop := fnExactIsDryRow.holds Tryz.pinned (OpenSpec.ofChange fnExactIsDrySpec)

/-- ITS FALSE NEIGHBOUR: 'it returns false'. Refute it at one input. -/
def fnExactIsDryWrong : ChangeSpec := { name := "fnExactIsDry", fn := fun _ => fun
  | [d1, d2] => { results := [.lit (.bool false)], args := [d1, d2] }
  | _ => none }
def FnExactIsDryWrongFalsely : Prop := fnExactIsDryRow.holds Tryz.pinned (OpenSpec.ofChange fnExactIsDryWrong)

/-- 'laws.FnExactWetDrops': WHATEVER THE INPUT: true; the input reads as it did. -/
def fnExactWetDropsSpec : ChangeSpec := { name := "fnExactWetDrops", fn := fun _ => fun
  | [d1, d2] => { results := [.lit (.bool true)], args := [d1, d2] }
  | _ => none }
def fnExactWetDropsRow : OpenClaim := { program := "ytnoodoiehlcblaagreat", sum := "ac97592286769594a20cb9c4b089edb282a92c527eeec0f1bd31da8c3b5f1d35", func := "loop.example/g03017/laws.FnExactWetDrops", spec := "fnExactWetDrops", unfollowed := true, recurses := true, apart := false }
def FnExactWetDropsSaid : Prop := fnExactWetDropsRow.holds Tryz.pinned (OpenSpec.ofChange fnExactWetDropsSpec)

/-- ITS FALSE NEIGHBOUR: 'it returns false'. Refute it at one input. -/
def fnExactWetDropsWrong : ChangeSpec := { name := "fnExactWetDrops", fn := fun _ => fun
  | [d1, d2] => { results := [.lit (.bool false)], args := [d1, d2] }
  | _ => none }
def FnExactWetDropsWrongFalsely : Prop := fnExactWetDropsRow.holds Tryz.pinned (OpenSpec.ofChange fnExactWetDropsWrong)

/-- 'laws.FnExactLeastBasin': WHATEVER THE INPUT: true; the input reads as it did. -/
def fnExactLeastBasinSpec : ChangeSpec := { name := "fnExactLeastBasin", fn := fun _ => fun
  | [d1, d2] => { results := [.lit (.bool true)], args := [d1, d2] }
  | _ => none }
def fnExactLeastBasinRow : OpenClaim := { program := "ytnoodoiehlcblaagreat", sum := "ac97592286769594a20cb9c4b089edb282a92c527eeec0f1bd31da8c3b5f1d35", func := "loop.example/g03017/laws.FnExactLeastBasin", spec := "fnExactLeastBasin", unfollowed := true, recurses := true, apart := false }
def FnExactLeastBasinSaid : Prop := fnExactLeastBasinRow.holds Tryz.pinned (OpenSpec.ofChange fnExactLeastBasinSpec)

/-- ITS FALSE NEIGHBOUR: 'it returns false'. Refute it at one input. -/
def fnExactLeastBasinWrong : ChangeSpec := { name := "fnExactLeastBasin", fn := fun _ => fun
  | [d1, d2] => { results := [.lit (.bool false)], args := [d1, d2] }
  | _ => none }
def FnExactLeastBasinWrongFalsely : Prop := fnExactLeastBasinRow.holds Tryz.pinned (OpenSpec.ofChange fnExactLeastBasinWrong)

/-- 'laws.FnExactIsSafe': WHATEVER THE INPUT: true; the input reads as it did. -/
def fnExactIsSafeSpec : ChangeSpec := { name := "fnExactIsSafe", fn := fun _ => fun
  | [d1, d2, d3] => { results := [.lit (.bool true)], args := [d1, d2, d3] }
  | _ => none }
def fnExactIsSafeRow : OpenClaim := { program := "ytnoodoiehlcblaagreat", sum := "ac97592286769594a20cb9c4b089edb282a92c527eeec0f1bd31da8c3b5f1d35", func := "loop.example/g03017/laws.FnExactIsSafe", spec := "fnExactIsSafe", unfollowed := true, recurses := true, apart := false }
def FnExactIsSafeSaid : Prop := fnExactIsSafeRow.holds Tryz.pinned (OpenSpec.ofChange fnExactIsSafeSpec)

/-- ITS FALSE NEIGHBOUR: 'it returns false'. Refute it at one input. -/
def fnExactIsSafeWrong : ChangeSpec := { name := "fnExactIsSafe", fn := fun _ => fun
  | [d1, d2, d3] => { results := [.lit (.bool false)], args := [d1, d2, d3] }
  | _ => none }
def FnExactIsSafeWrongFalsely : Prop := fnExactIsSafeRow.holds Tryz.pinned (OpenSpec.ofChange fnExactIsSafeWrong)

/-- 'laws.FnExactWetWind': WHATEVER THE INPUT: true; the input reads as it did. -/
def fnExactWetWindSpec : ChangeSpec := { name := "fnExactWetWind", fn := fun _ => fun
  | [d1, d2, d3] => { results := [.lit (.bool true)], args := [d1, d2, d3] }
  | _ => none }
def fnExactWetWindRow : OpenClaim := { program := "ytnoodoiehlcblaagreat", sum := "ac97592286769594a20cb9c4b089edb282a92c527eeec0f1bd31da8c3b5f1d35", func := "loop.example/g03017/laws.FnExactWetWind", spec := "fnExactWetWind", unfollowed := true, recurses := true, apart := false }
def FnExactWetWindSaid : Prop := fnExactWetWindRow.holds Tryz.pinned (OpenSpec.ofChange fnExactWetWindSpec)

/-- ITS FALSE NEIGHBOUR: 'it returns false'. Refute it at one input. -/
def fnExactWetWindWrong : ChangeSpec := { name := "fnExactWetWind", fn := fun _ => fun
  | [d1, d2, d3] => { results := [.lit (.bool false)], args := [d1, d2, d3] }
  | _ => none }
def FnExactWetWindWrongFalsely : Prop := fnExactWetWindRow.holds Tryz.pinned (OpenSpec.ofChange fnExactWetWindWrong)

/-- 'laws.FnExactLimitShow': WHATEVER THE INPUT: true; the input reads as it did. -/
def fnExactLimitShowSpec : ChangeSpec := { name := "fnExactLimitShow", fn := fun _ => fun
  | [d1, d2, d3] => { results := [.lit (.bool true)], args := [d1, d2, d3] }
  | _ => none }
def fnExactLimitShowRow : OpenClaim := { program := "ytnoodoiehlcblaagreat", sum := "ac97592286769594a20cb9c4b089edb282a92c527eeec0f1bd31da8c3b5f1d35", func := "loop.example/g03017/laws.FnExactLimitShow", spec := "fnExactLimitShow", unfollowed := true, recurses := true, apart := false }
def FnExactLimitShowSaid : Prop := fnExactLimitShowRow.holds Tryz.pinned (OpenSpec.ofChange fnExactLimitShowSpec)

/-- ITS FALSE NEIGHBOUR: 'it returns false'. Refute it at one input. -/
def fnExactLimitShowWrong : ChangeSpec := { name := "fnExactLimitShow", fn := fun _ => fun
  | [d1, d2, d3] => { results := [.lit (.bool false)], args := [d1, d2, d3] }
  | _ => none }
def FnExactLimitShowWrongFalsely : Prop := fnExactLimitShowRow.holds Tryz.pinned (OpenSpec.ofChange fnExactLimitShowWrong)

/- THE SECOND FORM. 'bulk': how many values and letters a reading holds, each counted each time it is reached (what is shared counts as often as it is met; a slice's spare places count too). A statement '..UptoSaid' is the law's where the arguments, and the package variables that the reading takes, are together of bulk at most 1048576: NARROWER than '..Said'. Prove '..Said' where nothing that the law and all that it calls make is longer than what came in: it says more and counts as full. Else prove '..UptoSaid'. A law counts once. -/
mutual
def uptoBulk {H : Type} : DataW H → Nat
  | .lit (.string bytes) => bytes.length + 1
  | .lit _ => 1
  | .nil => 1
  | .ptr d => uptoBulk d + 1
  | .slice elems spare => uptoBulkAll elems + uptoBulkAll spare + 1
  | .agg parts => uptoBulkAll parts + 1
  | .iface _ d => uptoBulk d + 1
  | .map entries => uptoBulkEntries entries + 1
  | .held _ => 1
def uptoBulkAll {H : Type} : List (DataW H) → Nat
  | [] => 0
  | d :: r => uptoBulk d + uptoBulkAll r
def uptoBulkEntries {H : Type} : List (Lit × DataW H) → Nat
  | [] => 0
  | x :: r => uptoBulkEntry x + uptoBulkEntries r
def uptoBulkEntry {H : Type} : Lit × DataW H → Nat
  | (.string bytes, d) => bytes.length + uptoBulk d + 1
  | (_, d) => uptoBulk d + 1
 end
def uptoSmall : (H : Type) → List (DataW H) → Bool := fun _ ds => decide (uptoBulkAll ds ≤ 1048576)
def OpenSpec.upto (s : _root_.Go.ChangeSpec) : _root_.Go.OpenSpec := { _root_.Go.OpenSpec.ofChange s with cond := some uptoSmall }

/-- 'laws.FnExactDropsAt', WHERE WHAT IT READS IS OF BULK AT MOST 1048576: true; the input reads as it did. -/
def fnExactDropsAtUptoRow : OpenClaim := { program := "ytnoodoiehlcblaagreat", sum := "ac97592286769594a20cb9c4b089edb282a92c527eeec0f1bd31da8c3b5f1d35", func := "loop.example/g03017/laws.FnExactDropsAt", spec := "fnExactDropsAt", unfollowed := true, recurses := true, apart := false, narrowed := true }
def FnExactDropsAtUptoSaid : Prop := fnExactDropsAtUptoRow.holds Tryz.pinned (OpenSpec.upto fnExactDropsAtSpec)

/-- 'laws.FnExactLandingsOf', WHERE WHAT IT READS IS OF BULK AT MOST 1048576: true; the input reads as it did. -/
def fnExactLandingsOfUptoRow : OpenClaim := { program := "ytnoodoiehlcblaagreat", sum := "ac97592286769594a20cb9c4b089edb282a92c527eeec0f1bd31da8c3b5f1d35", func := "loop.example/g03017/laws.FnExactLandingsOf", spec := "fnExactLandingsOf", unfollowed := true, recurses := true, apart := false, narrowed := true }
def FnExactLandingsOfUptoSaid : Prop := fnExactLandingsOfUptoRow.holds Tryz.pinned (OpenSpec.upto fnExactLandingsOfSpec)

/-- 'laws.FnExactIsDry', WHERE WHAT IT READS IS OF BULK AT MOST 1048576: true; the input reads as it did. -/
def fnExactIsDryUptoRow : OpenClaim := { program := "ytnoodoiehlcblaagreat", sum := "ac97592286769594a20cb9c4b089edb282a92c527eeec0f1bd31da8c3b5f1d35", func := "loop.example/g03017/laws.FnExactIsDry", spec := "fnExactIsDry", unfollowed := true, recurses := true, apart := false, narrowed := true }
def FnExactIsDryUptoSaid : Prop := fnExactIsDryUptoRow.holds Tryz.pinned (OpenSpec.upto fnExactIsDrySpec)

/-- 'laws.FnExactWetDrops', WHERE WHAT IT READS IS OF BULK AT MOST 1048576: true; the input reads as it did. -/
def fnExactWetDropsUptoRow : OpenClaim := { program := "ytnoodoiehlcblaagreat", sum := "ac97592286769594a20cb9c4b089edb282a92c527eeec0f1bd31da8c3b5f1d35", func := "loop.example/g03017/laws.FnExactWetDrops", spec := "fnExactWetDrops", unfollowed := true, recurses := true, apart := false, narrowed := true }
def FnExactWetDropsUptoSaid : Prop := fnExactWetDropsUptoRow.holds Tryz.pinned (OpenSpec.upto fnExactWetDropsSpec)

/-- 'laws.FnExactLeastBasin', WHERE WHAT IT READS IS OF BULK AT MOST 1048576: true; the input reads as it did. -/
def fnExactLeastBasinUptoRow : OpenClaim := { program := "ytnoodoiehlcblaagreat", sum := "ac97592286769594a20cb9c4b089edb282a92c527eeec0f1bd31da8c3b5f1d35", func := "loop.example/g03017/laws.FnExactLeastBasin", spec := "fnExactLeastBasin", unfollowed := true, recurses := true, apart := false, narrowed := true }
def FnExactLeastBasinUptoSaid : Prop := fnExactLeastBasinUptoRow.holds Tryz.pinned (OpenSpec.upto fnExactLeastBasinSpec)

/-- 'laws.FnExactIsSafe', WHERE WHAT IT READS IS OF BULK AT MOST 1048576: true; the input reads as it did. -/
def fnExactIsSafeUptoRow : OpenClaim := { program := "ytnoodoiehlcblaagreat", sum := "ac97592286769594a20cb9c4b089edb282a92c527eeec0f1bd31da8c3b5f1d35", func := "loop.example/g03017/laws.FnExactIsSafe", spec := "fnExactIsSafe", unfollowed := true, recurses := true, apart := false, narrowed := true }
def FnExactIsSafeUptoSaid : Prop := fnExactIsSafeUptoRow.holds Tryz.pinned (OpenSpec.upto fnExactIsSafeSpec)

/-- 'laws.FnExactWetWind', WHERE WHAT IT READS IS OF BULK AT MOST 1048576: true; the input reads as it did. -/
def fnExactWetWindUptoRow : OpenClaim := { program := "ytnoodoiehlcblaagreat", sum := "ac97592286769594a20cb9c4b089edb282a92c527eeec0f1bd31da8c3b5f1d35", func := "loop.example/g03017/laws.FnExactWetWind", spec := "fnExactWetWind", unfollowed := true, recurses := true, apart := false, narrowed := true }
def FnExactWetWindUptoSaid : Prop := fnExactWetWindUptoRow.holds Tryz.pinned (OpenSpec.upto fnExactWetWindSpec)

/-- 'laws.FnExactLimitShow', WHERE WHAT IT READS IS OF BULK AT MOST 1048576: true; the input reads as it did. -/
def fnExactLimitShowUptoRow : OpenClaim := { program := "ytnoodoiehlcblaagreat", sum := "ac97592286769594a20cb9c4b089edb282a92c527eeec0f1bd31da8c3b5f1d35", func := "loop.example/g03017/laws.FnExactLimitShow", spec := "fnExactLimitShow", unfollowed := true, recurses := true, apart := false, narrowed := true }
def FnExactLimitShowUptoSaid : Prop := fnExactLimitShowUptoRow.holds Tryz.pinned (OpenSpec.upto fnExactLimitShowSpec)

end Rows
end Go.Proofs.YtnoodoiehlcblaaGreat
