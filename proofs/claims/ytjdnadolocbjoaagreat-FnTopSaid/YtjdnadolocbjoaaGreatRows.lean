/-
  No cell of these rows narrows 'for every input' (looked for: loops, veiled, ifaces, maps, wideKeys, modest, calm, conditions, laid).
  DERIVED. THE GIVEN ROWS OF THIS SEAT. 11 by the template 'for every input the law returns true; each argument reads behind the call as it read before'; 0 by the template 'total and deterministic' (their statements: YtjdnadolocbjoaaGreatTotals.lean).
  GIVEN WITH THE SEED: the statements are not yours to turn. If you find one false, say at which input.
  Laid BY PROGRAM, IN A SANDBOX (cutbox-rows.mjs): the forced cells as the released guide's own fill.sh prints them over the translation b6a43294e4eb9caf… (all of the seat's roots in one cut). By AI agents, Wed Nov 11 2026. No macro, syntax, notation, axiom, sorry.
-/
import Derived.Test.YtjdnadolocbjoaaGreatChecked
import GoSem.Claim
import GoSem.ClaimJoined
import GoSem.ClaimMapViews
import Derived.JoinedTies
import Derived.KernelRfl
namespace Go.Proofs.YtjdnadolocbjoaaGreat
/- THE CELL 'sum', in the pinned program and in every row, IS THE sha256 OF THE DUMP (.gsa) THAT YtjdnadolocbjoaaGreatProg.lean LOADS. Nothing in Lean hashes anything: it is a label: what it is worth is what the hold of that sum in a sandbox is worth. -/
noncomputable def Tryz.pinned : Pinned := { name := "ytjdnadolocbjoaagreat", sum := "b6a43294e4eb9caf3bd772088f1390a2f1c2101dbdc69857d0ef108cc57e8aea", checked := Tryz.checked }
namespace Rows
def none {H : Type} : Left H := { results := [], args := [] }

/-- 'laws.FnTop': WHATEVER THE INPUT: true; the input reads as it did. -/
def fnTopSpec : ChangeSpec := { name := "fnTop", fn := fun _ => fun
  | [d] => { results := [.lit (.bool true)], args := [d] }
  | _ => none }
def fnTopRow : OpenClaim := { program := "ytjdnadolocbjoaagreat", sum := "b6a43294e4eb9caf3bd772088f1390a2f1c2101dbdc69857d0ef108cc57e8aea", func := "loop.example/g03017/laws.FnTop", spec := "fnTop", unfollowed := true, recurses := true, apart := false }
def FnTopSaid : Prop := fnTopRow.holds Tryz.pinned (OpenSpec.ofChange fnTopSpec)

/-- ITS FALSE NEIGHBOUR: 'it returns false'. Refute it at one input. -/
def fnTopWrong : ChangeSpec := { name := "fnTop", fn := fun _ => fun
  | [d] => { results := [.lit (.bool false)], args := [d] }
  | _ => none }
def FnTopWrongFalsely : Prop := fnTopRow.holds Tryz.pinned (OpenSpec.ofChange fnTopWrong)

/-- 'laws.FnAllDrops': WHATEVER THE INPUT: true; the input reads as it did. -/
def fnAllDropsSpec : ChangeSpec := { name := "fnAllDrops", fn := fun _ => fun
  | [d] => { results := [.lit (.bool true)], args := [d] }
  | _ => none }
def fnAllDropsRow : OpenClaim := { program := "ytjdnadolocbjoaagreat", sum := "b6a43294e4eb9caf3bd772088f1390a2f1c2101dbdc69857d0ef108cc57e8aea", func := "loop.example/g03017/laws.FnAllDrops", spec := "fnAllDrops", unfollowed := true, recurses := true, apart := false }
def FnAllDropsSaid : Prop := fnAllDropsRow.holds Tryz.pinned (OpenSpec.ofChange fnAllDropsSpec)

/-- ITS FALSE NEIGHBOUR: 'it returns false'. Refute it at one input. -/
def fnAllDropsWrong : ChangeSpec := { name := "fnAllDrops", fn := fun _ => fun
  | [d] => { results := [.lit (.bool false)], args := [d] }
  | _ => none }
def FnAllDropsWrongFalsely : Prop := fnAllDropsRow.holds Tryz.pinned (OpenSpec.ofChange fnAllDropsWrong)

/-- 'laws.FnHigh': WHATEVER THE INPUT: true; the input reads as it did. -/
def fnHighSpec : ChangeSpec := { name := "fnHigh", fn := fun _ => fun
  | [d] => { results := [.lit (.bool true)], args := [d] }
  | _ => none }
def fnHighRow : OpenClaim := { program := "ytjdnadolocbjoaagreat", sum := "b6a43294e4eb9caf3bd772088f1390a2f1c2101dbdc69857d0ef108cc57e8aea", func := "loop.example/g03017/laws.FnHigh", spec := "fnHigh", unfollowed := true, recurses := true, apart := false }
def FnHighSaid : Prop := fnHighRow.holds Tryz.pinned (OpenSpec.ofChange fnHighSpec)

/-- ITS FALSE NEIGHBOUR: 'it returns false'. Refute it at one input. -/
def fnHighWrong : ChangeSpec := { name := "fnHigh", fn := fun _ => fun
  | [d] => { results := [.lit (.bool false)], args := [d] }
  | _ => none }
def FnHighWrongFalsely : Prop := fnHighRow.holds Tryz.pinned (OpenSpec.ofChange fnHighWrong)

/-- 'laws.FnTurnedShow': WHATEVER THE INPUT: true; the input reads as it did. -/
def fnTurnedShowSpec : ChangeSpec := { name := "fnTurnedShow", fn := fun _ => fun
  | [d] => { results := [.lit (.bool true)], args := [d] }
  | _ => none }
def fnTurnedShowRow : OpenClaim := { program := "ytjdnadolocbjoaagreat", sum := "b6a43294e4eb9caf3bd772088f1390a2f1c2101dbdc69857d0ef108cc57e8aea", func := "loop.example/g03017/laws.FnTurnedShow", spec := "fnTurnedShow", unfollowed := true, recurses := true, apart := false }
def FnTurnedShowSaid : Prop := fnTurnedShowRow.holds Tryz.pinned (OpenSpec.ofChange fnTurnedShowSpec)

/-- ITS FALSE NEIGHBOUR: 'it returns false'. Refute it at one input. -/
def fnTurnedShowWrong : ChangeSpec := { name := "fnTurnedShow", fn := fun _ => fun
  | [d] => { results := [.lit (.bool false)], args := [d] }
  | _ => none }
def FnTurnedShowWrongFalsely : Prop := fnTurnedShowRow.holds Tryz.pinned (OpenSpec.ofChange fnTurnedShowWrong)

/-- 'laws.FnDropPath': WHATEVER THE INPUT: true; the input reads as it did. -/
def fnDropPathSpec : ChangeSpec := { name := "fnDropPath", fn := fun _ => fun
  | [d] => { results := [.lit (.bool true)], args := [d] }
  | _ => none }
def fnDropPathRow : OpenClaim := { program := "ytjdnadolocbjoaagreat", sum := "b6a43294e4eb9caf3bd772088f1390a2f1c2101dbdc69857d0ef108cc57e8aea", func := "loop.example/g03017/laws.FnDropPath", spec := "fnDropPath", unfollowed := true, recurses := true, apart := false }
def FnDropPathSaid : Prop := fnDropPathRow.holds Tryz.pinned (OpenSpec.ofChange fnDropPathSpec)

/-- ITS FALSE NEIGHBOUR: 'it returns false'. Refute it at one input. -/
def fnDropPathWrong : ChangeSpec := { name := "fnDropPath", fn := fun _ => fun
  | [d] => { results := [.lit (.bool false)], args := [d] }
  | _ => none }
def FnDropPathWrongFalsely : Prop := fnDropPathRow.holds Tryz.pinned (OpenSpec.ofChange fnDropPathWrong)

/-- 'laws.FnLeastBasin': WHATEVER THE INPUT: true; the input reads as it did. -/
def fnLeastBasinSpec : ChangeSpec := { name := "fnLeastBasin", fn := fun _ => fun
  | [d] => { results := [.lit (.bool true)], args := [d] }
  | _ => none }
def fnLeastBasinRow : OpenClaim := { program := "ytjdnadolocbjoaagreat", sum := "b6a43294e4eb9caf3bd772088f1390a2f1c2101dbdc69857d0ef108cc57e8aea", func := "loop.example/g03017/laws.FnLeastBasin", spec := "fnLeastBasin", unfollowed := true, recurses := true, apart := false }
def FnLeastBasinSaid : Prop := fnLeastBasinRow.holds Tryz.pinned (OpenSpec.ofChange fnLeastBasinSpec)

/-- ITS FALSE NEIGHBOUR: 'it returns false'. Refute it at one input. -/
def fnLeastBasinWrong : ChangeSpec := { name := "fnLeastBasin", fn := fun _ => fun
  | [d] => { results := [.lit (.bool false)], args := [d] }
  | _ => none }
def FnLeastBasinWrongFalsely : Prop := fnLeastBasinRow.holds Tryz.pinned (OpenSpec.ofChange fnLeastBasinWrong)

/-- 'laws.FnLimited': WHATEVER THE INPUT: true; the input reads as it did. -/
def fnLimitedSpec : ChangeSpec := { name := "fnLimited", fn := fun _ => fun
  | [d] => { results := [.lit (.bool true)], args := [d] }
  | _ => none }
def fnLimitedRow : OpenClaim := { program := "ytjdnadolocbjoaagreat", sum := "b6a43294e4eb9caf3bd772088f1390a2f1c2101dbdc69857d0ef108cc57e8aea", func := "loop.example/g03017/laws.FnLimited", spec := "fnLimited", unfollowed := true, recurses := true, apart := false }
def FnLimitedSaid : Prop := fnLimitedRow.holds Tryz.pinned (OpenSpec.ofChange fnLimitedSpec)

/-- ITS FALSE NEIGHBOUR: 'it returns false'. Refute it at one input. -/
def fnLimitedWrong : ChangeSpec := { name := "fnLimited", fn := fun _ => fun
  | [d] => { results := [.lit (.bool false)], args := [d] }
  | _ => none }
def FnLimitedWrongFalsely : Prop := fnLimitedRow.holds Tryz.pinned (OpenSpec.ofChange fnLimitedWrong)

/-- 'laws.FnDryShow': WHATEVER THE INPUT: true; the input reads as it did. -/
def fnDryShowSpec : ChangeSpec := { name := "fnDryShow", fn := fun _ => fun
  | [d] => { results := [.lit (.bool true)], args := [d] }
  | _ => none }
def fnDryShowRow : OpenClaim := { program := "ytjdnadolocbjoaagreat", sum := "b6a43294e4eb9caf3bd772088f1390a2f1c2101dbdc69857d0ef108cc57e8aea", func := "loop.example/g03017/laws.FnDryShow", spec := "fnDryShow", unfollowed := true, recurses := true, apart := false }
def FnDryShowSaid : Prop := fnDryShowRow.holds Tryz.pinned (OpenSpec.ofChange fnDryShowSpec)

/-- ITS FALSE NEIGHBOUR: 'it returns false'. Refute it at one input. -/
def fnDryShowWrong : ChangeSpec := { name := "fnDryShow", fn := fun _ => fun
  | [d] => { results := [.lit (.bool false)], args := [d] }
  | _ => none }
def FnDryShowWrongFalsely : Prop := fnDryShowRow.holds Tryz.pinned (OpenSpec.ofChange fnDryShowWrong)

/-- 'laws.FnSafe': WHATEVER THE INPUT: true; the input reads as it did. -/
def fnSafeSpec : ChangeSpec := { name := "fnSafe", fn := fun _ => fun
  | [d] => { results := [.lit (.bool true)], args := [d] }
  | _ => none }
def fnSafeRow : OpenClaim := { program := "ytjdnadolocbjoaagreat", sum := "b6a43294e4eb9caf3bd772088f1390a2f1c2101dbdc69857d0ef108cc57e8aea", func := "loop.example/g03017/laws.FnSafe", spec := "fnSafe", unfollowed := true, recurses := true, apart := false }
def FnSafeSaid : Prop := fnSafeRow.holds Tryz.pinned (OpenSpec.ofChange fnSafeSpec)

/-- ITS FALSE NEIGHBOUR: 'it returns false'. Refute it at one input. -/
def fnSafeWrong : ChangeSpec := { name := "fnSafe", fn := fun _ => fun
  | [d] => { results := [.lit (.bool false)], args := [d] }
  | _ => none }
def FnSafeWrongFalsely : Prop := fnSafeRow.holds Tryz.pinned (OpenSpec.ofChange fnSafeWrong)

/-- 'laws.FnWet': WHATEVER THE INPUT: true; the input reads as it did. -/
def fnWetSpec : ChangeSpec := { name := "fnWet", fn := fun _ => fun
  | [d] => { results := [.lit (.bool true)], args := [d] }
  | _ => none }
def fnWetRow : OpenClaim := { program := "ytjdnadolocbjoaagreat", sum := "b6a43294e4eb9caf3bd772088f1390a2f1c2101dbdc69857d0ef108cc57e8aea", func := "loop.example/g03017/laws.FnWet", spec := "fnWet", unfollowed := true, recurses := true, apart := false }
def FnWetSaid : Prop := fnWetRow.holds Tryz.pinned (OpenSpec.ofChange fnWetSpec)

/-- ITS FALSE NEIGHBOUR: 'it returns false'. Refute it at one input. -/
def fnWetWrong : ChangeSpec := { name := "fnWet", fn := fun _ => fun
  | [d] => { results := [.lit (.bool false)], args := [d] }
  | _ => none }
def FnWetWrongFalsely : Prop := fnWetRow.holds Tryz.pinned (OpenSpec.ofChange fnWetWrong)

/-- 'laws.FnSafeTurned': WHATEVER THE INPUT: true; the input reads as it did. -/
def fnSafeTurnedSpec : ChangeSpec := { name := "fnSafeTurned", fn := fun _ => fun
  | [d] => { results := [.lit (.bool true)], args := [d] }
  | _ => none }
def fnSafeTurnedRow : OpenClaim := { program := "ytjdnadolocbjoaagreat", sum := "b6a43294e4eb9caf3bd772088f1390a2f1c2101dbdc69857d0ef108cc57e8aea", func := "loop.example/g03017/laws.FnSafeTurned", spec := "fnSafeTurned", unfollowed := true, recurses := true, apart := false }
def FnSafeTurnedSaid : Prop := fnSafeTurnedRow.holds Tryz.pinned (OpenSpec.ofChange fnSafeTurnedSpec)

/-- ITS FALSE NEIGHBOUR: 'it returns false'. Refute it at one input. -/
def fnSafeTurnedWrong : ChangeSpec := { name := "fnSafeTurned", fn := fun _ => fun
  | [d] => { results := [.lit (.bool false)], args := [d] }
  | _ => none }
def FnSafeTurnedWrongFalsely : Prop := fnSafeTurnedRow.holds Tryz.pinned (OpenSpec.ofChange fnSafeTurnedWrong)

/- THE SECOND FORM. 'bulk': how many values and letters a reading holds, each counted each time it is reached (what is shared counts as often as it is met; a slice's spare places count too). A statement '..UptoSaid' is the law's where the arguments, and the package variables that the reading takes, are together of bulk at most 1048576: NARROWER than '..Said'. Prove '..Said' where nothing that the law and all that it calls make is longer than what came in: it says more and counts as full. Else prove '..UptoSaid'. A law counts once. -/
mutual
def uptoBulk {H : Type} : DataW H → Nat
  | .lit (.string bytes) => bytes.length + 1
  | .lit _ => 1
  | .nil => 1
  | .ptr d => uptoBulk d + 1
  | .slice elems spare => uptoBulkAll elems + uptoBulkAll spare + 1
  | .agg parts => uptoBulkAll parts + 1
  | .iface _ d => uptoBulk d + 1
  | .map entries => uptoBulkEntries entries + 1
  | .held _ => 1
def uptoBulkAll {H : Type} : List (DataW H) → Nat
  | [] => 0
  | d :: r => uptoBulk d + uptoBulkAll r
def uptoBulkEntries {H : Type} : List (Lit × DataW H) → Nat
  | [] => 0
  | x :: r => uptoBulkEntry x + uptoBulkEntries r
def uptoBulkEntry {H : Type} : Lit × DataW H → Nat
  | (.string bytes, d) => bytes.length + uptoBulk d + 1
  | (_, d) => uptoBulk d + 1
 end
def uptoSmall : (H : Type) → List (DataW H) → Bool := fun _ ds => decide (uptoBulkAll ds ≤ 1048576)
def OpenSpec.upto (s : _root_.Go.ChangeSpec) : _root_.Go.OpenSpec := { _root_.Go.OpenSpec.ofChange s with cond := some uptoSmall }

/-- 'laws.FnTop', WHERE WHAT IT READS IS OF BULK AT MOST 1048576: true; the input reads as it did. -/
def fnTopUptoRow : OpenClaim := { program := "ytjdnadolocbjoaagreat", sum := "b6a43294e4eb9caf3bd772088f1390a2f1c2101dbdc69857d0ef108cc57e8aea", func := "loop.example/g03017/laws.FnTop", spec := "fnTop", unfollowed := true, recurses := true, apart := false, narrowed := true }
def FnTopUptoSaid : Prop := fnTopUptoRow.holds Tryz.pinned (OpenSpec.upto fnTopSpec)

/-- 'laws.FnAllDrops', WHERE WHAT IT READS IS OF BULK AT MOST 1048576: true; the input reads as it did. -/
def fnAllDropsUptoRow : OpenClaim := { program := "ytjdnadolocbjoaagreat", sum := "b6a43294e4eb9caf3bd772088f1390a2f1c2101dbdc69857d0ef108cc57e8aea", func := "loop.example/g03017/laws.FnAllDrops", spec := "fnAllDrops", unfollowed := true, recurses := true, apart := false, narrowed := true }
def FnAllDropsUptoSaid : Prop := fnAllDropsUptoRow.holds Tryz.pinned (OpenSpec.upto fnAllDropsSpec)

/-- 'laws.FnHigh', WHERE WHAT IT READS IS OF BULK AT MOST 1048576: true; the input reads as it did. -/
def fnHighUptoRow : OpenClaim := { program := "ytjdnadolocbjoaagreat", sum := "b6a43294e4eb9caf3bd772088f1390a2f1c2101dbdc69857d0ef108cc57e8aea", func := "loop.example/g03017/laws.FnHigh", spec := "fnHigh", unfollowed := true, recurses := true, apart := false, narrowed := true }
def FnHighUptoSaid : Prop := fnHighUptoRow.holds Tryz.pinned (OpenSpec.upto fnHighSpec)

/-- 'laws.FnTurnedShow', WHERE WHAT IT READS IS OF BULK AT MOST 1048576: true; the input reads as it did. -/
def fnTurnedShowUptoRow : OpenClaim := { program := "ytjdnadolocbjoaagreat", sum := "b6a43294e4eb9caf3bd772088f1390a2f1c2101dbdc69857d0ef108cc57e8aea", func := "loop.example/g03017/laws.FnTurnedShow", spec := "fnTurnedShow", unfollowed := true, recurses := true, apart := false, narrowed := true }
def FnTurnedShowUptoSaid : Prop := fnTurnedShowUptoRow.holds Tryz.pinned (OpenSpec.upto fnTurnedShowSpec)

/-- 'laws.FnDropPath', WHERE WHAT IT READS IS OF BULK AT MOST 1048576: true; the input reads as it did. -/
def fnDropPathUptoRow : OpenClaim := { program := "ytjdnadolocbjoaagreat", sum := "b6a43294e4eb9caf3bd772088f1390a2f1c2101dbdc69857d0ef108cc57e8aea", func := "loop.example/g03017/laws.FnDropPath", spec := "fnDropPath", unfollowed := true, recurses := true, apart := false, narrowed := true }
def FnDropPathUptoSaid : Prop := fnDropPathUptoRow.holds Tryz.pinned (OpenSpec.upto fnDropPathSpec)

/-- 'laws.FnLeastBasin', WHERE WHAT IT READS IS OF BULK AT MOST 1048576: true; the input reads as it did. -/
def fnLeastBasinUptoRow : OpenClaim := { program := "ytjdnadolocbjoaagreat", sum := "b6a43294e4eb9caf3bd772088f1390a2f1c2101dbdc69857d0ef108cc57e8aea", func := "loop.example/g03017/laws.FnLeastBasin", spec := "fnLeastBasin", unfollowed := true, recurses := true, apart := false, narrowed := true }
def FnLeastBasinUptoSaid : Prop := fnLeastBasinUptoRow.holds Tryz.pinned (OpenSpec.upto fnLeastBasinSpec)

/-- 'laws.FnLimited', WHERE WHAT IT READS IS OF BULK AT MOST 1048576: true; the input reads as it did. -/
def fnLimitedUptoRow : OpenClaim := { program := "ytjdnadolocbjoaagreat", sum := "b6a43294e4eb9caf3bd772088f1390a2f1c2101dbdc69857d0ef108cc57e8aea", func := "loop.example/g03017/laws.FnLimited", spec := "fnLimited", unfollowed := true, recurses := true, apart := false, narrowed := true }
def FnLimitedUptoSaid : Prop := fnLimitedUptoRow.holds Tryz.pinned (OpenSpec.upto fnLimitedSpec)

/-- 'laws.FnDryShow', WHERE WHAT IT READS IS OF BULK AT MOST 1048576: true; the input reads as it did. -/
def fnDryShowUptoRow : OpenClaim := { program := "ytjdnadolocbjoaagreat", sum := "b6a43294e4eb9caf3bd772088f1390a2f1c2101dbdc69857d0ef108cc57e8aea", func := "loop.example/g03017/laws.FnDryShow", spec := "fnDryShow", unfollowed := true, recurses := true, apart := false, narrowed := true }
def FnDryShowUptoSaid : Prop := fnDryShowUptoRow.holds Tryz.pinned (OpenSpec.upto fnDryShowSpec)

/-- 'laws.FnSafe', WHERE WHAT IT READS IS OF BULK AT MOST 1048576: true; the input reads as it did. -/
def fnSafeUptoRow : OpenClaim := { program := "ytjdnadolocbjoaagreat", sum := "b6a43294e4eb9caf3bd772088f1390a2f1c2101dbdc69857d0ef108cc57e8aea", func := "loop.example/g03017/laws.FnSafe", spec := "fnSafe", unfollowed := true, recurses := true, apart := false, narrowed := true }
def FnSafeUptoSaid : Prop := fnSafeUptoRow.holds Tryz.pinned (OpenSpec.upto fnSafeSpec)

/-- 'laws.FnWet', WHERE WHAT IT READS IS OF BULK AT MOST 1048576: true; the input reads as it did. -/
def fnWetUptoRow : OpenClaim := { program := "ytjdnadolocbjoaagreat", sum := "b6a43294e4eb9caf3bd772088f1390a2f1c2101dbdc69857d0ef108cc57e8aea", func := "loop.example/g03017/laws.FnWet", spec := "fnWet", unfollowed := true, recurses := true, apart := false, narrowed := true }
def FnWetUptoSaid : Prop := fnWetUptoRow.holds Tryz.pinned (OpenSpec.upto fnWetSpec)

/-- 'laws.FnSafeTurned', WHERE WHAT IT READS IS OF BULK AT MOST 1048576: true; the input reads as it did. -/
def fnSafeTurnedUptoRow : OpenClaim := { program := "ytjdnadolocbjoaagreat", sum := "b6a43294e4eb9caf3bd772088f1390a2f1c2101dbdc69857d0ef108cc57e8aea", func := "loop.example/g03017/laws.FnSafeTurned", spec := "fnSafeTurned", unfollowed := true, recurses := true, apart := false, narrowed := true }
def FnSafeTurnedUptoSaid : Prop := fnSafeTurnedUptoRow.holds Tryz.pinned (OpenSpec.upto fnSafeTurnedSpec)

end Rows
end Go.Proofs.YtjdnadolocbjoaaGreat
