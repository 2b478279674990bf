/-
  No cell of these rows narrows 'for every input' (looked for: loops, veiled, ifaces, maps, wideKeys, modest, calm, conditions, laid).
  DERIVED. THE GIVEN ROWS OF THIS SEAT. 3 by the template 'for every input the law returns true; each argument reads behind the call as it read before'; 0 by the template 'total and deterministic' (their statements: YtpnlcamcnhpbhaaGreatTotals.lean).
  GIVEN WITH THE SEED: the statements are not yours to turn. If you find one false, say at which input.
  Laid BY PROGRAM, IN A SANDBOX (cutbox-rows.mjs): the forced cells as the released guide's own fill.sh prints them over the translation d9ee56ce2b199b1c… (all of the seat's roots in one cut). By AI agents, Wed Nov 11 2026. No macro, syntax, notation, axiom, sorry.
-/
import Derived.Test.YtpnlcamcnhpbhaaGreatChecked
import GoSem.Claim
import GoSem.ClaimJoined
import GoSem.ClaimMapViews
import Derived.JoinedTies
import Derived.KernelRfl
namespace Go.Proofs.YtpnlcamcnhpbhaaGreat
/- THE CELL 'sum', in the pinned program and in every row, IS THE sha256 OF THE DUMP (.gsa) THAT YtpnlcamcnhpbhaaGreatProg.lean LOADS. Nothing in Lean hashes anything: it is a label: what it is worth is what the hold of that sum in a sandbox is worth. -/
noncomputable def Tryz.pinned : Pinned := { name := "ytpnlcamcnhpbhaagreat", sum := "d9ee56ce2b199b1cab8240b85c466b083da70d0c34be4c2ae62994b023a26409", checked := Tryz.checked }
namespace Rows
def none {H : Type} : Left H := { results := [], args := [] }

/-- 'laws.FnTurnedShow': WHATEVER THE INPUT: true; the input reads as it did. -/
def fnTurnedShowSpec : ChangeSpec := { name := "fnTurnedShow", fn := fun _ => fun
  | [d] => { results := [.lit (.bool true)], args := [d] }
  | _ => none }
def fnTurnedShowRow : OpenClaim := { program := "ytpnlcamcnhpbhaagreat", sum := "d9ee56ce2b199b1cab8240b85c466b083da70d0c34be4c2ae62994b023a26409", func := "loop.example/g03017/laws.FnTurnedShow", spec := "fnTurnedShow", unfollowed := true, recurses := true, apart := false }
def FnTurnedShowSaid : Prop := fnTurnedShowRow.holds Tryz.pinned (OpenSpec.ofChange fnTurnedShowSpec)

/-- ITS FALSE NEIGHBOUR: 'it returns false'. Refute it at one input. -/
def fnTurnedShowWrong : ChangeSpec := { name := "fnTurnedShow", fn := fun _ => fun
  | [d] => { results := [.lit (.bool false)], args := [d] }
  | _ => none }
def FnTurnedShowWrongFalsely : Prop := fnTurnedShowRow.holds Tryz.pinned (OpenSpec.ofChange fnTurnedShowWrong)

/-- 'laws.FnDryShow': WHATEVER THE INPUT: true; the input reads as it did. -/
def fnDryShowSpec : ChangeSpec := { name := "fnDryShow", fn := fun _ => fun
  | [d] => { results := [.lit (.bool true)], args := [d] }
  | _ => none }
def fnDryShowRow : OpenClaim := { program := "ytpnlcamcnhpbhaagreat", sum := "d9ee56ce2b199b1cab8240b85c466b083da70d0c34be4c2ae62994b023a26409", func := "loop.example/g03017/laws.FnDryShow", spec := "fnDryShow", unfollowed := true, recurses := true, apart := false }
def FnDryShowSaid : Prop := fnDryShowRow.holds Tryz.pinned (OpenSpec.ofChange fnDryShowSpec)

/-- ITS FALSE NEIGHBOUR: 'it returns false'. Refute it at one input. -/
def fnDryShowWrong : ChangeSpec := { name := "fnDryShow", fn := fun _ => fun
  | [d] => { results := [.lit (.bool false)], args := [d] }
  | _ => none }
def FnDryShowWrongFalsely : Prop := fnDryShowRow.holds Tryz.pinned (OpenSpec.ofChange fnDryShowWrong)

/-- 'laws.FnSafeTurned': WHATEVER THE INPUT: true; the input reads as it did. -/
def fnSafeTurnedSpec : ChangeSpec := { name := "fnSafeTurned", fn := fun _ => fun
  | [d] => { results := [.lit (.bool true)], args := [d] }
  | _ => none }
def fnSafeTurnedRow : OpenClaim := { program := "ytpnlcamcnhpbhaagreat", sum := "d9ee56ce2b199b1cab8240b85c466b083da70d0c34be4c2ae62994b023a26409", func := "loop.example/g03017/laws.FnSafeTurned", spec := "fnSafeTurned", unfollowed := true, recurses := true, apart := false }
def FnSafeTurnedSaid : Prop := fnSafeTurnedRow.holds Tryz.pinned (OpenSpec.ofChange fnSafeTurnedSpec)

/-- ITS FALSE NEIGHBOUR: 'it returns false'. Refute it at one input. -/
def fnSafeTurnedWrong : ChangeSpec := { name := "fnSafeTurned", fn := fun _ => fun
  | [d] => { results := [.lit (.bool false)], args := [d] }
  | _ => none }
def FnSafeTurnedWrongFalsely : Prop := fnSafeTurnedRow.holds Tryz.pinned (OpenSpec.ofChange fnSafeTurnedWrong)

/- THE SECOND FORM. 'bulk': how many values and letters a reading holds, each counted each time it is reached (what is shared counts as often as it is met; a slice's spare places count too). A statement '..UptoSaid' is the law's where the arguments, and the package variables that the reading takes, are together of bulk at most 1048576: NARROWER than '..Said'. Prove '..Said' where nothing that the law and all that it calls make is longer than what came in: it says more and counts as full. Else prove '..UptoSaid'. A law counts once. -/
mutual
def uptoBulk {H : Type} : DataW H → Nat
  | .lit (.string bytes) => bytes.length + 1
  | .lit _ => 1
  | .nil => 1
  | .ptr d => uptoBulk d + 1
  | .slice elems spare => uptoBulkAll elems + uptoBulkAll spare + 1
  | .agg parts => uptoBulkAll parts + 1
  | .iface _ d => uptoBulk d + 1
  | .map entries => uptoBulkEntries entries + 1
  | .held _ => 1
def uptoBulkAll {H : Type} : List (DataW H) → Nat
  | [] => 0
  | d :: r => uptoBulk d + uptoBulkAll r
def uptoBulkEntries {H : Type} : List (Lit × DataW H) → Nat
  | [] => 0
  | x :: r => uptoBulkEntry x + uptoBulkEntries r
def uptoBulkEntry {H : Type} : Lit × DataW H → Nat
  | (.string bytes, d) => bytes.length + uptoBulk d + 1
  | (_, d) => uptoBulk d + 1
 end
def uptoSmall : (H : Type) → List (DataW H) → Bool := fun _ ds => decide (uptoBulkAll ds ≤ 1048576)
def OpenSpec.upto (s : _root_.Go.ChangeSpec) : _root_.Go.OpenSpec := { _root_.Go.OpenSpec.ofChange s with cond := some uptoSmall }

/-- 'laws.FnTurnedShow', WHERE WHAT IT READS IS OF BULK AT MOST 1048576: true; the input reads as it did. -/
def fnTurnedShowUptoRow : OpenClaim := { program := "ytpnlcamcnhpbhaagreat", sum := "d9ee56ce2b199b1cab8240b85c466b083da70d0c34be4c2ae62994b023a26409", func := "loop.example/g03017/laws.FnTurnedShow", spec := "fnTurnedShow", unfollowed := true, recurses := true, apart := false, narrowed := true }
def FnTurnedShowUptoSaid : Prop := fnTurnedShowUptoRow.holds Tryz.pinned (OpenSpec.upto fnTurnedShowSpec)

/-- 'laws.FnDryShow', WHERE WHAT IT READS IS OF BULK AT MOST 1048576: true; the input reads as it did. -/
def fnDryShowUptoRow : OpenClaim := { program := "ytpnlcamcnhpbhaagreat", sum := "d9ee56ce2b199b1cab8240b85c466b083da70d0c34be4c2ae62994b023a26409", func := "loop.example/g03017/laws.FnDryShow", spec := "fnDryShow", unfollowed := true, recurses := true, apart := false, narrowed := true }
def FnDryShowUptoSaid : Prop := fnDryShowUptoRow.holds Tryz.pinned (OpenSpec.upto fnDryShowSpec)

/-- 'laws.FnSafeTurned', WHERE WHAT IT READS IS OF BULK AT MOST 1048576: true; the input reads as it did. -/
def fnSafeTurnedUptoRow : OpenClaim := { program := "ytpnlcamcnhpbhaagreat", sum := "d9ee56ce2b199b1cab8240b85c466b083da70d0c34be4c2ae62994b023a26409", func := "loop.example/g03017/laws.FnSafeTurned", spec := "fnSafeTurned", unfollowed := true, recurses := true, apart := false, narrowed := true }
def FnSafeTurnedUptoSaid : Prop := fnSafeTurnedUptoRow.holds Tryz.pinned (OpenSpec.upto fnSafeTurnedSpec)

end Rows
end Go.Proofs.YtpnlcamcnhpbhaaGreat
