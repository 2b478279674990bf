/-
  DERIVED. GIVEN WITH THE SEED: THE CARDS: each row of YtpnlcamcnhpbhaaGreatDoorRows.lean that lists a variable, with what it lists TIED to the program's text (the seventh form; the later family's looks); each row that meets fmt, with fmt's text TOLD by the authors' own Lean function (tested against real Go, not proved from fmt's source: count such statements apart). THE CARD IS WHAT COUNTS. Prove the row's statement (the work); the ties are given (YtpnlcamcnhpbhaaGreatDoorTie.lean); close each card by the builder's one call (the guide's Derived/Test/ToyasCard.lean, 'card_holds'). Laid BY PROGRAM, IN A SANDBOX (cutbox-door.mjs). By AI agents, Wed Nov 11 2026. No macro, syntax, notation, axiom, sorry.
-/
import Derived.Test.YtpnlcamcnhpbhaaGreatDoorRows
import GoSem.ClaimSeven
namespace Go.Proofs.YtpnlcamcnhpbhaaGreatDoor
namespace Rows

/-- THE TIED CARD OF 'laws.FnExactSafetyLine'. -/
def fnExactSafetyLineCard : Claim7 := { stood := { row := fnExactSafetyLineRow, standIns := [], harness := (true, "eb455140b353b21055947424f9a3ded76a0f1318e01725f3b00b9dda26209b71"), looks := false }, kinds := [], alts := [], laidByText := true, laidKinds := [.data, .data, .data, .data, .pinned], laidTests := true, laidLooks := .later }
def FnExactSafetyLineCardSaid : Prop := Claim7.holds Tryz.pinned (.plain (OpenSpec.ofChange fnExactSafetyLineSpec)) fnExactSafetyLineCard

/-- THE TIED CARD OF 'laws.FnSafetyLine'. -/
def fnSafetyLineCard : Claim7 := { stood := { row := fnSafetyLineRow, standIns := [], harness := (true, "eb455140b353b21055947424f9a3ded76a0f1318e01725f3b00b9dda26209b71"), looks := false }, kinds := [], alts := [], laidByText := true, laidKinds := [.data, .data, .data, .data, .pinned], laidTests := true, laidLooks := .later }
def FnSafetyLineCardSaid : Prop := Claim7.holds Tryz.pinned (.plain (OpenSpec.ofChange fnSafetyLineSpec)) fnSafetyLineCard

/-- THE SECOND FORM's CARD OF 'laws.FnExactSafetyLine'. -/
def fnExactSafetyLineUptoCard : Claim7 := { stood := { row := fnExactSafetyLineUptoRow, standIns := [], harness := (true, "eb455140b353b21055947424f9a3ded76a0f1318e01725f3b00b9dda26209b71"), looks := false }, kinds := [], alts := [], laidByText := true, laidKinds := [.data, .data, .data, .data, .pinned], laidTests := true, laidLooks := .later }
def FnExactSafetyLineUptoCardSaid : Prop := Claim7.holds Tryz.pinned (.plain (OpenSpec.upto fnExactSafetyLineSpec)) fnExactSafetyLineUptoCard

/-- THE SECOND FORM's CARD OF 'laws.FnSafetyLine'. -/
def fnSafetyLineUptoCard : Claim7 := { stood := { row := fnSafetyLineUptoRow, standIns := [], harness := (true, "eb455140b353b21055947424f9a3ded76a0f1318e01725f3b00b9dda26209b71"), looks := false }, kinds := [], alts := [], laidByText := true, laidKinds := [.data, .data, .data, .data, .pinned], laidTests := true, laidLooks := .later }
def FnSafetyLineUptoCardSaid : Prop := Claim7.holds Tryz.pinned (.plain (OpenSpec.upto fnSafetyLineSpec)) fnSafetyLineUptoCard
end Rows
end Go.Proofs.YtpnlcamcnhpbhaaGreatDoor
