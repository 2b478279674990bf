/-
  DERIVED. GIVEN WITH THE SEED: THE CARDS: each row of YtoafhcjocdjkjaaGreatDoorRows.lean that lists a variable, with what it lists TIED to the program's text (the seventh form; the later family's looks); each row that meets fmt, with fmt's text TOLD by the authors' own Lean function (tested against real Go, not proved from fmt's source: count such statements apart). THE CARD IS WHAT COUNTS. Prove the row's statement (the work); the ties are given (YtoafhcjocdjkjaaGreatDoorTie.lean); close each card by the builder's one call (the guide's Derived/Test/ToyasCard.lean, 'card_holds'). Laid BY PROGRAM, IN A SANDBOX (cutbox-door.mjs). By AI agents, Wed Nov 11 2026. No macro, syntax, notation, axiom, sorry.
-/
import Derived.Test.YtoafhcjocdjkjaaGreatDoorRows
import GoSem.ClaimSeven
namespace Go.Proofs.YtoafhcjocdjkjaaGreatDoor
namespace Rows

/-- THE TIED CARD OF 'laws.FnTextHalves'. -/
def fnTextHalvesCard : Claim7 := { stood := { row := fnTextHalvesRow, standIns := [], harness := (true, "c15eab3090931e494801575c67d21ba347e622c71c5452045cc733125eadeb3b"), looks := false }, kinds := [], alts := [], laidByText := true, laidKinds := [.data, .data, .data, .data, .pinned], laidTests := true, laidLooks := .later }
def FnTextHalvesCardSaid : Prop := Claim7.holds Tryz.pinned (.plain (OpenSpec.ofChange fnTextHalvesSpec)) fnTextHalvesCard

/-- THE TIED CARD OF 'laws.FnExactDeskText'. -/
def fnExactDeskTextCard : Claim7 := { stood := { row := fnExactDeskTextRow, standIns := [], harness := (true, "c15eab3090931e494801575c67d21ba347e622c71c5452045cc733125eadeb3b"), looks := false }, kinds := [], alts := [], laidByText := true, laidKinds := [.data, .data, .data, .data, .pinned], laidTests := true, laidLooks := .later }
def FnExactDeskTextCardSaid : Prop := Claim7.holds Tryz.pinned (.plain (OpenSpec.ofChange fnExactDeskTextSpec)) fnExactDeskTextCard

/-- THE TIED CARD OF 'laws.FnDeskTruth'. -/
def fnDeskTruthCard : Claim7 := { stood := { row := fnDeskTruthRow, standIns := [], harness := (true, "c15eab3090931e494801575c67d21ba347e622c71c5452045cc733125eadeb3b"), looks := false }, kinds := [], alts := [], laidByText := true, laidKinds := [.data, .data, .data, .data, .pinned], laidTests := true, laidLooks := .later }
def FnDeskTruthCardSaid : Prop := Claim7.holds Tryz.pinned (.plain (OpenSpec.ofChange fnDeskTruthSpec)) fnDeskTruthCard

/-- THE TIED CARD OF 'laws.FnDeskKeeps'. -/
def fnDeskKeepsCard : Claim7 := { stood := { row := fnDeskKeepsRow, standIns := [], harness := (true, "c15eab3090931e494801575c67d21ba347e622c71c5452045cc733125eadeb3b"), looks := false }, kinds := [], alts := [], laidByText := true, laidKinds := [.data, .data, .data, .data, .pinned], laidTests := true, laidLooks := .later }
def FnDeskKeepsCardSaid : Prop := Claim7.holds Tryz.pinned (.plain (OpenSpec.ofChange fnDeskKeepsSpec)) fnDeskKeepsCard

/-- THE TIED CARD OF 'laws.FnExactDeskLine'. -/
def fnExactDeskLineCard : Claim7 := { stood := { row := fnExactDeskLineRow, standIns := [], harness := (true, "c15eab3090931e494801575c67d21ba347e622c71c5452045cc733125eadeb3b"), looks := false }, kinds := [], alts := [], laidByText := true, laidKinds := [.data, .data, .data, .data, .pinned], laidTests := true, laidLooks := .later }
def FnExactDeskLineCardSaid : Prop := Claim7.holds Tryz.pinned (.plain (OpenSpec.ofChange fnExactDeskLineSpec)) fnExactDeskLineCard

/-- THE SECOND FORM's CARD OF 'laws.FnTextHalves'. -/
def fnTextHalvesUptoCard : Claim7 := { stood := { row := fnTextHalvesUptoRow, standIns := [], harness := (true, "c15eab3090931e494801575c67d21ba347e622c71c5452045cc733125eadeb3b"), looks := false }, kinds := [], alts := [], laidByText := true, laidKinds := [.data, .data, .data, .data, .pinned], laidTests := true, laidLooks := .later }
def FnTextHalvesUptoCardSaid : Prop := Claim7.holds Tryz.pinned (.plain (OpenSpec.upto fnTextHalvesSpec)) fnTextHalvesUptoCard

/-- THE SECOND FORM's CARD OF 'laws.FnExactDeskText'. -/
def fnExactDeskTextUptoCard : Claim7 := { stood := { row := fnExactDeskTextUptoRow, standIns := [], harness := (true, "c15eab3090931e494801575c67d21ba347e622c71c5452045cc733125eadeb3b"), looks := false }, kinds := [], alts := [], laidByText := true, laidKinds := [.data, .data, .data, .data, .pinned], laidTests := true, laidLooks := .later }
def FnExactDeskTextUptoCardSaid : Prop := Claim7.holds Tryz.pinned (.plain (OpenSpec.upto fnExactDeskTextSpec)) fnExactDeskTextUptoCard

/-- THE SECOND FORM's CARD OF 'laws.FnDeskTruth'. -/
def fnDeskTruthUptoCard : Claim7 := { stood := { row := fnDeskTruthUptoRow, standIns := [], harness := (true, "c15eab3090931e494801575c67d21ba347e622c71c5452045cc733125eadeb3b"), looks := false }, kinds := [], alts := [], laidByText := true, laidKinds := [.data, .data, .data, .data, .pinned], laidTests := true, laidLooks := .later }
def FnDeskTruthUptoCardSaid : Prop := Claim7.holds Tryz.pinned (.plain (OpenSpec.upto fnDeskTruthSpec)) fnDeskTruthUptoCard

/-- THE SECOND FORM's CARD OF 'laws.FnDeskKeeps'. -/
def fnDeskKeepsUptoCard : Claim7 := { stood := { row := fnDeskKeepsUptoRow, standIns := [], harness := (true, "c15eab3090931e494801575c67d21ba347e622c71c5452045cc733125eadeb3b"), looks := false }, kinds := [], alts := [], laidByText := true, laidKinds := [.data, .data, .data, .data, .pinned], laidTests := true, laidLooks := .later }
def FnDeskKeepsUptoCardSaid : Prop := Claim7.holds Tryz.pinned (.plain (OpenSpec.upto fnDeskKeepsSpec)) fnDeskKeepsUptoCard

/-- THE SECOND FORM's CARD OF 'laws.FnExactDeskLine'. -/
def fnExactDeskLineUptoCard : Claim7 := { stood := { row := fnExactDeskLineUptoRow, standIns := [], harness := (true, "c15eab3090931e494801575c67d21ba347e622c71c5452045cc733125eadeb3b"), looks := false }, kinds := [], alts := [], laidByText := true, laidKinds := [.data, .data, .data, .data, .pinned], laidTests := true, laidLooks := .later }
def FnExactDeskLineUptoCardSaid : Prop := Claim7.holds Tryz.pinned (.plain (OpenSpec.upto fnExactDeskLineSpec)) fnExactDeskLineUptoCard
end Rows
end Go.Proofs.YtoafhcjocdjkjaaGreatDoor
