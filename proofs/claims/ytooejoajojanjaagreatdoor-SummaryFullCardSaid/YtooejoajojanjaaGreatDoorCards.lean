/-
  DERIVED. GIVEN WITH THE SEED: THE CARDS: each row of YtooejoajojanjaaGreatDoorRows.lean that lists a variable, with what it lists TIED to the program's text (the seventh form; the later family's looks); each row that meets fmt, with fmt's text TOLD by the authors' own Lean function (tested against real Go, not proved from fmt's source: count such statements apart). THE CARD IS WHAT COUNTS. Prove the row's statement (the work); the ties are given (YtooejoajojanjaaGreatDoorTie.lean); close each card by the builder's one call (the guide's Derived/Test/ToyasCard.lean, 'card_holds'). Laid BY PROGRAM, IN A SANDBOX (cutbox-door.mjs). By AI agents, Wed Nov 11 2026. No macro, syntax, notation, axiom, sorry.
-/
import Derived.Test.YtooejoajojanjaaGreatDoorRows
import GoSem.ClaimSeven
namespace Go.Proofs.YtooejoajojanjaaGreatDoor
namespace Rows

/-- THE TIED CARD OF 'dataflowlaw35.SummaryCheck'. -/
def summaryCheckCard : Claim7 := { stood := { row := summaryCheckRow, standIns := [], harness := (true, "e2f5d10163f12899c9bd9d44920909ed5b6062e2b975955dc6cd400bf5b87ec6"), looks := true }, kinds := [], alts := [], laidByText := true, laidKinds := [.data, .data, .data, .data, .handle, .pinned], laidTests := true, laidLooks := .later }
def SummaryCheckCardSaid : Prop := Claim7.holds Tryz.pinned (.plain (OpenSpec.ofChange summaryCheckSpec)) summaryCheckCard

/-- THE TIED CARD OF 'dataflowlaw35.SummaryApply'. -/
def summaryApplyCard : Claim7 := { stood := { row := summaryApplyRow, standIns := [], harness := (true, "e2f5d10163f12899c9bd9d44920909ed5b6062e2b975955dc6cd400bf5b87ec6"), looks := true }, kinds := [], alts := [], laidByText := true, laidKinds := [.data, .data, .data, .data, .handle, .pinned], laidTests := true, laidLooks := .later }
def SummaryApplyCardSaid : Prop := Claim7.holds Tryz.pinned (.plain (OpenSpec.ofChange summaryApplySpec)) summaryApplyCard

/-- THE TIED CARD OF 'dataflowlaw35.SummaryText'. -/
def summaryTextCard : Claim7 := { stood := { row := summaryTextRow, standIns := [], harness := (true, "e2f5d10163f12899c9bd9d44920909ed5b6062e2b975955dc6cd400bf5b87ec6"), looks := true }, kinds := [], alts := [], laidByText := true, laidKinds := [.data, .data, .data, .data, .handle, .pinned], laidTests := true, laidLooks := .later }
def SummaryTextCardSaid : Prop := Claim7.holds Tryz.pinned (.plain (OpenSpec.ofChange summaryTextSpec)) summaryTextCard

/-- THE TIED CARD OF 'dataflowlaw35.SummaryParse'. -/
def summaryParseCard : Claim7 := { stood := { row := summaryParseRow, standIns := [], harness := (true, "e2f5d10163f12899c9bd9d44920909ed5b6062e2b975955dc6cd400bf5b87ec6"), looks := true }, kinds := [], alts := [], laidByText := true, laidKinds := [.data, .data, .data, .data, .handle, .pinned], laidTests := true, laidLooks := .later }
def SummaryParseCardSaid : Prop := Claim7.holds Tryz.pinned (.plain (OpenSpec.ofChange summaryParseSpec)) summaryParseCard

/-- THE TIED CARD OF 'dataflowlaw35.SummaryUse'. -/
def summaryUseCard : Claim7 := { stood := { row := summaryUseRow, standIns := [], harness := (true, "e2f5d10163f12899c9bd9d44920909ed5b6062e2b975955dc6cd400bf5b87ec6"), looks := true }, kinds := [], alts := [], laidByText := true, laidKinds := [.data, .data, .data, .data, .handle, .pinned], laidTests := true, laidLooks := .later }
def SummaryUseCardSaid : Prop := Claim7.holds Tryz.pinned (.plain (OpenSpec.ofChange summaryUseSpec)) summaryUseCard

/-- THE TIED CARD OF 'dataflowlaw35.SummaryFull'. -/
def summaryFullCard : Claim7 := { stood := { row := summaryFullRow, standIns := [], harness := (true, "e2f5d10163f12899c9bd9d44920909ed5b6062e2b975955dc6cd400bf5b87ec6"), looks := true }, kinds := [], alts := [], laidByText := true, laidKinds := [.data, .data, .data, .data, .handle, .pinned], laidTests := true, laidLooks := .later }
def SummaryFullCardSaid : Prop := Claim7.holds Tryz.pinned (.plain (OpenSpec.ofChange summaryFullSpec)) summaryFullCard

/-- THE TIED CARD OF 'dataflowlaw35.SummaryPart'. -/
def summaryPartCard : Claim7 := { stood := { row := summaryPartRow, standIns := [], harness := (true, "e2f5d10163f12899c9bd9d44920909ed5b6062e2b975955dc6cd400bf5b87ec6"), looks := true }, kinds := [], alts := [], laidByText := true, laidKinds := [.data, .data, .data, .data, .handle, .pinned], laidTests := true, laidLooks := .later }
def SummaryPartCardSaid : Prop := Claim7.holds Tryz.pinned (.plain (OpenSpec.ofChange summaryPartSpec)) summaryPartCard

/-- THE SECOND FORM's CARD OF 'dataflowlaw35.SummaryCheck'. -/
def summaryCheckUptoCard : Claim7 := { stood := { row := summaryCheckUptoRow, standIns := [], harness := (true, "e2f5d10163f12899c9bd9d44920909ed5b6062e2b975955dc6cd400bf5b87ec6"), looks := true }, kinds := [], alts := [], laidByText := true, laidKinds := [.data, .data, .data, .data, .handle, .pinned], laidTests := true, laidLooks := .later }
def SummaryCheckUptoCardSaid : Prop := Claim7.holds Tryz.pinned (.plain (OpenSpec.upto summaryCheckSpec)) summaryCheckUptoCard

/-- THE SECOND FORM's CARD OF 'dataflowlaw35.SummaryApply'. -/
def summaryApplyUptoCard : Claim7 := { stood := { row := summaryApplyUptoRow, standIns := [], harness := (true, "e2f5d10163f12899c9bd9d44920909ed5b6062e2b975955dc6cd400bf5b87ec6"), looks := true }, kinds := [], alts := [], laidByText := true, laidKinds := [.data, .data, .data, .data, .handle, .pinned], laidTests := true, laidLooks := .later }
def SummaryApplyUptoCardSaid : Prop := Claim7.holds Tryz.pinned (.plain (OpenSpec.upto summaryApplySpec)) summaryApplyUptoCard

/-- THE SECOND FORM's CARD OF 'dataflowlaw35.SummaryText'. -/
def summaryTextUptoCard : Claim7 := { stood := { row := summaryTextUptoRow, standIns := [], harness := (true, "e2f5d10163f12899c9bd9d44920909ed5b6062e2b975955dc6cd400bf5b87ec6"), looks := true }, kinds := [], alts := [], laidByText := true, laidKinds := [.data, .data, .data, .data, .handle, .pinned], laidTests := true, laidLooks := .later }
def SummaryTextUptoCardSaid : Prop := Claim7.holds Tryz.pinned (.plain (OpenSpec.upto summaryTextSpec)) summaryTextUptoCard

/-- THE SECOND FORM's CARD OF 'dataflowlaw35.SummaryParse'. -/
def summaryParseUptoCard : Claim7 := { stood := { row := summaryParseUptoRow, standIns := [], harness := (true, "e2f5d10163f12899c9bd9d44920909ed5b6062e2b975955dc6cd400bf5b87ec6"), looks := true }, kinds := [], alts := [], laidByText := true, laidKinds := [.data, .data, .data, .data, .handle, .pinned], laidTests := true, laidLooks := .later }
def SummaryParseUptoCardSaid : Prop := Claim7.holds Tryz.pinned (.plain (OpenSpec.upto summaryParseSpec)) summaryParseUptoCard

/-- THE SECOND FORM's CARD OF 'dataflowlaw35.SummaryUse'. -/
def summaryUseUptoCard : Claim7 := { stood := { row := summaryUseUptoRow, standIns := [], harness := (true, "e2f5d10163f12899c9bd9d44920909ed5b6062e2b975955dc6cd400bf5b87ec6"), looks := true }, kinds := [], alts := [], laidByText := true, laidKinds := [.data, .data, .data, .data, .handle, .pinned], laidTests := true, laidLooks := .later }
def SummaryUseUptoCardSaid : Prop := Claim7.holds Tryz.pinned (.plain (OpenSpec.upto summaryUseSpec)) summaryUseUptoCard

/-- THE SECOND FORM's CARD OF 'dataflowlaw35.SummaryFull'. -/
def summaryFullUptoCard : Claim7 := { stood := { row := summaryFullUptoRow, standIns := [], harness := (true, "e2f5d10163f12899c9bd9d44920909ed5b6062e2b975955dc6cd400bf5b87ec6"), looks := true }, kinds := [], alts := [], laidByText := true, laidKinds := [.data, .data, .data, .data, .handle, .pinned], laidTests := true, laidLooks := .later }
def SummaryFullUptoCardSaid : Prop := Claim7.holds Tryz.pinned (.plain (OpenSpec.upto summaryFullSpec)) summaryFullUptoCard

/-- THE SECOND FORM's CARD OF 'dataflowlaw35.SummaryPart'. -/
def summaryPartUptoCard : Claim7 := { stood := { row := summaryPartUptoRow, standIns := [], harness := (true, "e2f5d10163f12899c9bd9d44920909ed5b6062e2b975955dc6cd400bf5b87ec6"), looks := true }, kinds := [], alts := [], laidByText := true, laidKinds := [.data, .data, .data, .data, .handle, .pinned], laidTests := true, laidLooks := .later }
def SummaryPartUptoCardSaid : Prop := Claim7.holds Tryz.pinned (.plain (OpenSpec.upto summaryPartSpec)) summaryPartUptoCard
end Rows
end Go.Proofs.YtooejoajojanjaaGreatDoor
