/-
  DERIVED. GIVEN WITH THE SEED: THE CARDS: each row of YtmjebjjhfoncfaaDoorRows.lean that lists a variable, with what it lists TIED to the program's text (the seventh form; the later family's looks); each row that meets fmt, with fmt's text TOLD by the authors' own Lean function (tested against real Go, not proved from fmt's source: count such statements apart). THE CARD IS WHAT COUNTS. Prove the row's statement (the work); the ties are given (YtmjebjjhfoncfaaDoorTie.lean); close each card by the builder's one call (the guide's Derived/Test/ToyasCard.lean, 'card_holds'). Laid BY PROGRAM, IN A SANDBOX (cutbox-door.mjs). By AI agents, Wed Nov 11 2026. No macro, syntax, notation, axiom, sorry.
-/
import Derived.Test.YtmjebjjhfoncfaaDoorRows
import GoSem.ClaimSeven
namespace Go.Proofs.YtmjebjjhfoncfaaDoor
namespace Rows

/-- THE TIED CARD OF 'dataflowlaw34.EnvironAlong'. -/
def environAlongCard : Claim7 := { stood := { row := environAlongRow, standIns := [], harness := (true, "f615c8135081c0bbf234a179e40940b761b53f711b0fb4a078f9e7613e0daf23"), looks := false }, kinds := [], alts := [], laidByText := true, laidKinds := [.data], laidTests := true, laidLooks := .later }
def EnvironAlongCardSaid : Prop := Claim7.holds Tryd.pinned (.plain (OpenSpec.ofChange environAlongSpec)) environAlongCard

/-- THE TIED CARD OF 'dataflowlaw34.EnvironAbove'. -/
def environAboveCard : Claim7 := { stood := { row := environAboveRow, standIns := [], harness := (true, "f615c8135081c0bbf234a179e40940b761b53f711b0fb4a078f9e7613e0daf23"), looks := false }, kinds := [], alts := [], laidByText := true, laidKinds := [.data], laidTests := true, laidLooks := .later }
def EnvironAboveCardSaid : Prop := Claim7.holds Tryd.pinned (.plain (OpenSpec.ofChange environAboveSpec)) environAboveCard

/-- THE TIED CARD OF 'dataflowlaw34.EnvironSteps'. -/
def environStepsCard : Claim7 := { stood := { row := environStepsRow, standIns := [], harness := (true, "f615c8135081c0bbf234a179e40940b761b53f711b0fb4a078f9e7613e0daf23"), looks := false }, kinds := [], alts := [], laidByText := true, laidKinds := [.data], laidTests := true, laidLooks := .later }
def EnvironStepsCardSaid : Prop := Claim7.holds Tryd.pinned (.plain (OpenSpec.ofChange environStepsSpec)) environStepsCard

/-- THE TIED CARD OF 'dataflowlaw34.EnvironMeet'. -/
def environMeetCard : Claim7 := { stood := { row := environMeetRow, standIns := [], harness := (true, "f615c8135081c0bbf234a179e40940b761b53f711b0fb4a078f9e7613e0daf23"), looks := false }, kinds := [], alts := [], laidByText := true, laidKinds := [.data], laidTests := true, laidLooks := .later }
def EnvironMeetCardSaid : Prop := Claim7.holds Tryd.pinned (.plain (OpenSpec.ofChange environMeetSpec)) environMeetCard

/-- THE TIED CARD OF 'dataflowlaw33.IdeCheck'. -/
def ideCheckCard : Claim7 := { stood := { row := ideCheckRow, standIns := [], harness := (true, "f615c8135081c0bbf234a179e40940b761b53f711b0fb4a078f9e7613e0daf23"), looks := false }, kinds := [], alts := [], laidByText := true, laidKinds := [.data], laidTests := true, laidLooks := .later }
def IdeCheckCardSaid : Prop := Claim7.holds Tryd.pinned (.plain (OpenSpec.ofChange ideCheckSpec)) ideCheckCard

/-- THE SECOND FORM's CARD OF 'dataflowlaw34.EnvironAlong'. -/
def environAlongUptoCard : Claim7 := { stood := { row := environAlongUptoRow, standIns := [], harness := (true, "f615c8135081c0bbf234a179e40940b761b53f711b0fb4a078f9e7613e0daf23"), looks := false }, kinds := [], alts := [], laidByText := true, laidKinds := [.data], laidTests := true, laidLooks := .later }
def EnvironAlongUptoCardSaid : Prop := Claim7.holds Tryd.pinned (.plain (OpenSpec.upto environAlongSpec)) environAlongUptoCard

/-- THE SECOND FORM's CARD OF 'dataflowlaw34.EnvironAbove'. -/
def environAboveUptoCard : Claim7 := { stood := { row := environAboveUptoRow, standIns := [], harness := (true, "f615c8135081c0bbf234a179e40940b761b53f711b0fb4a078f9e7613e0daf23"), looks := false }, kinds := [], alts := [], laidByText := true, laidKinds := [.data], laidTests := true, laidLooks := .later }
def EnvironAboveUptoCardSaid : Prop := Claim7.holds Tryd.pinned (.plain (OpenSpec.upto environAboveSpec)) environAboveUptoCard

/-- THE SECOND FORM's CARD OF 'dataflowlaw34.EnvironSteps'. -/
def environStepsUptoCard : Claim7 := { stood := { row := environStepsUptoRow, standIns := [], harness := (true, "f615c8135081c0bbf234a179e40940b761b53f711b0fb4a078f9e7613e0daf23"), looks := false }, kinds := [], alts := [], laidByText := true, laidKinds := [.data], laidTests := true, laidLooks := .later }
def EnvironStepsUptoCardSaid : Prop := Claim7.holds Tryd.pinned (.plain (OpenSpec.upto environStepsSpec)) environStepsUptoCard

/-- THE SECOND FORM's CARD OF 'dataflowlaw34.EnvironMeet'. -/
def environMeetUptoCard : Claim7 := { stood := { row := environMeetUptoRow, standIns := [], harness := (true, "f615c8135081c0bbf234a179e40940b761b53f711b0fb4a078f9e7613e0daf23"), looks := false }, kinds := [], alts := [], laidByText := true, laidKinds := [.data], laidTests := true, laidLooks := .later }
def EnvironMeetUptoCardSaid : Prop := Claim7.holds Tryd.pinned (.plain (OpenSpec.upto environMeetSpec)) environMeetUptoCard

/-- THE SECOND FORM's CARD OF 'dataflowlaw33.IdeCheck'. -/
def ideCheckUptoCard : Claim7 := { stood := { row := ideCheckUptoRow, standIns := [], harness := (true, "f615c8135081c0bbf234a179e40940b761b53f711b0fb4a078f9e7613e0daf23"), looks := false }, kinds := [], alts := [], laidByText := true, laidKinds := [.data], laidTests := true, laidLooks := .later }
def IdeCheckUptoCardSaid : Prop := Claim7.holds Tryd.pinned (.plain (OpenSpec.upto ideCheckSpec)) ideCheckUptoCard
end Rows
end Go.Proofs.YtmjebjjhfoncfaaDoor
