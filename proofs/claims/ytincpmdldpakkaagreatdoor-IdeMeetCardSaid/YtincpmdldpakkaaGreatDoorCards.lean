/-
  DERIVED. GIVEN WITH THE SEED: THE CARDS: each row of YtincpmdldpakkaaGreatDoorRows.lean that lists a variable, with what it lists TIED to the program's text (the seventh form; the later family's looks); each row that meets fmt, with fmt's text TOLD by the authors' own Lean function (tested against real Go, not proved from fmt's source: count such statements apart). THE CARD IS WHAT COUNTS. Prove the row's statement (the work); the ties are given (YtincpmdldpakkaaGreatDoorTie.lean); close each card by the builder's one call (the guide's Derived/Test/ToyasCard.lean, 'card_holds'). Laid BY PROGRAM, IN A SANDBOX (cutbox-door.mjs). By AI agents, Wed Nov 11 2026. No macro, syntax, notation, axiom, sorry.
-/
import Derived.Test.YtincpmdldpakkaaGreatDoorRows
import GoSem.ClaimSeven
namespace Go.Proofs.YtincpmdldpakkaaGreatDoor
namespace Rows

/-- THE TIED CARD OF 'dataflowlaw33.IdeMeet'. -/
def ideMeetCard : Claim7 := { stood := { row := ideMeetRow, standIns := [], harness := (true, "71f00171689155af6c0413b084f8d12cbd76bd33c52569d0b4b342aa73e4cad6"), looks := true }, kinds := [], alts := [], laidByText := true, laidKinds := [.data], laidTests := true, laidLooks := .later }
def IdeMeetCardSaid : Prop := Claim7.holds Tryz.pinned (.plain (OpenSpec.ofChange ideMeetSpec)) ideMeetCard

/-- THE TIED CARD OF 'dataflowlaw33.IdeReaches'. -/
def ideReachesCard : Claim7 := { stood := { row := ideReachesRow, standIns := [], harness := (true, "71f00171689155af6c0413b084f8d12cbd76bd33c52569d0b4b342aa73e4cad6"), looks := true }, kinds := [], alts := [], laidByText := true, laidKinds := [.data], laidTests := true, laidLooks := .later }
def IdeReachesCardSaid : Prop := Claim7.holds Tryz.pinned (.plain (OpenSpec.ofChange ideReachesSpec)) ideReachesCard

/-- THE TIED CARD OF 'dataflowlaw33.IdeJumps'. -/
def ideJumpsCard : Claim7 := { stood := { row := ideJumpsRow, standIns := [], harness := (true, "71f00171689155af6c0413b084f8d12cbd76bd33c52569d0b4b342aa73e4cad6"), looks := true }, kinds := [], alts := [], laidByText := true, laidKinds := [.data], laidTests := true, laidLooks := .later }
def IdeJumpsCardSaid : Prop := Claim7.holds Tryz.pinned (.plain (OpenSpec.ofChange ideJumpsSpec)) ideJumpsCard

/-- THE TIED CARD OF 'dataflowlaw34.EnvironUp'. -/
def environUpCard : Claim7 := { stood := { row := environUpRow, standIns := [], harness := (true, "71f00171689155af6c0413b084f8d12cbd76bd33c52569d0b4b342aa73e4cad6"), looks := true }, kinds := [], alts := [], laidByText := true, laidKinds := [.data], laidTests := true, laidLooks := .later }
def EnvironUpCardSaid : Prop := Claim7.holds Tryz.pinned (.plain (OpenSpec.ofChange environUpSpec)) environUpCard

/-- THE TIED CARD OF 'dataflowlaw34.EnvironFalls'. -/
def environFallsCard : Claim7 := { stood := { row := environFallsRow, standIns := [], harness := (true, "71f00171689155af6c0413b084f8d12cbd76bd33c52569d0b4b342aa73e4cad6"), looks := true }, kinds := [], alts := [], laidByText := true, laidKinds := [.data], laidTests := true, laidLooks := .later }
def EnvironFallsCardSaid : Prop := Claim7.holds Tryz.pinned (.plain (OpenSpec.ofChange environFallsSpec)) environFallsCard

/-- THE SECOND FORM's CARD OF 'dataflowlaw33.IdeMeet'. -/
def ideMeetUptoCard : Claim7 := { stood := { row := ideMeetUptoRow, standIns := [], harness := (true, "71f00171689155af6c0413b084f8d12cbd76bd33c52569d0b4b342aa73e4cad6"), looks := true }, kinds := [], alts := [], laidByText := true, laidKinds := [.data], laidTests := true, laidLooks := .later }
def IdeMeetUptoCardSaid : Prop := Claim7.holds Tryz.pinned (.plain (OpenSpec.upto ideMeetSpec)) ideMeetUptoCard

/-- THE SECOND FORM's CARD OF 'dataflowlaw33.IdeReaches'. -/
def ideReachesUptoCard : Claim7 := { stood := { row := ideReachesUptoRow, standIns := [], harness := (true, "71f00171689155af6c0413b084f8d12cbd76bd33c52569d0b4b342aa73e4cad6"), looks := true }, kinds := [], alts := [], laidByText := true, laidKinds := [.data], laidTests := true, laidLooks := .later }
def IdeReachesUptoCardSaid : Prop := Claim7.holds Tryz.pinned (.plain (OpenSpec.upto ideReachesSpec)) ideReachesUptoCard

/-- THE SECOND FORM's CARD OF 'dataflowlaw33.IdeJumps'. -/
def ideJumpsUptoCard : Claim7 := { stood := { row := ideJumpsUptoRow, standIns := [], harness := (true, "71f00171689155af6c0413b084f8d12cbd76bd33c52569d0b4b342aa73e4cad6"), looks := true }, kinds := [], alts := [], laidByText := true, laidKinds := [.data], laidTests := true, laidLooks := .later }
def IdeJumpsUptoCardSaid : Prop := Claim7.holds Tryz.pinned (.plain (OpenSpec.upto ideJumpsSpec)) ideJumpsUptoCard

/-- THE SECOND FORM's CARD OF 'dataflowlaw34.EnvironUp'. -/
def environUpUptoCard : Claim7 := { stood := { row := environUpUptoRow, standIns := [], harness := (true, "71f00171689155af6c0413b084f8d12cbd76bd33c52569d0b4b342aa73e4cad6"), looks := true }, kinds := [], alts := [], laidByText := true, laidKinds := [.data], laidTests := true, laidLooks := .later }
def EnvironUpUptoCardSaid : Prop := Claim7.holds Tryz.pinned (.plain (OpenSpec.upto environUpSpec)) environUpUptoCard

/-- THE SECOND FORM's CARD OF 'dataflowlaw34.EnvironFalls'. -/
def environFallsUptoCard : Claim7 := { stood := { row := environFallsUptoRow, standIns := [], harness := (true, "71f00171689155af6c0413b084f8d12cbd76bd33c52569d0b4b342aa73e4cad6"), looks := true }, kinds := [], alts := [], laidByText := true, laidKinds := [.data], laidTests := true, laidLooks := .later }
def EnvironFallsUptoCardSaid : Prop := Claim7.holds Tryz.pinned (.plain (OpenSpec.upto environFallsSpec)) environFallsUptoCard
end Rows
end Go.Proofs.YtincpmdldpakkaaGreatDoor
