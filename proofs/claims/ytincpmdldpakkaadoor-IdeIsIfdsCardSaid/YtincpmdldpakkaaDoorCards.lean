/-
  DERIVED. GIVEN WITH THE SEED: THE CARDS: each row of YtincpmdldpakkaaDoorRows.lean that lists a variable, with what it lists TIED to the program's text (the seventh form; the later family's looks); each row that meets fmt, with fmt's text TOLD by the authors' own Lean function (tested against real Go, not proved from fmt's source: count such statements apart). THE CARD IS WHAT COUNTS. Prove the row's statement (the work); the ties are given (YtincpmdldpakkaaDoorTie.lean); close each card by the builder's one call (the guide's Derived/Test/ToyasCard.lean, 'card_holds'). Laid BY PROGRAM, IN A SANDBOX (cutbox-door.mjs). By AI agents, Wed Nov 11 2026. No macro, syntax, notation, axiom, sorry.
-/
import Derived.Test.YtincpmdldpakkaaDoorRows
import GoSem.ClaimSeven
namespace Go.Proofs.YtincpmdldpakkaaDoor
namespace Rows

/-- THE TIED CARD OF 'dataflowlaw33.IdeCheck'. -/
def ideCheckCard : Claim7 := { stood := { row := ideCheckRow, standIns := [], harness := (true, "a2fc97cd5da07df7f1c8edd03454bbab9935e7b73ac7db4450ddca5e48d1a798"), looks := false }, kinds := [], alts := [], laidByText := true, laidKinds := [.data], laidTests := true, laidLooks := .later }
def IdeCheckCardSaid : Prop := Claim7.holds Tryd.pinned (.plain (OpenSpec.ofChange ideCheckSpec)) ideCheckCard

/-- THE TIED CARD OF 'dataflowlaw33.IdeSolve'. -/
def ideSolveCard : Claim7 := { stood := { row := ideSolveRow, standIns := [], harness := (true, "a2fc97cd5da07df7f1c8edd03454bbab9935e7b73ac7db4450ddca5e48d1a798"), looks := false }, kinds := [], alts := [], laidByText := true, laidKinds := [.data], laidTests := true, laidLooks := .later }
def IdeSolveCardSaid : Prop := Claim7.holds Tryd.pinned (.plain (OpenSpec.ofChange ideSolveSpec)) ideSolveCard

/-- THE TIED CARD OF 'dataflowlaw33.IdeIsIfds'. -/
def ideIsIfdsCard : Claim7 := { stood := { row := ideIsIfdsRow, standIns := [], harness := (true, "a2fc97cd5da07df7f1c8edd03454bbab9935e7b73ac7db4450ddca5e48d1a798"), looks := false }, kinds := [], alts := [], laidByText := true, laidKinds := [.data], laidTests := true, laidLooks := .later }
def IdeIsIfdsCardSaid : Prop := Claim7.holds Tryd.pinned (.plain (OpenSpec.ofChange ideIsIfdsSpec)) ideIsIfdsCard

/-- THE TIED CARD OF 'dataflowlaw33.IdeFacts'. -/
def ideFactsCard : Claim7 := { stood := { row := ideFactsRow, standIns := [], harness := (true, "a2fc97cd5da07df7f1c8edd03454bbab9935e7b73ac7db4450ddca5e48d1a798"), looks := false }, kinds := [], alts := [], laidByText := true, laidKinds := [.data], laidTests := true, laidLooks := .later }
def IdeFactsCardSaid : Prop := Claim7.holds Tryd.pinned (.plain (OpenSpec.ofChange ideFactsSpec)) ideFactsCard

/-- THE SECOND FORM's CARD OF 'dataflowlaw33.IdeCheck'. -/
def ideCheckUptoCard : Claim7 := { stood := { row := ideCheckUptoRow, standIns := [], harness := (true, "a2fc97cd5da07df7f1c8edd03454bbab9935e7b73ac7db4450ddca5e48d1a798"), looks := false }, kinds := [], alts := [], laidByText := true, laidKinds := [.data], laidTests := true, laidLooks := .later }
def IdeCheckUptoCardSaid : Prop := Claim7.holds Tryd.pinned (.plain (OpenSpec.upto ideCheckSpec)) ideCheckUptoCard

/-- THE SECOND FORM's CARD OF 'dataflowlaw33.IdeSolve'. -/
def ideSolveUptoCard : Claim7 := { stood := { row := ideSolveUptoRow, standIns := [], harness := (true, "a2fc97cd5da07df7f1c8edd03454bbab9935e7b73ac7db4450ddca5e48d1a798"), looks := false }, kinds := [], alts := [], laidByText := true, laidKinds := [.data], laidTests := true, laidLooks := .later }
def IdeSolveUptoCardSaid : Prop := Claim7.holds Tryd.pinned (.plain (OpenSpec.upto ideSolveSpec)) ideSolveUptoCard

/-- THE SECOND FORM's CARD OF 'dataflowlaw33.IdeIsIfds'. -/
def ideIsIfdsUptoCard : Claim7 := { stood := { row := ideIsIfdsUptoRow, standIns := [], harness := (true, "a2fc97cd5da07df7f1c8edd03454bbab9935e7b73ac7db4450ddca5e48d1a798"), looks := false }, kinds := [], alts := [], laidByText := true, laidKinds := [.data], laidTests := true, laidLooks := .later }
def IdeIsIfdsUptoCardSaid : Prop := Claim7.holds Tryd.pinned (.plain (OpenSpec.upto ideIsIfdsSpec)) ideIsIfdsUptoCard

/-- THE SECOND FORM's CARD OF 'dataflowlaw33.IdeFacts'. -/
def ideFactsUptoCard : Claim7 := { stood := { row := ideFactsUptoRow, standIns := [], harness := (true, "a2fc97cd5da07df7f1c8edd03454bbab9935e7b73ac7db4450ddca5e48d1a798"), looks := false }, kinds := [], alts := [], laidByText := true, laidKinds := [.data], laidTests := true, laidLooks := .later }
def IdeFactsUptoCardSaid : Prop := Claim7.holds Tryd.pinned (.plain (OpenSpec.upto ideFactsSpec)) ideFactsUptoCard
end Rows
end Go.Proofs.YtincpmdldpakkaaDoor
