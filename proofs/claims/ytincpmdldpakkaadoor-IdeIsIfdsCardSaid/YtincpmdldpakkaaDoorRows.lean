/-
  NARROWER THAN 'FOR EVERY INPUT', by the rows' own cells (each row's printed sentence says how): IdeCheck: laid · IdeSolve: laid · IdeIsIfds: laid · IdeFacts: laid.
  DERIVED. THE GIVEN ROWS OF THIS SEAT. 4 by the template 'for every input the law returns true; each argument reads behind the call as it read before'; 0 by the template 'total and deterministic' (their statements: YtincpmdldpakkaaDoorTotals.lean).
  GIVEN WITH THE SEED: the statements are not yours to turn. If you find one false, say at which input.
  Laid BY PROGRAM, IN A SANDBOX (cutbox-rows.mjs): the forced cells as the released guide's own fill.sh prints them over the translation bd0f8f0f712205de… (all of the seat's roots in one cut). By AI agents, Wed Nov 11 2026. No macro, syntax, notation, axiom, sorry.
-/
import Derived.Test.YtincpmdldpakkaaDoorChecked
import GoSem.Claim
import GoSem.ClaimJoined
import GoSem.ClaimMapViews
import Derived.JoinedTies
import Derived.KernelRfl
namespace Go.Proofs.YtincpmdldpakkaaDoor
/- THE CELL 'sum', in the pinned program and in every row, IS THE sha256 OF THE DUMP (.gsa) THAT YtincpmdldpakkaaDoorProg.lean LOADS. Nothing in Lean hashes anything: it is a label: what it is worth is what the hold of that sum in a sandbox is worth. -/
noncomputable def Tryd.pinned : Pinned := { name := "ytincpmdldpakkaadoor", sum := "bd0f8f0f712205de0747daaa49a78c0e89504fb559d3a4dd32cf7efbc2bfd991", checked := Tryd.checked }
namespace Rows
def none {H : Type} : Left H := { results := [], args := [] }

/- WHAT THE LISTED PACKAGE-LEVEL VARIABLES READ AS WHEN THE CALL BEGINS. Each datum BY PROGRAM (the guide's laid-datum.mjs) off the statement by which the dump's own 'gosem.cut.vars' lays the variable. In a bare row this is a premise. The card (YtincpmdldpakkaaDoorCards.lean) ties it to the program's text. -/
def laid_dataflow_ide_shift {H : Type} : DataW H := .agg [.lit (.int .i64 2), .lit (.int .i64 0), .lit (.int .i64 0)]

/-- 'dataflowlaw33.IdeCheck': WHATEVER THE INPUT: true; the input reads as it did. -/
def ideCheckSpec : ChangeSpec := { name := "ideCheck", fn := fun _ => fun
  | [d] => { results := [.lit (.bool true)], args := [d] }
  | _ => none }
def ideCheckRow : OpenClaim := { program := "ytincpmdldpakkaadoor", sum := "bd0f8f0f712205de0747daaa49a78c0e89504fb559d3a4dd32cf7efbc2bfd991", func := "dataflow/dataflowlaw33.IdeCheck", spec := "ideCheck", inPlace := ["slices.overlaps[int]"], unfollowed := true, recurses := true, named := ["dataflow/ide.shift"], plainKeys := false, apart := false, laid := [("dataflow/ide.shift", laid_dataflow_ide_shift)] }
def IdeCheckSaid : Prop := ideCheckRow.holds Tryd.pinned (OpenSpec.ofChange ideCheckSpec)

/-- ITS FALSE NEIGHBOUR: 'it returns false'. Refute it at one input. -/
def ideCheckWrong : ChangeSpec := { name := "ideCheck", fn := fun _ => fun
  | [d] => { results := [.lit (.bool false)], args := [d] }
  | _ => none }
def IdeCheckWrongFalsely : Prop := ideCheckRow.holds Tryd.pinned (OpenSpec.ofChange ideCheckWrong)

/-- 'dataflowlaw33.IdeSolve': WHATEVER THE INPUT: true; the input reads as it did. -/
def ideSolveSpec : ChangeSpec := { name := "ideSolve", fn := fun _ => fun
  | [d] => { results := [.lit (.bool true)], args := [d] }
  | _ => none }
def ideSolveRow : OpenClaim := { program := "ytincpmdldpakkaadoor", sum := "bd0f8f0f712205de0747daaa49a78c0e89504fb559d3a4dd32cf7efbc2bfd991", func := "dataflow/dataflowlaw33.IdeSolve", spec := "ideSolve", inPlace := ["slices.overlaps[int]"], unfollowed := true, recurses := true, named := ["dataflow/ide.shift"], plainKeys := false, apart := false, laid := [("dataflow/ide.shift", laid_dataflow_ide_shift)] }
def IdeSolveSaid : Prop := ideSolveRow.holds Tryd.pinned (OpenSpec.ofChange ideSolveSpec)

/-- ITS FALSE NEIGHBOUR: 'it returns false'. Refute it at one input. -/
def ideSolveWrong : ChangeSpec := { name := "ideSolve", fn := fun _ => fun
  | [d] => { results := [.lit (.bool false)], args := [d] }
  | _ => none }
def IdeSolveWrongFalsely : Prop := ideSolveRow.holds Tryd.pinned (OpenSpec.ofChange ideSolveWrong)

/-- 'dataflowlaw33.IdeIsIfds': WHATEVER THE INPUT: true; the input reads as it did. -/
def ideIsIfdsSpec : ChangeSpec := { name := "ideIsIfds", fn := fun _ => fun
  | [d] => { results := [.lit (.bool true)], args := [d] }
  | _ => none }
def ideIsIfdsRow : OpenClaim := { program := "ytincpmdldpakkaadoor", sum := "bd0f8f0f712205de0747daaa49a78c0e89504fb559d3a4dd32cf7efbc2bfd991", func := "dataflow/dataflowlaw33.IdeIsIfds", spec := "ideIsIfds", inPlace := ["slices.overlaps[int]"], unfollowed := true, recurses := true, named := ["dataflow/ide.shift"], plainKeys := false, apart := false, laid := [("dataflow/ide.shift", laid_dataflow_ide_shift)] }
def IdeIsIfdsSaid : Prop := ideIsIfdsRow.holds Tryd.pinned (OpenSpec.ofChange ideIsIfdsSpec)

/-- ITS FALSE NEIGHBOUR: 'it returns false'. Refute it at one input. -/
def ideIsIfdsWrong : ChangeSpec := { name := "ideIsIfds", fn := fun _ => fun
  | [d] => { results := [.lit (.bool false)], args := [d] }
  | _ => none }
def IdeIsIfdsWrongFalsely : Prop := ideIsIfdsRow.holds Tryd.pinned (OpenSpec.ofChange ideIsIfdsWrong)

/-- 'dataflowlaw33.IdeFacts': WHATEVER THE INPUT: true; the input reads as it did. -/
def ideFactsSpec : ChangeSpec := { name := "ideFacts", fn := fun _ => fun
  | [d] => { results := [.lit (.bool true)], args := [d] }
  | _ => none }
def ideFactsRow : OpenClaim := { program := "ytincpmdldpakkaadoor", sum := "bd0f8f0f712205de0747daaa49a78c0e89504fb559d3a4dd32cf7efbc2bfd991", func := "dataflow/dataflowlaw33.IdeFacts", spec := "ideFacts", inPlace := ["slices.overlaps[int]"], unfollowed := true, recurses := true, named := ["dataflow/ide.shift"], plainKeys := false, apart := false, laid := [("dataflow/ide.shift", laid_dataflow_ide_shift)] }
def IdeFactsSaid : Prop := ideFactsRow.holds Tryd.pinned (OpenSpec.ofChange ideFactsSpec)

/-- ITS FALSE NEIGHBOUR: 'it returns false'. Refute it at one input. -/
def ideFactsWrong : ChangeSpec := { name := "ideFacts", fn := fun _ => fun
  | [d] => { results := [.lit (.bool false)], args := [d] }
  | _ => none }
def IdeFactsWrongFalsely : Prop := ideFactsRow.holds Tryd.pinned (OpenSpec.ofChange ideFactsWrong)

/- THE SECOND FORM. 'bulk': how many values and letters a reading holds, each counted each time it is reached (what is shared counts as often as it is met; a slice's spare places count too). A statement '..UptoSaid' is the law's where the arguments, and the package variables that the reading takes, are together of bulk at most 1048576: NARROWER than '..Said'. Prove '..Said' where nothing that the law and all that it calls make is longer than what came in: it says more and counts as full. Else prove '..UptoSaid'. A law counts once. -/
mutual
def uptoBulk {H : Type} : DataW H → Nat
  | .lit (.string bytes) => bytes.length + 1
  | .lit _ => 1
  | .nil => 1
  | .ptr d => uptoBulk d + 1
  | .slice elems spare => uptoBulkAll elems + uptoBulkAll spare + 1
  | .agg parts => uptoBulkAll parts + 1
  | .iface _ d => uptoBulk d + 1
  | .map entries => uptoBulkEntries entries + 1
  | .held _ => 1
def uptoBulkAll {H : Type} : List (DataW H) → Nat
  | [] => 0
  | d :: r => uptoBulk d + uptoBulkAll r
def uptoBulkEntries {H : Type} : List (Lit × DataW H) → Nat
  | [] => 0
  | x :: r => uptoBulkEntry x + uptoBulkEntries r
def uptoBulkEntry {H : Type} : Lit × DataW H → Nat
  | (.string bytes, d) => bytes.length + uptoBulk d + 1
  | (_, d) => uptoBulk d + 1
 end
def uptoSmall : (H : Type) → List (DataW H) → Bool := fun _ ds => decide (uptoBulkAll ds ≤ 1048576)
def OpenSpec.upto (s : _root_.Go.ChangeSpec) : _root_.Go.OpenSpec := { _root_.Go.OpenSpec.ofChange s with cond := some uptoSmall }

/-- 'dataflowlaw33.IdeCheck', WHERE WHAT IT READS IS OF BULK AT MOST 1048576: true; the input reads as it did. -/
def ideCheckUptoRow : OpenClaim := { program := "ytincpmdldpakkaadoor", sum := "bd0f8f0f712205de0747daaa49a78c0e89504fb559d3a4dd32cf7efbc2bfd991", func := "dataflow/dataflowlaw33.IdeCheck", spec := "ideCheck", inPlace := ["slices.overlaps[int]"], unfollowed := true, recurses := true, named := ["dataflow/ide.shift"], plainKeys := false, apart := false, laid := [("dataflow/ide.shift", laid_dataflow_ide_shift)], narrowed := true }
def IdeCheckUptoSaid : Prop := ideCheckUptoRow.holds Tryd.pinned (OpenSpec.upto ideCheckSpec)

/-- 'dataflowlaw33.IdeSolve', WHERE WHAT IT READS IS OF BULK AT MOST 1048576: true; the input reads as it did. -/
def ideSolveUptoRow : OpenClaim := { program := "ytincpmdldpakkaadoor", sum := "bd0f8f0f712205de0747daaa49a78c0e89504fb559d3a4dd32cf7efbc2bfd991", func := "dataflow/dataflowlaw33.IdeSolve", spec := "ideSolve", inPlace := ["slices.overlaps[int]"], unfollowed := true, recurses := true, named := ["dataflow/ide.shift"], plainKeys := false, apart := false, laid := [("dataflow/ide.shift", laid_dataflow_ide_shift)], narrowed := true }
def IdeSolveUptoSaid : Prop := ideSolveUptoRow.holds Tryd.pinned (OpenSpec.upto ideSolveSpec)

/-- 'dataflowlaw33.IdeIsIfds', WHERE WHAT IT READS IS OF BULK AT MOST 1048576: true; the input reads as it did. -/
def ideIsIfdsUptoRow : OpenClaim := { program := "ytincpmdldpakkaadoor", sum := "bd0f8f0f712205de0747daaa49a78c0e89504fb559d3a4dd32cf7efbc2bfd991", func := "dataflow/dataflowlaw33.IdeIsIfds", spec := "ideIsIfds", inPlace := ["slices.overlaps[int]"], unfollowed := true, recurses := true, named := ["dataflow/ide.shift"], plainKeys := false, apart := false, laid := [("dataflow/ide.shift", laid_dataflow_ide_shift)], narrowed := true }
def IdeIsIfdsUptoSaid : Prop := ideIsIfdsUptoRow.holds Tryd.pinned (OpenSpec.upto ideIsIfdsSpec)

/-- 'dataflowlaw33.IdeFacts', WHERE WHAT IT READS IS OF BULK AT MOST 1048576: true; the input reads as it did. -/
def ideFactsUptoRow : OpenClaim := { program := "ytincpmdldpakkaadoor", sum := "bd0f8f0f712205de0747daaa49a78c0e89504fb559d3a4dd32cf7efbc2bfd991", func := "dataflow/dataflowlaw33.IdeFacts", spec := "ideFacts", inPlace := ["slices.overlaps[int]"], unfollowed := true, recurses := true, named := ["dataflow/ide.shift"], plainKeys := false, apart := false, laid := [("dataflow/ide.shift", laid_dataflow_ide_shift)], narrowed := true }
def IdeFactsUptoSaid : Prop := ideFactsUptoRow.holds Tryd.pinned (OpenSpec.upto ideFactsSpec)

end Rows
end Go.Proofs.YtincpmdldpakkaaDoor
