/-
  NARROWER THAN 'FOR EVERY INPUT', by the rows' own cells (each row's printed sentence says how): EnvironAlong: laid · EnvironAbove: laid · EnvironSteps: laid · EnvironMeet: laid · IdeCheck: laid.
  DERIVED. THE GIVEN ROWS OF THIS SEAT. 5 by the template 'for every input the law returns true; each argument reads behind the call as it read before'; 0 by the template 'total and deterministic' (their statements: YtmjebjjhfoncfaaDoorTotals.lean).
  GIVEN WITH THE SEED: the statements are not yours to turn. If you find one false, say at which input.
  Laid BY PROGRAM, IN A SANDBOX (cutbox-rows.mjs): the forced cells as the released guide's own fill.sh prints them over the translation f048879ff68885e8… (all of the seat's roots in one cut). By AI agents, Wed Nov 11 2026. No macro, syntax, notation, axiom, sorry.
-/
import Derived.Test.YtmjebjjhfoncfaaDoorChecked
import GoSem.Claim
import GoSem.ClaimJoined
import GoSem.ClaimMapViews
import Derived.JoinedTies
import Derived.KernelRfl
namespace Go.Proofs.YtmjebjjhfoncfaaDoor
/- THE CELL 'sum', in the pinned program and in every row, IS THE sha256 OF THE DUMP (.gsa) THAT YtmjebjjhfoncfaaDoorProg.lean LOADS. Nothing in Lean hashes anything: it is a label: what it is worth is what the hold of that sum in a sandbox is worth. -/
noncomputable def Tryd.pinned : Pinned := { name := "ytmjebjjhfoncfaadoor", sum := "f048879ff68885e8c98268ffe196db081e96fb48126ae020c9b1c6df29aade81", checked := Tryd.checked }
namespace Rows
def none {H : Type} : Left H := { results := [], args := [] }

/- WHAT THE LISTED PACKAGE-LEVEL VARIABLES READ AS WHEN THE CALL BEGINS. Each datum BY PROGRAM (the guide's laid-datum.mjs) off the statement by which the dump's own 'gosem.cut.vars' lays the variable. In a bare row this is a premise. The card (YtmjebjjhfoncfaaDoorCards.lean) ties it to the program's text. -/
def laid_dataflow_ide_shift {H : Type} : DataW H := .agg [.lit (.int .i64 2), .lit (.int .i64 0), .lit (.int .i64 0)]

/-- 'dataflowlaw34.EnvironAlong': WHATEVER THE INPUT: true; the input reads as it did. -/
def environAlongSpec : ChangeSpec := { name := "environAlong", fn := fun _ => fun
  | [d1, d2] => { results := [.lit (.bool true)], args := [d1, d2] }
  | _ => none }
def environAlongRow : OpenClaim := { program := "ytmjebjjhfoncfaadoor", sum := "f048879ff68885e8c98268ffe196db081e96fb48126ae020c9b1c6df29aade81", func := "dataflow/dataflowlaw34.EnvironAlong", spec := "environAlong", unfollowed := true, recurses := true, named := ["dataflow/ide.shift"], plainKeys := false, apart := false, laid := [("dataflow/ide.shift", laid_dataflow_ide_shift)] }
def EnvironAlongSaid : Prop := environAlongRow.holds Tryd.pinned (OpenSpec.ofChange environAlongSpec)

/-- ITS FALSE NEIGHBOUR: 'it returns false'. Refute it at one input. -/
def environAlongWrong : ChangeSpec := { name := "environAlong", fn := fun _ => fun
  | [d1, d2] => { results := [.lit (.bool false)], args := [d1, d2] }
  | _ => none }
def EnvironAlongWrongFalsely : Prop := environAlongRow.holds Tryd.pinned (OpenSpec.ofChange environAlongWrong)

/-- 'dataflowlaw34.EnvironAbove': WHATEVER THE INPUT: true; the input reads as it did. -/
def environAboveSpec : ChangeSpec := { name := "environAbove", fn := fun _ => fun
  | [d1, d2] => { results := [.lit (.bool true)], args := [d1, d2] }
  | _ => none }
def environAboveRow : OpenClaim := { program := "ytmjebjjhfoncfaadoor", sum := "f048879ff68885e8c98268ffe196db081e96fb48126ae020c9b1c6df29aade81", func := "dataflow/dataflowlaw34.EnvironAbove", spec := "environAbove", unfollowed := true, recurses := true, named := ["dataflow/ide.shift"], plainKeys := false, apart := false, laid := [("dataflow/ide.shift", laid_dataflow_ide_shift)] }
def EnvironAboveSaid : Prop := environAboveRow.holds Tryd.pinned (OpenSpec.ofChange environAboveSpec)

/-- ITS FALSE NEIGHBOUR: 'it returns false'. Refute it at one input. -/
def environAboveWrong : ChangeSpec := { name := "environAbove", fn := fun _ => fun
  | [d1, d2] => { results := [.lit (.bool false)], args := [d1, d2] }
  | _ => none }
def EnvironAboveWrongFalsely : Prop := environAboveRow.holds Tryd.pinned (OpenSpec.ofChange environAboveWrong)

/-- 'dataflowlaw34.EnvironSteps': WHATEVER THE INPUT: true; the input reads as it did. -/
def environStepsSpec : ChangeSpec := { name := "environSteps", fn := fun _ => fun
  | [d1, d2] => { results := [.lit (.bool true)], args := [d1, d2] }
  | _ => none }
def environStepsRow : OpenClaim := { program := "ytmjebjjhfoncfaadoor", sum := "f048879ff68885e8c98268ffe196db081e96fb48126ae020c9b1c6df29aade81", func := "dataflow/dataflowlaw34.EnvironSteps", spec := "environSteps", unfollowed := true, recurses := true, named := ["dataflow/ide.shift"], plainKeys := false, apart := false, laid := [("dataflow/ide.shift", laid_dataflow_ide_shift)] }
def EnvironStepsSaid : Prop := environStepsRow.holds Tryd.pinned (OpenSpec.ofChange environStepsSpec)

/-- ITS FALSE NEIGHBOUR: 'it returns false'. Refute it at one input. -/
def environStepsWrong : ChangeSpec := { name := "environSteps", fn := fun _ => fun
  | [d1, d2] => { results := [.lit (.bool false)], args := [d1, d2] }
  | _ => none }
def EnvironStepsWrongFalsely : Prop := environStepsRow.holds Tryd.pinned (OpenSpec.ofChange environStepsWrong)

/-- 'dataflowlaw34.EnvironMeet': WHATEVER THE INPUT: true; the input reads as it did. -/
def environMeetSpec : ChangeSpec := { name := "environMeet", fn := fun _ => fun
  | [d1, d2] => { results := [.lit (.bool true)], args := [d1, d2] }
  | _ => none }
def environMeetRow : OpenClaim := { program := "ytmjebjjhfoncfaadoor", sum := "f048879ff68885e8c98268ffe196db081e96fb48126ae020c9b1c6df29aade81", func := "dataflow/dataflowlaw34.EnvironMeet", spec := "environMeet", unfollowed := true, recurses := true, named := ["dataflow/ide.shift"], plainKeys := false, apart := false, laid := [("dataflow/ide.shift", laid_dataflow_ide_shift)] }
def EnvironMeetSaid : Prop := environMeetRow.holds Tryd.pinned (OpenSpec.ofChange environMeetSpec)

/-- ITS FALSE NEIGHBOUR: 'it returns false'. Refute it at one input. -/
def environMeetWrong : ChangeSpec := { name := "environMeet", fn := fun _ => fun
  | [d1, d2] => { results := [.lit (.bool false)], args := [d1, d2] }
  | _ => none }
def EnvironMeetWrongFalsely : Prop := environMeetRow.holds Tryd.pinned (OpenSpec.ofChange environMeetWrong)

/-- 'dataflowlaw33.IdeCheck': WHATEVER THE INPUT: true; the input reads as it did. -/
def ideCheckSpec : ChangeSpec := { name := "ideCheck", fn := fun _ => fun
  | [d] => { results := [.lit (.bool true)], args := [d] }
  | _ => none }
def ideCheckRow : OpenClaim := { program := "ytmjebjjhfoncfaadoor", sum := "f048879ff68885e8c98268ffe196db081e96fb48126ae020c9b1c6df29aade81", func := "dataflow/dataflowlaw33.IdeCheck", spec := "ideCheck", inPlace := ["slices.overlaps[int]"], unfollowed := true, recurses := true, named := ["dataflow/ide.shift"], plainKeys := false, apart := false, laid := [("dataflow/ide.shift", laid_dataflow_ide_shift)] }
def IdeCheckSaid : Prop := ideCheckRow.holds Tryd.pinned (OpenSpec.ofChange ideCheckSpec)

/-- ITS FALSE NEIGHBOUR: 'it returns false'. Refute it at one input. -/
def ideCheckWrong : ChangeSpec := { name := "ideCheck", fn := fun _ => fun
  | [d] => { results := [.lit (.bool false)], args := [d] }
  | _ => none }
def IdeCheckWrongFalsely : Prop := ideCheckRow.holds Tryd.pinned (OpenSpec.ofChange ideCheckWrong)

/- THE SECOND FORM. 'bulk': how many values and letters a reading holds, each counted each time it is reached (what is shared counts as often as it is met; a slice's spare places count too). A statement '..UptoSaid' is the law's where the arguments, and the package variables that the reading takes, are together of bulk at most 1048576: NARROWER than '..Said'. Prove '..Said' where nothing that the law and all that it calls make is longer than what came in: it says more and counts as full. Else prove '..UptoSaid'. A law counts once. -/
mutual
def uptoBulk {H : Type} : DataW H → Nat
  | .lit (.string bytes) => bytes.length + 1
  | .lit _ => 1
  | .nil => 1
  | .ptr d => uptoBulk d + 1
  | .slice elems spare => uptoBulkAll elems + uptoBulkAll spare + 1
  | .agg parts => uptoBulkAll parts + 1
  | .iface _ d => uptoBulk d + 1
  | .map entries => uptoBulkEntries entries + 1
  | .held _ => 1
def uptoBulkAll {H : Type} : List (DataW H) → Nat
  | [] => 0
  | d :: r => uptoBulk d + uptoBulkAll r
def uptoBulkEntries {H : Type} : List (Lit × DataW H) → Nat
  | [] => 0
  | x :: r => uptoBulkEntry x + uptoBulkEntries r
def uptoBulkEntry {H : Type} : Lit × DataW H → Nat
  | (.string bytes, d) => bytes.length + uptoBulk d + 1
  | (_, d) => uptoBulk d + 1
 end
def uptoSmall : (H : Type) → List (DataW H) → Bool := fun _ ds => decide (uptoBulkAll ds ≤ 1048576)
def OpenSpec.upto (s : _root_.Go.ChangeSpec) : _root_.Go.OpenSpec := { _root_.Go.OpenSpec.ofChange s with cond := some uptoSmall }

/-- 'dataflowlaw34.EnvironAlong', WHERE WHAT IT READS IS OF BULK AT MOST 1048576: true; the input reads as it did. -/
def environAlongUptoRow : OpenClaim := { program := "ytmjebjjhfoncfaadoor", sum := "f048879ff68885e8c98268ffe196db081e96fb48126ae020c9b1c6df29aade81", func := "dataflow/dataflowlaw34.EnvironAlong", spec := "environAlong", unfollowed := true, recurses := true, named := ["dataflow/ide.shift"], plainKeys := false, apart := false, laid := [("dataflow/ide.shift", laid_dataflow_ide_shift)], narrowed := true }
def EnvironAlongUptoSaid : Prop := environAlongUptoRow.holds Tryd.pinned (OpenSpec.upto environAlongSpec)

/-- 'dataflowlaw34.EnvironAbove', WHERE WHAT IT READS IS OF BULK AT MOST 1048576: true; the input reads as it did. -/
def environAboveUptoRow : OpenClaim := { program := "ytmjebjjhfoncfaadoor", sum := "f048879ff68885e8c98268ffe196db081e96fb48126ae020c9b1c6df29aade81", func := "dataflow/dataflowlaw34.EnvironAbove", spec := "environAbove", unfollowed := true, recurses := true, named := ["dataflow/ide.shift"], plainKeys := false, apart := false, laid := [("dataflow/ide.shift", laid_dataflow_ide_shift)], narrowed := true }
def EnvironAboveUptoSaid : Prop := environAboveUptoRow.holds Tryd.pinned (OpenSpec.upto environAboveSpec)

/-- 'dataflowlaw34.EnvironSteps', WHERE WHAT IT READS IS OF BULK AT MOST 1048576: true; the input reads as it did. -/
def environStepsUptoRow : OpenClaim := { program := "ytmjebjjhfoncfaadoor", sum := "f048879ff68885e8c98268ffe196db081e96fb48126ae020c9b1c6df29aade81", func := "dataflow/dataflowlaw34.EnvironSteps", spec := "environSteps", unfollowed := true, recurses := true, named := ["dataflow/ide.shift"], plainKeys := false, apart := false, laid := [("dataflow/ide.shift", laid_dataflow_ide_shift)], narrowed := true }
def EnvironStepsUptoSaid : Prop := environStepsUptoRow.holds Tryd.pinned (OpenSpec.upto environStepsSpec)

/-- 'dataflowlaw34.EnvironMeet', WHERE WHAT IT READS IS OF BULK AT MOST 1048576: true; the input reads as it did. -/
def environMeetUptoRow : OpenClaim := { program := "ytmjebjjhfoncfaadoor", sum := "f048879ff68885e8c98268ffe196db081e96fb48126ae020c9b1c6df29aade81", func := "dataflow/dataflowlaw34.EnvironMeet", spec := "environMeet", unfollowed := true, recurses := true, named := ["dataflow/ide.shift"], plainKeys := false, apart := false, laid := [("dataflow/ide.shift", laid_dataflow_ide_shift)], narrowed := true }
def EnvironMeetUptoSaid : Prop := environMeetUptoRow.holds Tryd.pinned (OpenSpec.upto environMeetSpec)

/-- 'dataflowlaw33.IdeCheck', WHERE WHAT IT READS IS OF BULK AT MOST 1048576: true; the input reads as it did. -/
def ideCheckUptoRow : OpenClaim := { program := "ytmjebjjhfoncfaadoor", sum := "f048879ff68885e8c98268ffe196db081e96fb48126ae020c9b1c6df29aade81", func := "dataflow/dataflowlaw33.IdeCheck", spec := "ideCheck", inPlace := ["slices.overlaps[int]"], unfollowed := true, recurses := true, named := ["dataflow/ide.shift"], plainKeys := false, apart := false, laid := [("dataflow/ide.shift", laid_dataflow_ide_shift)], narrowed := true }
def IdeCheckUptoSaid : Prop := ideCheckUptoRow.holds Tryd.pinned (OpenSpec.upto ideCheckSpec)

end Rows
end Go.Proofs.YtmjebjjhfoncfaaDoor
