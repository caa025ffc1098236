/-
  NARROWER THAN 'FOR EVERY INPUT', by the rows' own cells (each row's printed sentence says how): IdeMeet: laid · IdeReaches: laid · IdeJumps: laid · EnvironUp: laid · EnvironFalls: laid.
  DERIVED. THE GIVEN ROWS OF THIS SEAT. 5 by the template 'for every input the law returns true; each argument reads behind the call as it read before'; 0 by the template 'total and deterministic' (their statements: YtincpmdldpakkaaGreatDoorTotals.lean).
  GIVEN WITH THE SEED: the statements are not yours to turn. If you find one false, say at which input.
  Laid BY PROGRAM, IN A SANDBOX (cutbox-rows.mjs): the forced cells as the released guide's own fill.sh prints them over the translation efc08b8f301c676f… (all of the seat's roots in one cut). By AI agents, Wed Nov 11 2026. No macro, syntax, notation, axiom, sorry.
-/
import Derived.Test.YtincpmdldpakkaaGreatDoorChecked
import GoSem.Claim
import GoSem.ClaimJoined
import GoSem.ClaimMapViews
import Derived.JoinedTies
import Derived.KernelRfl
namespace Go.Proofs.YtincpmdldpakkaaGreatDoor
/- THE CELL 'sum', in the pinned program and in every row, IS THE sha256 OF THE DUMP (.gsa) THAT YtincpmdldpakkaaGreatDoorProg.lean LOADS. Nothing in Lean hashes anything: it is a label: what it is worth is what the hold of that sum in a sandbox is worth. -/
noncomputable def Tryz.pinned : Pinned := { name := "ytincpmdldpakkaagreatdoor", sum := "efc08b8f301c676fb18553c87f080c7c6cbfc02db1975f9586140937ea6ad43e", checked := Tryz.checked }
namespace Rows
def none {H : Type} : Left H := { results := [], args := [] }

/- WHAT THE LISTED PACKAGE-LEVEL VARIABLES READ AS WHEN THE CALL BEGINS. Each datum BY PROGRAM (the guide's laid-datum.mjs) off the statement by which the dump's own 'gosem.cut.vars' lays the variable. In a bare row this is a premise. The card (YtincpmdldpakkaaGreatDoorCards.lean) ties it to the program's text. -/
def laid_dataflow_ide_shift {H : Type} : DataW H := .agg [.lit (.int .i64 2), .lit (.int .i64 0), .lit (.int .i64 0)]

/-- 'dataflowlaw33.IdeMeet': WHATEVER THE INPUT: true; the input reads as it did. -/
def ideMeetSpec : ChangeSpec := { name := "ideMeet", fn := fun _ => fun
  | [d1, d2] => { results := [.lit (.bool true)], args := [d1, d2] }
  | _ => none }
def ideMeetRow : OpenClaim := { program := "ytincpmdldpakkaagreatdoor", sum := "efc08b8f301c676fb18553c87f080c7c6cbfc02db1975f9586140937ea6ad43e", func := "dataflow/dataflowlaw33.IdeMeet", spec := "ideMeet", inPlace := ["slices.overlaps[int]"], unfollowed := true, recurses := true, named := ["dataflow/ide.shift"], plainKeys := false, apart := false, laid := [("dataflow/ide.shift", laid_dataflow_ide_shift)] }
def IdeMeetSaid : Prop := ideMeetRow.holds Tryz.pinned (OpenSpec.ofChange ideMeetSpec)

/-- ITS FALSE NEIGHBOUR: 'it returns false'. Refute it at one input. -/
def ideMeetWrong : ChangeSpec := { name := "ideMeet", fn := fun _ => fun
  | [d1, d2] => { results := [.lit (.bool false)], args := [d1, d2] }
  | _ => none }
def IdeMeetWrongFalsely : Prop := ideMeetRow.holds Tryz.pinned (OpenSpec.ofChange ideMeetWrong)

/-- 'dataflowlaw33.IdeReaches': WHATEVER THE INPUT: true; the input reads as it did. -/
def ideReachesSpec : ChangeSpec := { name := "ideReaches", fn := fun _ => fun
  | [d] => { results := [.lit (.bool true)], args := [d] }
  | _ => none }
def ideReachesRow : OpenClaim := { program := "ytincpmdldpakkaagreatdoor", sum := "efc08b8f301c676fb18553c87f080c7c6cbfc02db1975f9586140937ea6ad43e", func := "dataflow/dataflowlaw33.IdeReaches", spec := "ideReaches", inPlace := ["slices.overlaps[int]"], unfollowed := true, recurses := true, named := ["dataflow/ide.shift"], plainKeys := false, apart := false, laid := [("dataflow/ide.shift", laid_dataflow_ide_shift)] }
def IdeReachesSaid : Prop := ideReachesRow.holds Tryz.pinned (OpenSpec.ofChange ideReachesSpec)

/-- ITS FALSE NEIGHBOUR: 'it returns false'. Refute it at one input. -/
def ideReachesWrong : ChangeSpec := { name := "ideReaches", fn := fun _ => fun
  | [d] => { results := [.lit (.bool false)], args := [d] }
  | _ => none }
def IdeReachesWrongFalsely : Prop := ideReachesRow.holds Tryz.pinned (OpenSpec.ofChange ideReachesWrong)

/-- 'dataflowlaw33.IdeJumps': WHATEVER THE INPUT: true; the input reads as it did. -/
def ideJumpsSpec : ChangeSpec := { name := "ideJumps", fn := fun _ => fun
  | [d] => { results := [.lit (.bool true)], args := [d] }
  | _ => none }
def ideJumpsRow : OpenClaim := { program := "ytincpmdldpakkaagreatdoor", sum := "efc08b8f301c676fb18553c87f080c7c6cbfc02db1975f9586140937ea6ad43e", func := "dataflow/dataflowlaw33.IdeJumps", spec := "ideJumps", inPlace := ["slices.overlaps[int]"], unfollowed := true, recurses := true, named := ["dataflow/ide.shift"], plainKeys := false, apart := false, laid := [("dataflow/ide.shift", laid_dataflow_ide_shift)] }
def IdeJumpsSaid : Prop := ideJumpsRow.holds Tryz.pinned (OpenSpec.ofChange ideJumpsSpec)

/-- ITS FALSE NEIGHBOUR: 'it returns false'. Refute it at one input. -/
def ideJumpsWrong : ChangeSpec := { name := "ideJumps", fn := fun _ => fun
  | [d] => { results := [.lit (.bool false)], args := [d] }
  | _ => none }
def IdeJumpsWrongFalsely : Prop := ideJumpsRow.holds Tryz.pinned (OpenSpec.ofChange ideJumpsWrong)

/-- 'dataflowlaw34.EnvironUp': WHATEVER THE INPUT: true; the input reads as it did. -/
def environUpSpec : ChangeSpec := { name := "environUp", fn := fun _ => fun
  | [d1, d2] => { results := [.lit (.bool true)], args := [d1, d2] }
  | _ => none }
def environUpRow : OpenClaim := { program := "ytincpmdldpakkaagreatdoor", sum := "efc08b8f301c676fb18553c87f080c7c6cbfc02db1975f9586140937ea6ad43e", func := "dataflow/dataflowlaw34.EnvironUp", spec := "environUp", unfollowed := true, recurses := true, named := ["dataflow/ide.shift"], plainKeys := false, apart := false, laid := [("dataflow/ide.shift", laid_dataflow_ide_shift)] }
def EnvironUpSaid : Prop := environUpRow.holds Tryz.pinned (OpenSpec.ofChange environUpSpec)

/-- ITS FALSE NEIGHBOUR: 'it returns false'. Refute it at one input. -/
def environUpWrong : ChangeSpec := { name := "environUp", fn := fun _ => fun
  | [d1, d2] => { results := [.lit (.bool false)], args := [d1, d2] }
  | _ => none }
def EnvironUpWrongFalsely : Prop := environUpRow.holds Tryz.pinned (OpenSpec.ofChange environUpWrong)

/-- 'dataflowlaw34.EnvironFalls': WHATEVER THE INPUT: true; the input reads as it did. -/
def environFallsSpec : ChangeSpec := { name := "environFalls", fn := fun _ => fun
  | [d1, d2] => { results := [.lit (.bool true)], args := [d1, d2] }
  | _ => none }
def environFallsRow : OpenClaim := { program := "ytincpmdldpakkaagreatdoor", sum := "efc08b8f301c676fb18553c87f080c7c6cbfc02db1975f9586140937ea6ad43e", func := "dataflow/dataflowlaw34.EnvironFalls", spec := "environFalls", unfollowed := true, recurses := true, named := ["dataflow/ide.shift"], plainKeys := false, apart := false, laid := [("dataflow/ide.shift", laid_dataflow_ide_shift)] }
def EnvironFallsSaid : Prop := environFallsRow.holds Tryz.pinned (OpenSpec.ofChange environFallsSpec)

/-- ITS FALSE NEIGHBOUR: 'it returns false'. Refute it at one input. -/
def environFallsWrong : ChangeSpec := { name := "environFalls", fn := fun _ => fun
  | [d1, d2] => { results := [.lit (.bool false)], args := [d1, d2] }
  | _ => none }
def EnvironFallsWrongFalsely : Prop := environFallsRow.holds Tryz.pinned (OpenSpec.ofChange environFallsWrong)

/- THE SECOND FORM. 'bulk': how many values and letters a reading holds, each counted each time it is reached (what is shared counts as often as it is met; a slice's spare places count too). A statement '..UptoSaid' is the law's where the arguments, and the package variables that the reading takes, are together of bulk at most 1048576: NARROWER than '..Said'. Prove '..Said' where nothing that the law and all that it calls make is longer than what came in: it says more and counts as full. Else prove '..UptoSaid'. A law counts once. -/
mutual
def uptoBulk {H : Type} : DataW H → Nat
  | .lit (.string bytes) => bytes.length + 1
  | .lit _ => 1
  | .nil => 1
  | .ptr d => uptoBulk d + 1
  | .slice elems spare => uptoBulkAll elems + uptoBulkAll spare + 1
  | .agg parts => uptoBulkAll parts + 1
  | .iface _ d => uptoBulk d + 1
  | .map entries => uptoBulkEntries entries + 1
  | .held _ => 1
def uptoBulkAll {H : Type} : List (DataW H) → Nat
  | [] => 0
  | d :: r => uptoBulk d + uptoBulkAll r
def uptoBulkEntries {H : Type} : List (Lit × DataW H) → Nat
  | [] => 0
  | x :: r => uptoBulkEntry x + uptoBulkEntries r
def uptoBulkEntry {H : Type} : Lit × DataW H → Nat
  | (.string bytes, d) => bytes.length + uptoBulk d + 1
  | (_, d) => uptoBulk d + 1
 end
def uptoSmall : (H : Type) → List (DataW H) → Bool := fun _ ds => decide (uptoBulkAll ds ≤ 1048576)
def OpenSpec.upto (s : _root_.Go.ChangeSpec) : _root_.Go.OpenSpec := { _root_.Go.OpenSpec.ofChange s with cond := some uptoSmall }

/-- 'dataflowlaw33.IdeMeet', WHERE WHAT IT READS IS OF BULK AT MOST 1048576: true; the input reads as it did. -/
def ideMeetUptoRow : OpenClaim := { program := "ytincpmdldpakkaagreatdoor", sum := "efc08b8f301c676fb18553c87f080c7c6cbfc02db1975f9586140937ea6ad43e", func := "dataflow/dataflowlaw33.IdeMeet", spec := "ideMeet", inPlace := ["slices.overlaps[int]"], unfollowed := true, recurses := true, named := ["dataflow/ide.shift"], plainKeys := false, apart := false, laid := [("dataflow/ide.shift", laid_dataflow_ide_shift)], narrowed := true }
def IdeMeetUptoSaid : Prop := ideMeetUptoRow.holds Tryz.pinned (OpenSpec.upto ideMeetSpec)

/-- 'dataflowlaw33.IdeReaches', WHERE WHAT IT READS IS OF BULK AT MOST 1048576: true; the input reads as it did. -/
def ideReachesUptoRow : OpenClaim := { program := "ytincpmdldpakkaagreatdoor", sum := "efc08b8f301c676fb18553c87f080c7c6cbfc02db1975f9586140937ea6ad43e", func := "dataflow/dataflowlaw33.IdeReaches", spec := "ideReaches", inPlace := ["slices.overlaps[int]"], unfollowed := true, recurses := true, named := ["dataflow/ide.shift"], plainKeys := false, apart := false, laid := [("dataflow/ide.shift", laid_dataflow_ide_shift)], narrowed := true }
def IdeReachesUptoSaid : Prop := ideReachesUptoRow.holds Tryz.pinned (OpenSpec.upto ideReachesSpec)

/-- 'dataflowlaw33.IdeJumps', WHERE WHAT IT READS IS OF BULK AT MOST 1048576: true; the input reads as it did. -/
def ideJumpsUptoRow : OpenClaim := { program := "ytincpmdldpakkaagreatdoor", sum := "efc08b8f301c676fb18553c87f080c7c6cbfc02db1975f9586140937ea6ad43e", func := "dataflow/dataflowlaw33.IdeJumps", spec := "ideJumps", inPlace := ["slices.overlaps[int]"], unfollowed := true, recurses := true, named := ["dataflow/ide.shift"], plainKeys := false, apart := false, laid := [("dataflow/ide.shift", laid_dataflow_ide_shift)], narrowed := true }
def IdeJumpsUptoSaid : Prop := ideJumpsUptoRow.holds Tryz.pinned (OpenSpec.upto ideJumpsSpec)

/-- 'dataflowlaw34.EnvironUp', WHERE WHAT IT READS IS OF BULK AT MOST 1048576: true; the input reads as it did. -/
def environUpUptoRow : OpenClaim := { program := "ytincpmdldpakkaagreatdoor", sum := "efc08b8f301c676fb18553c87f080c7c6cbfc02db1975f9586140937ea6ad43e", func := "dataflow/dataflowlaw34.EnvironUp", spec := "environUp", unfollowed := true, recurses := true, named := ["dataflow/ide.shift"], plainKeys := false, apart := false, laid := [("dataflow/ide.shift", laid_dataflow_ide_shift)], narrowed := true }
def EnvironUpUptoSaid : Prop := environUpUptoRow.holds Tryz.pinned (OpenSpec.upto environUpSpec)

/-- 'dataflowlaw34.EnvironFalls', WHERE WHAT IT READS IS OF BULK AT MOST 1048576: true; the input reads as it did. -/
def environFallsUptoRow : OpenClaim := { program := "ytincpmdldpakkaagreatdoor", sum := "efc08b8f301c676fb18553c87f080c7c6cbfc02db1975f9586140937ea6ad43e", func := "dataflow/dataflowlaw34.EnvironFalls", spec := "environFalls", unfollowed := true, recurses := true, named := ["dataflow/ide.shift"], plainKeys := false, apart := false, laid := [("dataflow/ide.shift", laid_dataflow_ide_shift)], narrowed := true }
def EnvironFallsUptoSaid : Prop := environFallsUptoRow.holds Tryz.pinned (OpenSpec.upto environFallsSpec)

end Rows
end Go.Proofs.YtincpmdldpakkaaGreatDoor
