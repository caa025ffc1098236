/-
  No cell of these rows narrows 'for every input' (looked for: loops, veiled, ifaces, maps, wideKeys, modest, calm, conditions, laid).
  DERIVED. THE GIVEN ROWS OF THIS SEAT. 4 by the template 'for every input the law returns true; each argument reads behind the call as it read before'; 0 by the template 'total and deterministic' (their statements: YtmbihjlflcjlnaaGreatTotals.lean).
  GIVEN WITH THE SEED: the statements are not yours to turn. If you find one false, say at which input.
  Laid BY PROGRAM, IN A SANDBOX (cutbox-rows.mjs): the forced cells as the released guide's own fill.sh prints them over the translation 744af707bd5612d7… (all of the seat's roots in one cut). By AI agents, Wed Nov 11 2026. No macro, syntax, notation, axiom, sorry.
-/
import Derived.Test.YtmbihjlflcjlnaaGreatChecked
import GoSem.Claim
import GoSem.ClaimJoined
import GoSem.ClaimMapViews
import Derived.JoinedTies
import Derived.KernelRfl
namespace Go.Proofs.YtmbihjlflcjlnaaGreat
/- THE CELL 'sum', in the pinned program and in every row, IS THE sha256 OF THE DUMP (.gsa) THAT YtmbihjlflcjlnaaGreatProg.lean LOADS. Nothing in Lean hashes anything: it is a label: what it is worth is what the hold of that sum in a sandbox is worth. -/
noncomputable def Tryz.pinned : Pinned := { name := "ytmbihjlflcjlnaagreat", sum := "744af707bd5612d730a93d856cca34866514786631136fd58eb6935d9e90844c", checked := Tryz.checked }
namespace Rows
def none {H : Type} : Left H := { results := [], args := [] }

/-- 'dataflowlaw30.IfdsPaths': WHATEVER THE INPUT: true; the input reads as it did. -/
def ifdsPathsSpec : ChangeSpec := { name := "ifdsPaths", fn := fun _ => fun
  | [d] => { results := [.lit (.bool true)], args := [d] }
  | _ => none }
def ifdsPathsRow : OpenClaim := { program := "ytmbihjlflcjlnaagreat", sum := "744af707bd5612d730a93d856cca34866514786631136fd58eb6935d9e90844c", func := "dataflow/dataflowlaw30.IfdsPaths", spec := "ifdsPaths", inPlace := ["slices.overlaps[int]"], unfollowed := true, recurses := true, plainKeys := false, apart := false }
def IfdsPathsSaid : Prop := ifdsPathsRow.holds Tryz.pinned (OpenSpec.ofChange ifdsPathsSpec)

/-- ITS FALSE NEIGHBOUR: 'it returns false'. Refute it at one input. -/
def ifdsPathsWrong : ChangeSpec := { name := "ifdsPaths", fn := fun _ => fun
  | [d] => { results := [.lit (.bool false)], args := [d] }
  | _ => none }
def IfdsPathsWrongFalsely : Prop := ifdsPathsRow.holds Tryz.pinned (OpenSpec.ofChange ifdsPathsWrong)

/-- 'dataflowlaw30.IfdsSummaries': WHATEVER THE INPUT: true; the input reads as it did. -/
def ifdsSummariesSpec : ChangeSpec := { name := "ifdsSummaries", fn := fun _ => fun
  | [d] => { results := [.lit (.bool true)], args := [d] }
  | _ => none }
def ifdsSummariesRow : OpenClaim := { program := "ytmbihjlflcjlnaagreat", sum := "744af707bd5612d730a93d856cca34866514786631136fd58eb6935d9e90844c", func := "dataflow/dataflowlaw30.IfdsSummaries", spec := "ifdsSummaries", inPlace := ["slices.overlaps[int]"], unfollowed := true, recurses := true, plainKeys := false, apart := false }
def IfdsSummariesSaid : Prop := ifdsSummariesRow.holds Tryz.pinned (OpenSpec.ofChange ifdsSummariesSpec)

/-- ITS FALSE NEIGHBOUR: 'it returns false'. Refute it at one input. -/
def ifdsSummariesWrong : ChangeSpec := { name := "ifdsSummaries", fn := fun _ => fun
  | [d] => { results := [.lit (.bool false)], args := [d] }
  | _ => none }
def IfdsSummariesWrongFalsely : Prop := ifdsSummariesRow.holds Tryz.pinned (OpenSpec.ofChange ifdsSummariesWrong)

/-- 'dataflowlaw31.ExplodedUp': WHATEVER THE INPUT: true; the input reads as it did. -/
def explodedUpSpec : ChangeSpec := { name := "explodedUp", fn := fun _ => fun
  | [d1, d2] => { results := [.lit (.bool true)], args := [d1, d2] }
  | _ => none }
def explodedUpRow : OpenClaim := { program := "ytmbihjlflcjlnaagreat", sum := "744af707bd5612d730a93d856cca34866514786631136fd58eb6935d9e90844c", func := "dataflow/dataflowlaw31.ExplodedUp", spec := "explodedUp", inPlace := ["maps.clone"], unfollowed := true, recurses := true, plainKeys := false, apart := false }
def ExplodedUpSaid : Prop := explodedUpRow.holds Tryz.pinned (OpenSpec.ofChange explodedUpSpec)

/-- ITS FALSE NEIGHBOUR: 'it returns false'. Refute it at one input. -/
def explodedUpWrong : ChangeSpec := { name := "explodedUp", fn := fun _ => fun
  | [d1, d2] => { results := [.lit (.bool false)], args := [d1, d2] }
  | _ => none }
def ExplodedUpWrongFalsely : Prop := explodedUpRow.holds Tryz.pinned (OpenSpec.ofChange explodedUpWrong)

/-- 'dataflowlaw31.ExplodedRises': WHATEVER THE INPUT: true; the input reads as it did. -/
def explodedRisesSpec : ChangeSpec := { name := "explodedRises", fn := fun _ => fun
  | [d1, d2] => { results := [.lit (.bool true)], args := [d1, d2] }
  | _ => none }
def explodedRisesRow : OpenClaim := { program := "ytmbihjlflcjlnaagreat", sum := "744af707bd5612d730a93d856cca34866514786631136fd58eb6935d9e90844c", func := "dataflow/dataflowlaw31.ExplodedRises", spec := "explodedRises", inPlace := ["maps.clone"], unfollowed := true, recurses := true, plainKeys := false, apart := false }
def ExplodedRisesSaid : Prop := explodedRisesRow.holds Tryz.pinned (OpenSpec.ofChange explodedRisesSpec)

/-- ITS FALSE NEIGHBOUR: 'it returns false'. Refute it at one input. -/
def explodedRisesWrong : ChangeSpec := { name := "explodedRises", fn := fun _ => fun
  | [d1, d2] => { results := [.lit (.bool false)], args := [d1, d2] }
  | _ => none }
def ExplodedRisesWrongFalsely : Prop := explodedRisesRow.holds Tryz.pinned (OpenSpec.ofChange explodedRisesWrong)

/- THE SECOND FORM. 'bulk': how many values and letters a reading holds, each counted each time it is reached (what is shared counts as often as it is met; a slice's spare places count too). A statement '..UptoSaid' is the law's where the arguments, and the package variables that the reading takes, are together of bulk at most 1048576: NARROWER than '..Said'. Prove '..Said' where nothing that the law and all that it calls make is longer than what came in: it says more and counts as full. Else prove '..UptoSaid'. A law counts once. -/
mutual
def uptoBulk {H : Type} : DataW H → Nat
  | .lit (.string bytes) => bytes.length + 1
  | .lit _ => 1
  | .nil => 1
  | .ptr d => uptoBulk d + 1
  | .slice elems spare => uptoBulkAll elems + uptoBulkAll spare + 1
  | .agg parts => uptoBulkAll parts + 1
  | .iface _ d => uptoBulk d + 1
  | .map entries => uptoBulkEntries entries + 1
  | .held _ => 1
def uptoBulkAll {H : Type} : List (DataW H) → Nat
  | [] => 0
  | d :: r => uptoBulk d + uptoBulkAll r
def uptoBulkEntries {H : Type} : List (Lit × DataW H) → Nat
  | [] => 0
  | x :: r => uptoBulkEntry x + uptoBulkEntries r
def uptoBulkEntry {H : Type} : Lit × DataW H → Nat
  | (.string bytes, d) => bytes.length + uptoBulk d + 1
  | (_, d) => uptoBulk d + 1
 end
def uptoSmall : (H : Type) → List (DataW H) → Bool := fun _ ds => decide (uptoBulkAll ds ≤ 1048576)
def OpenSpec.upto (s : _root_.Go.ChangeSpec) : _root_.Go.OpenSpec := { _root_.Go.OpenSpec.ofChange s with cond := some uptoSmall }

/-- 'dataflowlaw30.IfdsPaths', WHERE WHAT IT READS IS OF BULK AT MOST 1048576: true; the input reads as it did. -/
def ifdsPathsUptoRow : OpenClaim := { program := "ytmbihjlflcjlnaagreat", sum := "744af707bd5612d730a93d856cca34866514786631136fd58eb6935d9e90844c", func := "dataflow/dataflowlaw30.IfdsPaths", spec := "ifdsPaths", inPlace := ["slices.overlaps[int]"], unfollowed := true, recurses := true, plainKeys := false, apart := false, narrowed := true }
def IfdsPathsUptoSaid : Prop := ifdsPathsUptoRow.holds Tryz.pinned (OpenSpec.upto ifdsPathsSpec)

/-- 'dataflowlaw30.IfdsSummaries', WHERE WHAT IT READS IS OF BULK AT MOST 1048576: true; the input reads as it did. -/
def ifdsSummariesUptoRow : OpenClaim := { program := "ytmbihjlflcjlnaagreat", sum := "744af707bd5612d730a93d856cca34866514786631136fd58eb6935d9e90844c", func := "dataflow/dataflowlaw30.IfdsSummaries", spec := "ifdsSummaries", inPlace := ["slices.overlaps[int]"], unfollowed := true, recurses := true, plainKeys := false, apart := false, narrowed := true }
def IfdsSummariesUptoSaid : Prop := ifdsSummariesUptoRow.holds Tryz.pinned (OpenSpec.upto ifdsSummariesSpec)

/-- 'dataflowlaw31.ExplodedUp', WHERE WHAT IT READS IS OF BULK AT MOST 1048576: true; the input reads as it did. -/
def explodedUpUptoRow : OpenClaim := { program := "ytmbihjlflcjlnaagreat", sum := "744af707bd5612d730a93d856cca34866514786631136fd58eb6935d9e90844c", func := "dataflow/dataflowlaw31.ExplodedUp", spec := "explodedUp", inPlace := ["maps.clone"], unfollowed := true, recurses := true, plainKeys := false, apart := false, narrowed := true }
def ExplodedUpUptoSaid : Prop := explodedUpUptoRow.holds Tryz.pinned (OpenSpec.upto explodedUpSpec)

/-- 'dataflowlaw31.ExplodedRises', WHERE WHAT IT READS IS OF BULK AT MOST 1048576: true; the input reads as it did. -/
def explodedRisesUptoRow : OpenClaim := { program := "ytmbihjlflcjlnaagreat", sum := "744af707bd5612d730a93d856cca34866514786631136fd58eb6935d9e90844c", func := "dataflow/dataflowlaw31.ExplodedRises", spec := "explodedRises", inPlace := ["maps.clone"], unfollowed := true, recurses := true, plainKeys := false, apart := false, narrowed := true }
def ExplodedRisesUptoSaid : Prop := explodedRisesUptoRow.holds Tryz.pinned (OpenSpec.upto explodedRisesSpec)

end Rows
end Go.Proofs.YtmbihjlflcjlnaaGreat
