/-
  No cell of these rows narrows 'for every input' (looked for: loops, veiled, ifaces, maps, wideKeys, modest, calm, conditions, laid).
  DERIVED. THE GIVEN ROWS OF THIS SEAT. 11 by the template 'for every input the law returns true; each argument reads behind the call as it read before'; 0 by the template 'total and deterministic' (their statements: YtffkikhknabddaaTotals.lean).
  GIVEN WITH THE SEED: the statements are not yours to turn. If you find one false, say at which input.
  Laid BY PROGRAM, IN A SANDBOX (cutbox-rows.mjs): the forced cells as the released guide's own fill.sh prints them over the translation dd8bb2b8ef4d2b7f… (all of the seat's roots in one cut). By AI agents, Wed Nov 11 2026. No macro, syntax, notation, axiom, sorry.
-/
import Derived.Test.YtffkikhknabddaaChecked
import GoSem.Claim
import GoSem.ClaimJoined
import GoSem.ClaimMapViews
import Derived.JoinedTies
import Derived.KernelRfl
namespace Go.Proofs.Ytffkikhknabddaa
/- THE CELL 'sum', in the pinned program and in every row, IS THE sha256 OF THE DUMP (.gsa) THAT YtffkikhknabddaaProg.lean LOADS. Nothing in Lean hashes anything: it is a label: what it is worth is what the hold of that sum in a sandbox is worth. -/
noncomputable def Try.pinned : Pinned := { name := "ytffkikhknabddaa", sum := "dd8bb2b8ef4d2b7f077f6d0a2e37e0ea32f1784635f9051e344623e081c94241", checked := Try.checked }
namespace Rows
def none {H : Type} : Left H := { results := [], args := [] }

/-- 'dataflowlaw28.VpathReached': WHATEVER THE INPUT: true; the input reads as it did. -/
def vpathReachedSpec : ChangeSpec := { name := "vpathReached", fn := fun _ => fun
  | [d1, d2] => { results := [.lit (.bool true)], args := [d1, d2] }
  | _ => none }
def vpathReachedRow : OpenClaim := { program := "ytffkikhknabddaa", sum := "dd8bb2b8ef4d2b7f077f6d0a2e37e0ea32f1784635f9051e344623e081c94241", func := "dataflow/dataflowlaw28.VpathReached", spec := "vpathReached", unfollowed := true, recurses := true, plainKeys := false, apart := false }
def VpathReachedSaid : Prop := vpathReachedRow.holds Try.pinned (OpenSpec.ofChange vpathReachedSpec)

/-- ITS FALSE NEIGHBOUR: 'it returns false'. Refute it at one input. -/
def vpathReachedWrong : ChangeSpec := { name := "vpathReached", fn := fun _ => fun
  | [d1, d2] => { results := [.lit (.bool false)], args := [d1, d2] }
  | _ => none }
def VpathReachedWrongFalsely : Prop := vpathReachedRow.holds Try.pinned (OpenSpec.ofChange vpathReachedWrong)

/-- 'dataflowlaw28.VpathGoesOn': WHATEVER THE INPUT: true; the input reads as it did. -/
def vpathGoesOnSpec : ChangeSpec := { name := "vpathGoesOn", fn := fun _ => fun
  | [d1, d2, d3] => { results := [.lit (.bool true)], args := [d1, d2, d3] }
  | _ => none }
def vpathGoesOnRow : OpenClaim := { program := "ytffkikhknabddaa", sum := "dd8bb2b8ef4d2b7f077f6d0a2e37e0ea32f1784635f9051e344623e081c94241", func := "dataflow/dataflowlaw28.VpathGoesOn", spec := "vpathGoesOn", unfollowed := true, recurses := true, plainKeys := false, apart := false }
def VpathGoesOnSaid : Prop := vpathGoesOnRow.holds Try.pinned (OpenSpec.ofChange vpathGoesOnSpec)

/-- ITS FALSE NEIGHBOUR: 'it returns false'. Refute it at one input. -/
def vpathGoesOnWrong : ChangeSpec := { name := "vpathGoesOn", fn := fun _ => fun
  | [d1, d2, d3] => { results := [.lit (.bool false)], args := [d1, d2, d3] }
  | _ => none }
def VpathGoesOnWrongFalsely : Prop := vpathGoesOnRow.holds Try.pinned (OpenSpec.ofChange vpathGoesOnWrong)

/-- 'dataflowlaw30.IfdsCheck': WHATEVER THE INPUT: true; the input reads as it did. -/
def ifdsCheckSpec : ChangeSpec := { name := "ifdsCheck", fn := fun _ => fun
  | [d] => { results := [.lit (.bool true)], args := [d] }
  | _ => none }
def ifdsCheckRow : OpenClaim := { program := "ytffkikhknabddaa", sum := "dd8bb2b8ef4d2b7f077f6d0a2e37e0ea32f1784635f9051e344623e081c94241", func := "dataflow/dataflowlaw30.IfdsCheck", spec := "ifdsCheck", inPlace := ["slices.overlaps[int]"], unfollowed := true, recurses := true, plainKeys := false, apart := false }
def IfdsCheckSaid : Prop := ifdsCheckRow.holds Try.pinned (OpenSpec.ofChange ifdsCheckSpec)

/-- ITS FALSE NEIGHBOUR: 'it returns false'. Refute it at one input. -/
def ifdsCheckWrong : ChangeSpec := { name := "ifdsCheck", fn := fun _ => fun
  | [d] => { results := [.lit (.bool false)], args := [d] }
  | _ => none }
def IfdsCheckWrongFalsely : Prop := ifdsCheckRow.holds Try.pinned (OpenSpec.ofChange ifdsCheckWrong)

/-- 'dataflowlaw30.IfdsSolve': WHATEVER THE INPUT: true; the input reads as it did. -/
def ifdsSolveSpec : ChangeSpec := { name := "ifdsSolve", fn := fun _ => fun
  | [d] => { results := [.lit (.bool true)], args := [d] }
  | _ => none }
def ifdsSolveRow : OpenClaim := { program := "ytffkikhknabddaa", sum := "dd8bb2b8ef4d2b7f077f6d0a2e37e0ea32f1784635f9051e344623e081c94241", func := "dataflow/dataflowlaw30.IfdsSolve", spec := "ifdsSolve", inPlace := ["slices.overlaps[int]"], unfollowed := true, recurses := true, plainKeys := false, apart := false }
def IfdsSolveSaid : Prop := ifdsSolveRow.holds Try.pinned (OpenSpec.ofChange ifdsSolveSpec)

/-- ITS FALSE NEIGHBOUR: 'it returns false'. Refute it at one input. -/
def ifdsSolveWrong : ChangeSpec := { name := "ifdsSolve", fn := fun _ => fun
  | [d] => { results := [.lit (.bool false)], args := [d] }
  | _ => none }
def IfdsSolveWrongFalsely : Prop := ifdsSolveRow.holds Try.pinned (OpenSpec.ofChange ifdsSolveWrong)

/-- 'dataflowlaw30.IfdsHolds': WHATEVER THE INPUT: true; the input reads as it did. -/
def ifdsHoldsSpec : ChangeSpec := { name := "ifdsHolds", fn := fun _ => fun
  | [d1, d2, d3] => { results := [.lit (.bool true)], args := [d1, d2, d3] }
  | _ => none }
def ifdsHoldsRow : OpenClaim := { program := "ytffkikhknabddaa", sum := "dd8bb2b8ef4d2b7f077f6d0a2e37e0ea32f1784635f9051e344623e081c94241", func := "dataflow/dataflowlaw30.IfdsHolds", spec := "ifdsHolds", inPlace := ["slices.overlaps[int]"], unfollowed := true, recurses := true, plainKeys := false, apart := false }
def IfdsHoldsSaid : Prop := ifdsHoldsRow.holds Try.pinned (OpenSpec.ofChange ifdsHoldsSpec)

/-- ITS FALSE NEIGHBOUR: 'it returns false'. Refute it at one input. -/
def ifdsHoldsWrong : ChangeSpec := { name := "ifdsHolds", fn := fun _ => fun
  | [d1, d2, d3] => { results := [.lit (.bool false)], args := [d1, d2, d3] }
  | _ => none }
def IfdsHoldsWrongFalsely : Prop := ifdsHoldsRow.holds Try.pinned (OpenSpec.ofChange ifdsHoldsWrong)

/-- 'dataflowlaw30.IfdsMeet': WHATEVER THE INPUT: true; the input reads as it did. -/
def ifdsMeetSpec : ChangeSpec := { name := "ifdsMeet", fn := fun _ => fun
  | [d1, d2] => { results := [.lit (.bool true)], args := [d1, d2] }
  | _ => none }
def ifdsMeetRow : OpenClaim := { program := "ytffkikhknabddaa", sum := "dd8bb2b8ef4d2b7f077f6d0a2e37e0ea32f1784635f9051e344623e081c94241", func := "dataflow/dataflowlaw30.IfdsMeet", spec := "ifdsMeet", inPlace := ["slices.overlaps[int]"], unfollowed := true, recurses := true, plainKeys := false, apart := false }
def IfdsMeetSaid : Prop := ifdsMeetRow.holds Try.pinned (OpenSpec.ofChange ifdsMeetSpec)

/-- ITS FALSE NEIGHBOUR: 'it returns false'. Refute it at one input. -/
def ifdsMeetWrong : ChangeSpec := { name := "ifdsMeet", fn := fun _ => fun
  | [d1, d2] => { results := [.lit (.bool false)], args := [d1, d2] }
  | _ => none }
def IfdsMeetWrongFalsely : Prop := ifdsMeetRow.holds Try.pinned (OpenSpec.ofChange ifdsMeetWrong)

/-- 'dataflowlaw30.IfdsGrows': WHATEVER THE INPUT: true; the input reads as it did. -/
def ifdsGrowsSpec : ChangeSpec := { name := "ifdsGrows", fn := fun _ => fun
  | [d1, d2, d3] => { results := [.lit (.bool true)], args := [d1, d2, d3] }
  | _ => none }
def ifdsGrowsRow : OpenClaim := { program := "ytffkikhknabddaa", sum := "dd8bb2b8ef4d2b7f077f6d0a2e37e0ea32f1784635f9051e344623e081c94241", func := "dataflow/dataflowlaw30.IfdsGrows", spec := "ifdsGrows", inPlace := ["slices.overlaps[int]"], unfollowed := true, recurses := true, plainKeys := false, apart := false }
def IfdsGrowsSaid : Prop := ifdsGrowsRow.holds Try.pinned (OpenSpec.ofChange ifdsGrowsSpec)

/-- ITS FALSE NEIGHBOUR: 'it returns false'. Refute it at one input. -/
def ifdsGrowsWrong : ChangeSpec := { name := "ifdsGrows", fn := fun _ => fun
  | [d1, d2, d3] => { results := [.lit (.bool false)], args := [d1, d2, d3] }
  | _ => none }
def IfdsGrowsWrongFalsely : Prop := ifdsGrowsRow.holds Try.pinned (OpenSpec.ofChange ifdsGrowsWrong)

/-- 'dataflowlaw31.ExplodedAlong': WHATEVER THE INPUT: true; the input reads as it did. -/
def explodedAlongSpec : ChangeSpec := { name := "explodedAlong", fn := fun _ => fun
  | [d1, d2] => { results := [.lit (.bool true)], args := [d1, d2] }
  | _ => none }
def explodedAlongRow : OpenClaim := { program := "ytffkikhknabddaa", sum := "dd8bb2b8ef4d2b7f077f6d0a2e37e0ea32f1784635f9051e344623e081c94241", func := "dataflow/dataflowlaw31.ExplodedAlong", spec := "explodedAlong", unfollowed := true, recurses := true, plainKeys := false, apart := false }
def ExplodedAlongSaid : Prop := explodedAlongRow.holds Try.pinned (OpenSpec.ofChange explodedAlongSpec)

/-- ITS FALSE NEIGHBOUR: 'it returns false'. Refute it at one input. -/
def explodedAlongWrong : ChangeSpec := { name := "explodedAlong", fn := fun _ => fun
  | [d1, d2] => { results := [.lit (.bool false)], args := [d1, d2] }
  | _ => none }
def ExplodedAlongWrongFalsely : Prop := explodedAlongRow.holds Try.pinned (OpenSpec.ofChange explodedAlongWrong)

/-- 'dataflowlaw31.ExplodedCheck': WHATEVER THE INPUT: true; the input reads as it did. -/
def explodedCheckSpec : ChangeSpec := { name := "explodedCheck", fn := fun _ => fun
  | [d1, d2] => { results := [.lit (.bool true)], args := [d1, d2] }
  | _ => none }
def explodedCheckRow : OpenClaim := { program := "ytffkikhknabddaa", sum := "dd8bb2b8ef4d2b7f077f6d0a2e37e0ea32f1784635f9051e344623e081c94241", func := "dataflow/dataflowlaw31.ExplodedCheck", spec := "explodedCheck", unfollowed := true, recurses := true, plainKeys := false, apart := false }
def ExplodedCheckSaid : Prop := explodedCheckRow.holds Try.pinned (OpenSpec.ofChange explodedCheckSpec)

/-- ITS FALSE NEIGHBOUR: 'it returns false'. Refute it at one input. -/
def explodedCheckWrong : ChangeSpec := { name := "explodedCheck", fn := fun _ => fun
  | [d1, d2] => { results := [.lit (.bool false)], args := [d1, d2] }
  | _ => none }
def ExplodedCheckWrongFalsely : Prop := explodedCheckRow.holds Try.pinned (OpenSpec.ofChange explodedCheckWrong)

/-- 'dataflowlaw31.ExplodedMeet': WHATEVER THE INPUT: true; the input reads as it did. -/
def explodedMeetSpec : ChangeSpec := { name := "explodedMeet", fn := fun _ => fun
  | [d1, d2] => { results := [.lit (.bool true)], args := [d1, d2] }
  | _ => none }
def explodedMeetRow : OpenClaim := { program := "ytffkikhknabddaa", sum := "dd8bb2b8ef4d2b7f077f6d0a2e37e0ea32f1784635f9051e344623e081c94241", func := "dataflow/dataflowlaw31.ExplodedMeet", spec := "explodedMeet", unfollowed := true, recurses := true, plainKeys := false, apart := false }
def ExplodedMeetSaid : Prop := explodedMeetRow.holds Try.pinned (OpenSpec.ofChange explodedMeetSpec)

/-- ITS FALSE NEIGHBOUR: 'it returns false'. Refute it at one input. -/
def explodedMeetWrong : ChangeSpec := { name := "explodedMeet", fn := fun _ => fun
  | [d1, d2] => { results := [.lit (.bool false)], args := [d1, d2] }
  | _ => none }
def ExplodedMeetWrongFalsely : Prop := explodedMeetRow.holds Try.pinned (OpenSpec.ofChange explodedMeetWrong)

/-- 'dataflowlaw31.ExplodedWithin': WHATEVER THE INPUT: true; the input reads as it did. -/
def explodedWithinSpec : ChangeSpec := { name := "explodedWithin", fn := fun _ => fun
  | [d1, d2] => { results := [.lit (.bool true)], args := [d1, d2] }
  | _ => none }
def explodedWithinRow : OpenClaim := { program := "ytffkikhknabddaa", sum := "dd8bb2b8ef4d2b7f077f6d0a2e37e0ea32f1784635f9051e344623e081c94241", func := "dataflow/dataflowlaw31.ExplodedWithin", spec := "explodedWithin", unfollowed := true, recurses := true, plainKeys := false, apart := false }
def ExplodedWithinSaid : Prop := explodedWithinRow.holds Try.pinned (OpenSpec.ofChange explodedWithinSpec)

/-- ITS FALSE NEIGHBOUR: 'it returns false'. Refute it at one input. -/
def explodedWithinWrong : ChangeSpec := { name := "explodedWithin", fn := fun _ => fun
  | [d1, d2] => { results := [.lit (.bool false)], args := [d1, d2] }
  | _ => none }
def ExplodedWithinWrongFalsely : Prop := explodedWithinRow.holds Try.pinned (OpenSpec.ofChange explodedWithinWrong)

/- THE SECOND FORM. 'bulk': how many values and letters a reading holds, each counted each time it is reached (what is shared counts as often as it is met; a slice's spare places count too). A statement '..UptoSaid' is the law's where the arguments, and the package variables that the reading takes, are together of bulk at most 1048576: NARROWER than '..Said'. Prove '..Said' where nothing that the law and all that it calls make is longer than what came in: it says more and counts as full. Else prove '..UptoSaid'. A law counts once. -/
mutual
def uptoBulk {H : Type} : DataW H → Nat
  | .lit (.string bytes) => bytes.length + 1
  | .lit _ => 1
  | .nil => 1
  | .ptr d => uptoBulk d + 1
  | .slice elems spare => uptoBulkAll elems + uptoBulkAll spare + 1
  | .agg parts => uptoBulkAll parts + 1
  | .iface _ d => uptoBulk d + 1
  | .map entries => uptoBulkEntries entries + 1
  | .held _ => 1
def uptoBulkAll {H : Type} : List (DataW H) → Nat
  | [] => 0
  | d :: r => uptoBulk d + uptoBulkAll r
def uptoBulkEntries {H : Type} : List (Lit × DataW H) → Nat
  | [] => 0
  | x :: r => uptoBulkEntry x + uptoBulkEntries r
def uptoBulkEntry {H : Type} : Lit × DataW H → Nat
  | (.string bytes, d) => bytes.length + uptoBulk d + 1
  | (_, d) => uptoBulk d + 1
 end
def uptoSmall : (H : Type) → List (DataW H) → Bool := fun _ ds => decide (uptoBulkAll ds ≤ 1048576)
def OpenSpec.upto (s : _root_.Go.ChangeSpec) : _root_.Go.OpenSpec := { _root_.Go.OpenSpec.ofChange s with cond := some uptoSmall }

/-- 'dataflowlaw28.VpathReached', WHERE WHAT IT READS IS OF BULK AT MOST 1048576: true; the input reads as it did. -/
def vpathReachedUptoRow : OpenClaim := { program := "ytffkikhknabddaa", sum := "dd8bb2b8ef4d2b7f077f6d0a2e37e0ea32f1784635f9051e344623e081c94241", func := "dataflow/dataflowlaw28.VpathReached", spec := "vpathReached", unfollowed := true, recurses := true, plainKeys := false, apart := false, narrowed := true }
def VpathReachedUptoSaid : Prop := vpathReachedUptoRow.holds Try.pinned (OpenSpec.upto vpathReachedSpec)

/-- 'dataflowlaw28.VpathGoesOn', WHERE WHAT IT READS IS OF BULK AT MOST 1048576: true; the input reads as it did. -/
def vpathGoesOnUptoRow : OpenClaim := { program := "ytffkikhknabddaa", sum := "dd8bb2b8ef4d2b7f077f6d0a2e37e0ea32f1784635f9051e344623e081c94241", func := "dataflow/dataflowlaw28.VpathGoesOn", spec := "vpathGoesOn", unfollowed := true, recurses := true, plainKeys := false, apart := false, narrowed := true }
def VpathGoesOnUptoSaid : Prop := vpathGoesOnUptoRow.holds Try.pinned (OpenSpec.upto vpathGoesOnSpec)

/-- 'dataflowlaw30.IfdsCheck', WHERE WHAT IT READS IS OF BULK AT MOST 1048576: true; the input reads as it did. -/
def ifdsCheckUptoRow : OpenClaim := { program := "ytffkikhknabddaa", sum := "dd8bb2b8ef4d2b7f077f6d0a2e37e0ea32f1784635f9051e344623e081c94241", func := "dataflow/dataflowlaw30.IfdsCheck", spec := "ifdsCheck", inPlace := ["slices.overlaps[int]"], unfollowed := true, recurses := true, plainKeys := false, apart := false, narrowed := true }
def IfdsCheckUptoSaid : Prop := ifdsCheckUptoRow.holds Try.pinned (OpenSpec.upto ifdsCheckSpec)

/-- 'dataflowlaw30.IfdsSolve', WHERE WHAT IT READS IS OF BULK AT MOST 1048576: true; the input reads as it did. -/
def ifdsSolveUptoRow : OpenClaim := { program := "ytffkikhknabddaa", sum := "dd8bb2b8ef4d2b7f077f6d0a2e37e0ea32f1784635f9051e344623e081c94241", func := "dataflow/dataflowlaw30.IfdsSolve", spec := "ifdsSolve", inPlace := ["slices.overlaps[int]"], unfollowed := true, recurses := true, plainKeys := false, apart := false, narrowed := true }
def IfdsSolveUptoSaid : Prop := ifdsSolveUptoRow.holds Try.pinned (OpenSpec.upto ifdsSolveSpec)

/-- 'dataflowlaw30.IfdsHolds', WHERE WHAT IT READS IS OF BULK AT MOST 1048576: true; the input reads as it did. -/
def ifdsHoldsUptoRow : OpenClaim := { program := "ytffkikhknabddaa", sum := "dd8bb2b8ef4d2b7f077f6d0a2e37e0ea32f1784635f9051e344623e081c94241", func := "dataflow/dataflowlaw30.IfdsHolds", spec := "ifdsHolds", inPlace := ["slices.overlaps[int]"], unfollowed := true, recurses := true, plainKeys := false, apart := false, narrowed := true }
def IfdsHoldsUptoSaid : Prop := ifdsHoldsUptoRow.holds Try.pinned (OpenSpec.upto ifdsHoldsSpec)

/-- 'dataflowlaw30.IfdsMeet', WHERE WHAT IT READS IS OF BULK AT MOST 1048576: true; the input reads as it did. -/
def ifdsMeetUptoRow : OpenClaim := { program := "ytffkikhknabddaa", sum := "dd8bb2b8ef4d2b7f077f6d0a2e37e0ea32f1784635f9051e344623e081c94241", func := "dataflow/dataflowlaw30.IfdsMeet", spec := "ifdsMeet", inPlace := ["slices.overlaps[int]"], unfollowed := true, recurses := true, plainKeys := false, apart := false, narrowed := true }
def IfdsMeetUptoSaid : Prop := ifdsMeetUptoRow.holds Try.pinned (OpenSpec.upto ifdsMeetSpec)

/-- 'dataflowlaw30.IfdsGrows', WHERE WHAT IT READS IS OF BULK AT MOST 1048576: true; the input reads as it did. -/
def ifdsGrowsUptoRow : OpenClaim := { program := "ytffkikhknabddaa", sum := "dd8bb2b8ef4d2b7f077f6d0a2e37e0ea32f1784635f9051e344623e081c94241", func := "dataflow/dataflowlaw30.IfdsGrows", spec := "ifdsGrows", inPlace := ["slices.overlaps[int]"], unfollowed := true, recurses := true, plainKeys := false, apart := false, narrowed := true }
def IfdsGrowsUptoSaid : Prop := ifdsGrowsUptoRow.holds Try.pinned (OpenSpec.upto ifdsGrowsSpec)

/-- 'dataflowlaw31.ExplodedAlong', WHERE WHAT IT READS IS OF BULK AT MOST 1048576: true; the input reads as it did. -/
def explodedAlongUptoRow : OpenClaim := { program := "ytffkikhknabddaa", sum := "dd8bb2b8ef4d2b7f077f6d0a2e37e0ea32f1784635f9051e344623e081c94241", func := "dataflow/dataflowlaw31.ExplodedAlong", spec := "explodedAlong", unfollowed := true, recurses := true, plainKeys := false, apart := false, narrowed := true }
def ExplodedAlongUptoSaid : Prop := explodedAlongUptoRow.holds Try.pinned (OpenSpec.upto explodedAlongSpec)

/-- 'dataflowlaw31.ExplodedCheck', WHERE WHAT IT READS IS OF BULK AT MOST 1048576: true; the input reads as it did. -/
def explodedCheckUptoRow : OpenClaim := { program := "ytffkikhknabddaa", sum := "dd8bb2b8ef4d2b7f077f6d0a2e37e0ea32f1784635f9051e344623e081c94241", func := "dataflow/dataflowlaw31.ExplodedCheck", spec := "explodedCheck", unfollowed := true, recurses := true, plainKeys := false, apart := false, narrowed := true }
def ExplodedCheckUptoSaid : Prop := explodedCheckUptoRow.holds Try.pinned (OpenSpec.upto explodedCheckSpec)

/-- 'dataflowlaw31.ExplodedMeet', WHERE WHAT IT READS IS OF BULK AT MOST 1048576: true; the input reads as it did. -/
def explodedMeetUptoRow : OpenClaim := { program := "ytffkikhknabddaa", sum := "dd8bb2b8ef4d2b7f077f6d0a2e37e0ea32f1784635f9051e344623e081c94241", func := "dataflow/dataflowlaw31.ExplodedMeet", spec := "explodedMeet", unfollowed := true, recurses := true, plainKeys := false, apart := false, narrowed := true }
def ExplodedMeetUptoSaid : Prop := explodedMeetUptoRow.holds Try.pinned (OpenSpec.upto explodedMeetSpec)

/-- 'dataflowlaw31.ExplodedWithin', WHERE WHAT IT READS IS OF BULK AT MOST 1048576: true; the input reads as it did. -/
def explodedWithinUptoRow : OpenClaim := { program := "ytffkikhknabddaa", sum := "dd8bb2b8ef4d2b7f077f6d0a2e37e0ea32f1784635f9051e344623e081c94241", func := "dataflow/dataflowlaw31.ExplodedWithin", spec := "explodedWithin", unfollowed := true, recurses := true, plainKeys := false, apart := false, narrowed := true }
def ExplodedWithinUptoSaid : Prop := explodedWithinUptoRow.holds Try.pinned (OpenSpec.upto explodedWithinSpec)

end Rows
end Go.Proofs.Ytffkikhknabddaa
