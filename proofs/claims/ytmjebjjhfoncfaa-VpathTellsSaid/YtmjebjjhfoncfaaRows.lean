/-
  No cell of these rows narrows 'for every input' (looked for: loops, veiled, ifaces, maps, wideKeys, modest, calm, conditions, laid).
  DERIVED. THE GIVEN ROWS OF THIS SEAT. 7 by the template 'for every input the law returns true; each argument reads behind the call as it read before'; 0 by the template 'total and deterministic' (their statements: YtmjebjjhfoncfaaTotals.lean).
  GIVEN WITH THE SEED: the statements are not yours to turn. If you find one false, say at which input.
  Laid BY PROGRAM, IN A SANDBOX (cutbox-rows.mjs): the forced cells as the released guide's own fill.sh prints them over the translation eb9cceb0ebce82ff… (all of the seat's roots in one cut). By AI agents, Wed Nov 11 2026. No macro, syntax, notation, axiom, sorry.
-/
import Derived.Test.YtmjebjjhfoncfaaChecked
import GoSem.Claim
import GoSem.ClaimJoined
import GoSem.ClaimMapViews
import Derived.JoinedTies
import Derived.KernelRfl
namespace Go.Proofs.Ytmjebjjhfoncfaa
/- THE CELL 'sum', in the pinned program and in every row, IS THE sha256 OF THE DUMP (.gsa) THAT YtmjebjjhfoncfaaProg.lean LOADS. Nothing in Lean hashes anything: it is a label: what it is worth is what the hold of that sum in a sandbox is worth. -/
noncomputable def Try.pinned : Pinned := { name := "ytmjebjjhfoncfaa", sum := "eb9cceb0ebce82ff7b91425f45d67417213173468925bb90b03a4f4846c8b49d", checked := Try.checked }
namespace Rows
def none {H : Type} : Left H := { results := [], args := [] }

/-- 'dataflowlaw28.VpathMatch': WHATEVER THE INPUT: true; the input reads as it did. -/
def vpathMatchSpec : ChangeSpec := { name := "vpathMatch", fn := fun _ => fun
  | [d1, d2, d3] => { results := [.lit (.bool true)], args := [d1, d2, d3] }
  | _ => none }
def vpathMatchRow : OpenClaim := { program := "ytmjebjjhfoncfaa", sum := "eb9cceb0ebce82ff7b91425f45d67417213173468925bb90b03a4f4846c8b49d", func := "dataflow/dataflowlaw28.VpathMatch", spec := "vpathMatch", unfollowed := true, recurses := true, plainKeys := false, apart := false }
def VpathMatchSaid : Prop := vpathMatchRow.holds Try.pinned (OpenSpec.ofChange vpathMatchSpec)

/-- ITS FALSE NEIGHBOUR: 'it returns false'. Refute it at one input. -/
def vpathMatchWrong : ChangeSpec := { name := "vpathMatch", fn := fun _ => fun
  | [d1, d2, d3] => { results := [.lit (.bool false)], args := [d1, d2, d3] }
  | _ => none }
def VpathMatchWrongFalsely : Prop := vpathMatchRow.holds Try.pinned (OpenSpec.ofChange vpathMatchWrong)

/-- 'dataflowlaw28.VpathTells': WHATEVER THE INPUT: true; the input reads as it did. -/
def vpathTellsSpec : ChangeSpec := { name := "vpathTells", fn := fun _ => fun
  | [d1, d2, d3] => { results := [.lit (.bool true)], args := [d1, d2, d3] }
  | _ => none }
def vpathTellsRow : OpenClaim := { program := "ytmjebjjhfoncfaa", sum := "eb9cceb0ebce82ff7b91425f45d67417213173468925bb90b03a4f4846c8b49d", func := "dataflow/dataflowlaw28.VpathTells", spec := "vpathTells", unfollowed := true, recurses := true, plainKeys := false, apart := false }
def VpathTellsSaid : Prop := vpathTellsRow.holds Try.pinned (OpenSpec.ofChange vpathTellsSpec)

/-- ITS FALSE NEIGHBOUR: 'it returns false'. Refute it at one input. -/
def vpathTellsWrong : ChangeSpec := { name := "vpathTells", fn := fun _ => fun
  | [d1, d2, d3] => { results := [.lit (.bool false)], args := [d1, d2, d3] }
  | _ => none }
def VpathTellsWrongFalsely : Prop := vpathTellsRow.holds Try.pinned (OpenSpec.ofChange vpathTellsWrong)

/-- 'dataflowlaw28.VpathReached': WHATEVER THE INPUT: true; the input reads as it did. -/
def vpathReachedSpec : ChangeSpec := { name := "vpathReached", fn := fun _ => fun
  | [d1, d2] => { results := [.lit (.bool true)], args := [d1, d2] }
  | _ => none }
def vpathReachedRow : OpenClaim := { program := "ytmjebjjhfoncfaa", sum := "eb9cceb0ebce82ff7b91425f45d67417213173468925bb90b03a4f4846c8b49d", func := "dataflow/dataflowlaw28.VpathReached", spec := "vpathReached", unfollowed := true, recurses := true, plainKeys := false, apart := false }
def VpathReachedSaid : Prop := vpathReachedRow.holds Try.pinned (OpenSpec.ofChange vpathReachedSpec)

/-- ITS FALSE NEIGHBOUR: 'it returns false'. Refute it at one input. -/
def vpathReachedWrong : ChangeSpec := { name := "vpathReached", fn := fun _ => fun
  | [d1, d2] => { results := [.lit (.bool false)], args := [d1, d2] }
  | _ => none }
def VpathReachedWrongFalsely : Prop := vpathReachedRow.holds Try.pinned (OpenSpec.ofChange vpathReachedWrong)

/-- 'dataflowlaw28.VpathGoesOn': WHATEVER THE INPUT: true; the input reads as it did. -/
def vpathGoesOnSpec : ChangeSpec := { name := "vpathGoesOn", fn := fun _ => fun
  | [d1, d2, d3] => { results := [.lit (.bool true)], args := [d1, d2, d3] }
  | _ => none }
def vpathGoesOnRow : OpenClaim := { program := "ytmjebjjhfoncfaa", sum := "eb9cceb0ebce82ff7b91425f45d67417213173468925bb90b03a4f4846c8b49d", func := "dataflow/dataflowlaw28.VpathGoesOn", spec := "vpathGoesOn", unfollowed := true, recurses := true, plainKeys := false, apart := false }
def VpathGoesOnSaid : Prop := vpathGoesOnRow.holds Try.pinned (OpenSpec.ofChange vpathGoesOnSpec)

/-- ITS FALSE NEIGHBOUR: 'it returns false'. Refute it at one input. -/
def vpathGoesOnWrong : ChangeSpec := { name := "vpathGoesOn", fn := fun _ => fun
  | [d1, d2, d3] => { results := [.lit (.bool false)], args := [d1, d2, d3] }
  | _ => none }
def VpathGoesOnWrongFalsely : Prop := vpathGoesOnRow.holds Try.pinned (OpenSpec.ofChange vpathGoesOnWrong)

/-- 'dataflowlaw30.IfdsCheck': WHATEVER THE INPUT: true; the input reads as it did. -/
def ifdsCheckSpec : ChangeSpec := { name := "ifdsCheck", fn := fun _ => fun
  | [d] => { results := [.lit (.bool true)], args := [d] }
  | _ => none }
def ifdsCheckRow : OpenClaim := { program := "ytmjebjjhfoncfaa", sum := "eb9cceb0ebce82ff7b91425f45d67417213173468925bb90b03a4f4846c8b49d", func := "dataflow/dataflowlaw30.IfdsCheck", spec := "ifdsCheck", inPlace := ["slices.overlaps[int]"], unfollowed := true, recurses := true, plainKeys := false, apart := false }
def IfdsCheckSaid : Prop := ifdsCheckRow.holds Try.pinned (OpenSpec.ofChange ifdsCheckSpec)

/-- ITS FALSE NEIGHBOUR: 'it returns false'. Refute it at one input. -/
def ifdsCheckWrong : ChangeSpec := { name := "ifdsCheck", fn := fun _ => fun
  | [d] => { results := [.lit (.bool false)], args := [d] }
  | _ => none }
def IfdsCheckWrongFalsely : Prop := ifdsCheckRow.holds Try.pinned (OpenSpec.ofChange ifdsCheckWrong)

/-- 'dataflowlaw30.IfdsHolds': WHATEVER THE INPUT: true; the input reads as it did. -/
def ifdsHoldsSpec : ChangeSpec := { name := "ifdsHolds", fn := fun _ => fun
  | [d1, d2, d3] => { results := [.lit (.bool true)], args := [d1, d2, d3] }
  | _ => none }
def ifdsHoldsRow : OpenClaim := { program := "ytmjebjjhfoncfaa", sum := "eb9cceb0ebce82ff7b91425f45d67417213173468925bb90b03a4f4846c8b49d", func := "dataflow/dataflowlaw30.IfdsHolds", spec := "ifdsHolds", inPlace := ["slices.overlaps[int]"], unfollowed := true, recurses := true, plainKeys := false, apart := false }
def IfdsHoldsSaid : Prop := ifdsHoldsRow.holds Try.pinned (OpenSpec.ofChange ifdsHoldsSpec)

/-- ITS FALSE NEIGHBOUR: 'it returns false'. Refute it at one input. -/
def ifdsHoldsWrong : ChangeSpec := { name := "ifdsHolds", fn := fun _ => fun
  | [d1, d2, d3] => { results := [.lit (.bool false)], args := [d1, d2, d3] }
  | _ => none }
def IfdsHoldsWrongFalsely : Prop := ifdsHoldsRow.holds Try.pinned (OpenSpec.ofChange ifdsHoldsWrong)

/-- 'dataflowlaw31.ExplodedAlong': WHATEVER THE INPUT: true; the input reads as it did. -/
def explodedAlongSpec : ChangeSpec := { name := "explodedAlong", fn := fun _ => fun
  | [d1, d2] => { results := [.lit (.bool true)], args := [d1, d2] }
  | _ => none }
def explodedAlongRow : OpenClaim := { program := "ytmjebjjhfoncfaa", sum := "eb9cceb0ebce82ff7b91425f45d67417213173468925bb90b03a4f4846c8b49d", func := "dataflow/dataflowlaw31.ExplodedAlong", spec := "explodedAlong", unfollowed := true, recurses := true, plainKeys := false, apart := false }
def ExplodedAlongSaid : Prop := explodedAlongRow.holds Try.pinned (OpenSpec.ofChange explodedAlongSpec)

/-- ITS FALSE NEIGHBOUR: 'it returns false'. Refute it at one input. -/
def explodedAlongWrong : ChangeSpec := { name := "explodedAlong", fn := fun _ => fun
  | [d1, d2] => { results := [.lit (.bool false)], args := [d1, d2] }
  | _ => none }
def ExplodedAlongWrongFalsely : Prop := explodedAlongRow.holds Try.pinned (OpenSpec.ofChange explodedAlongWrong)

/- THE SECOND FORM. 'bulk': how many values and letters a reading holds, each counted each time it is reached (what is shared counts as often as it is met; a slice's spare places count too). A statement '..UptoSaid' is the law's where the arguments, and the package variables that the reading takes, are together of bulk at most 1048576: NARROWER than '..Said'. Prove '..Said' where nothing that the law and all that it calls make is longer than what came in: it says more and counts as full. Else prove '..UptoSaid'. A law counts once. -/
mutual
def uptoBulk {H : Type} : DataW H → Nat
  | .lit (.string bytes) => bytes.length + 1
  | .lit _ => 1
  | .nil => 1
  | .ptr d => uptoBulk d + 1
  | .slice elems spare => uptoBulkAll elems + uptoBulkAll spare + 1
  | .agg parts => uptoBulkAll parts + 1
  | .iface _ d => uptoBulk d + 1
  | .map entries => uptoBulkEntries entries + 1
  | .held _ => 1
def uptoBulkAll {H : Type} : List (DataW H) → Nat
  | [] => 0
  | d :: r => uptoBulk d + uptoBulkAll r
def uptoBulkEntries {H : Type} : List (Lit × DataW H) → Nat
  | [] => 0
  | x :: r => uptoBulkEntry x + uptoBulkEntries r
def uptoBulkEntry {H : Type} : Lit × DataW H → Nat
  | (.string bytes, d) => bytes.length + uptoBulk d + 1
  | (_, d) => uptoBulk d + 1
 end
def uptoSmall : (H : Type) → List (DataW H) → Bool := fun _ ds => decide (uptoBulkAll ds ≤ 1048576)
def OpenSpec.upto (s : _root_.Go.ChangeSpec) : _root_.Go.OpenSpec := { _root_.Go.OpenSpec.ofChange s with cond := some uptoSmall }

/-- 'dataflowlaw28.VpathMatch', WHERE WHAT IT READS IS OF BULK AT MOST 1048576: true; the input reads as it did. -/
def vpathMatchUptoRow : OpenClaim := { program := "ytmjebjjhfoncfaa", sum := "eb9cceb0ebce82ff7b91425f45d67417213173468925bb90b03a4f4846c8b49d", func := "dataflow/dataflowlaw28.VpathMatch", spec := "vpathMatch", unfollowed := true, recurses := true, plainKeys := false, apart := false, narrowed := true }
def VpathMatchUptoSaid : Prop := vpathMatchUptoRow.holds Try.pinned (OpenSpec.upto vpathMatchSpec)

/-- 'dataflowlaw28.VpathTells', WHERE WHAT IT READS IS OF BULK AT MOST 1048576: true; the input reads as it did. -/
def vpathTellsUptoRow : OpenClaim := { program := "ytmjebjjhfoncfaa", sum := "eb9cceb0ebce82ff7b91425f45d67417213173468925bb90b03a4f4846c8b49d", func := "dataflow/dataflowlaw28.VpathTells", spec := "vpathTells", unfollowed := true, recurses := true, plainKeys := false, apart := false, narrowed := true }
def VpathTellsUptoSaid : Prop := vpathTellsUptoRow.holds Try.pinned (OpenSpec.upto vpathTellsSpec)

/-- 'dataflowlaw28.VpathReached', WHERE WHAT IT READS IS OF BULK AT MOST 1048576: true; the input reads as it did. -/
def vpathReachedUptoRow : OpenClaim := { program := "ytmjebjjhfoncfaa", sum := "eb9cceb0ebce82ff7b91425f45d67417213173468925bb90b03a4f4846c8b49d", func := "dataflow/dataflowlaw28.VpathReached", spec := "vpathReached", unfollowed := true, recurses := true, plainKeys := false, apart := false, narrowed := true }
def VpathReachedUptoSaid : Prop := vpathReachedUptoRow.holds Try.pinned (OpenSpec.upto vpathReachedSpec)

/-- 'dataflowlaw28.VpathGoesOn', WHERE WHAT IT READS IS OF BULK AT MOST 1048576: true; the input reads as it did. -/
def vpathGoesOnUptoRow : OpenClaim := { program := "ytmjebjjhfoncfaa", sum := "eb9cceb0ebce82ff7b91425f45d67417213173468925bb90b03a4f4846c8b49d", func := "dataflow/dataflowlaw28.VpathGoesOn", spec := "vpathGoesOn", unfollowed := true, recurses := true, plainKeys := false, apart := false, narrowed := true }
def VpathGoesOnUptoSaid : Prop := vpathGoesOnUptoRow.holds Try.pinned (OpenSpec.upto vpathGoesOnSpec)

/-- 'dataflowlaw30.IfdsCheck', WHERE WHAT IT READS IS OF BULK AT MOST 1048576: true; the input reads as it did. -/
def ifdsCheckUptoRow : OpenClaim := { program := "ytmjebjjhfoncfaa", sum := "eb9cceb0ebce82ff7b91425f45d67417213173468925bb90b03a4f4846c8b49d", func := "dataflow/dataflowlaw30.IfdsCheck", spec := "ifdsCheck", inPlace := ["slices.overlaps[int]"], unfollowed := true, recurses := true, plainKeys := false, apart := false, narrowed := true }
def IfdsCheckUptoSaid : Prop := ifdsCheckUptoRow.holds Try.pinned (OpenSpec.upto ifdsCheckSpec)

/-- 'dataflowlaw30.IfdsHolds', WHERE WHAT IT READS IS OF BULK AT MOST 1048576: true; the input reads as it did. -/
def ifdsHoldsUptoRow : OpenClaim := { program := "ytmjebjjhfoncfaa", sum := "eb9cceb0ebce82ff7b91425f45d67417213173468925bb90b03a4f4846c8b49d", func := "dataflow/dataflowlaw30.IfdsHolds", spec := "ifdsHolds", inPlace := ["slices.overlaps[int]"], unfollowed := true, recurses := true, plainKeys := false, apart := false, narrowed := true }
def IfdsHoldsUptoSaid : Prop := ifdsHoldsUptoRow.holds Try.pinned (OpenSpec.upto ifdsHoldsSpec)

/-- 'dataflowlaw31.ExplodedAlong', WHERE WHAT IT READS IS OF BULK AT MOST 1048576: true; the input reads as it did. -/
def explodedAlongUptoRow : OpenClaim := { program := "ytmjebjjhfoncfaa", sum := "eb9cceb0ebce82ff7b91425f45d67417213173468925bb90b03a4f4846c8b49d", func := "dataflow/dataflowlaw31.ExplodedAlong", spec := "explodedAlong", unfollowed := true, recurses := true, plainKeys := false, apart := false, narrowed := true }
def ExplodedAlongUptoSaid : Prop := explodedAlongUptoRow.holds Try.pinned (OpenSpec.upto explodedAlongSpec)

end Rows
end Go.Proofs.Ytmjebjjhfoncfaa
