/- Closed facts of the translation that the rows' proofs share. -/
import Derived.Test.YtooejoajojanjaaGreatDoorSx10
import Derived.Test.YtooejoajojanjaaGreatDoorRows
namespace Go.Proofs.YtooejoajojanjaaGreatDoor
open Go.RowKit
theorem Tryz.own : ownKnob Tryz.prog.godebug = none := by kernel_rfl
theorem Tryz.closed : (List.range Tryz.prog.types.size).all (Go.Df.closedB Tryz.prog Tryz.prog.types.size) = true := by kernel_rfl
end Go.Proofs.YtooejoajojanjaaGreatDoor
