/- Closed facts of the translation that the rows' proofs share. -/
import Derived.Test.YtmjebjjhfoncfaaDoorLr
import Derived.Test.YtmjebjjhfoncfaaDoorRows
namespace Go.Proofs.YtmjebjjhfoncfaaDoor
open Go.RowKit
theorem Tryd.own : ownKnob Tryd.prog.godebug = none := by kernel_rfl
theorem Tryd.closed : (List.range Tryd.prog.types.size).all (Go.Df.closedB Tryd.prog Tryd.prog.types.size) = true := by kernel_rfl
end Go.Proofs.YtmjebjjhfoncfaaDoor
