/- Closed facts of the translation that the rows' proofs share. -/
import Derived.Test.YtffkikhknabddaaLr
import Derived.Test.YtffkikhknabddaaRows
namespace Go.Proofs.Ytffkikhknabddaa
open Go.RowKit
theorem Try.own : ownKnob Try.prog.godebug = none := by kernel_rfl
theorem Try.closed : (List.range Try.prog.types.size).all (Go.Df.closedB Try.prog Try.prog.types.size) = true := by kernel_rfl
end Go.Proofs.Ytffkikhknabddaa
