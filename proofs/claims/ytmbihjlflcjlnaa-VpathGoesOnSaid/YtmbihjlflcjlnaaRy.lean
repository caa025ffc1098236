/- Closed facts of the translation that the rows' proofs share. -/
import Derived.Test.YtmbihjlflcjlnaaLr
import Derived.Test.YtmbihjlflcjlnaaRows
namespace Go.Proofs.Ytmbihjlflcjlnaa
open Go.RowKit
theorem Try.own : ownKnob Try.prog.godebug = none := by kernel_rfl
theorem Try.closed : (List.range Try.prog.types.size).all (Go.Df.closedB Try.prog Try.prog.types.size) = true := by kernel_rfl
end Go.Proofs.Ytmbihjlflcjlnaa
