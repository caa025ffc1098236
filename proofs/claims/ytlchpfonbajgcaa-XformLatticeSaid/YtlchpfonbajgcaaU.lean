/- Closed facts of the translation that the rows' proofs share. -/
import Derived.Test.YtlchpfonbajgcaaRows
import Derived.ProofKit
import Derived.WalkKit
import Derived.Handy
namespace Go.Proofs.Ytlchpfonbajgcaa
open Go.RowKit

theorem Try.own : ownKnob Try.prog.godebug = none := by kernel_rfl
theorem Try.cells23 : Try.prog.cellsOf 23 = 3 := by kernel_rfl
theorem Try.cells26 : Try.prog.cellsOf 26 = 2 := by kernel_rfl
theorem fits_of {n : Int} (h : (Lit.int .i64 n).wf = true) : wrap64 n = n := by
  have := bounds_i64 h
  exact IntWalk.wrap64_in n ⟨by omega, by omega⟩

end Go.Proofs.Ytlchpfonbajgcaa
