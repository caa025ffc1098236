/- The key types of this translation's maps. -/
import Derived.Test.YtmbihjlflcjlnaaMa
import Derived.Test.YtmbihjlflcjlnaaRows
namespace Go.Proofs.Ytmbihjlflcjlnaa
open Go.RowKit Go.Df Go.WideMaps
theorem Try.laidOut : laidOutB Try.prog = true := by kernel_rfl
theorem Try.rowEdge : (77 : TypeId) < Try.prog.types.size := of_decide_eq_true (by kernel_rfl)
theorem Try.deepEdge : Try.prog.keyTypeAt (Try.prog.types.size + 1) 77 = true := by kernel_rfl
theorem Try.deepEdge2 : Try.prog.keyTypeAt 2 77 = true := by kernel_rfl
theorem Try.fieldsEdge : fieldsOf Try.prog 77 = [("From", 3, 0), ("To", 3, 1)] := by kernel_rfl
theorem Try.lawEdge : Maps.Keyed Try.prog 77 := keyed_struct Try.laidOut Try.rowEdge Try.deepEdge2 Try.fieldsEdge (by simp)
theorem Try.zeroBool (w : World) : (zeroValue 4).run Try.prog w = .ok (.bool false) w := by kernel_rfl
theorem Try.zeroInt (w : World) : (zeroValue 3).run Try.prog w = .ok (.int .i64 0) w := by kernel_rfl
theorem Try.mapII : Try.prog.underlying 72 = some (.map 3 3) := by kernel_rfl
theorem Try.mapEB : Try.prog.underlying 75 = some (.map 77 4) := by kernel_rfl
theorem Try.undInt : Try.prog.underlying 3 = some (.int .i64) := by kernel_rfl
theorem Try.undBool : Try.prog.underlying 4 = some .bool := by kernel_rfl
theorem Try.lawInt : Maps.Keyed Try.prog 3 := Maps.int_keyed Try.undInt
theorem Try.keyInt (a : Int) (h : (Lit.int .i64 a).wf = true) : keyOf Try.prog 3 (.int .i64 a) = some (.int .i64 a) := Maps.keyOf_int_mk Try.undInt h
theorem Try.cellsInt : Try.prog.cellsOf 3 = 1 := by kernel_rfl
theorem Try.cellsEdge : Try.prog.cellsOf 77 = 2 := by kernel_rfl
theorem Try.keyEdge (a b : Int) (ha : (Lit.int .i64 a).wf = true) (hb : (Lit.int .i64 b).wf = true) : ∃ kl, keyOf Try.prog 77 (.agg #[.int .i64 a, .int .i64 b]) = some kl :=
  keyOf_two Try.fieldsEdge (by decide) (by decide) Try.deepEdge Try.rowEdge Try.cellsEdge Try.undInt Try.cellsInt a b ha hb
end Go.Proofs.Ytmbihjlflcjlnaa
