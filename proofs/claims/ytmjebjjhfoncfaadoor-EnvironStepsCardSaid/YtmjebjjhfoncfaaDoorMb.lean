/- The key types of this translation's maps. -/
import Derived.Test.YtmjebjjhfoncfaaDoorMa
import Derived.Test.YtmjebjjhfoncfaaDoorRows
namespace Go.Proofs.YtmjebjjhfoncfaaDoor
open Go.RowKit Go.Df Go.WideMaps
theorem Tryd.laidOut : laidOutB Tryd.prog = true := by kernel_rfl
theorem Tryd.rowEdge : (106 : TypeId) < Tryd.prog.types.size := of_decide_eq_true (by kernel_rfl)
theorem Tryd.deepEdge : Tryd.prog.keyTypeAt (Tryd.prog.types.size + 1) 106 = true := by kernel_rfl
theorem Tryd.deepEdge2 : Tryd.prog.keyTypeAt 2 106 = true := by kernel_rfl
theorem Tryd.fieldsEdge : fieldsOf Tryd.prog 106 = [("From", 3, 0), ("To", 3, 1)] := by kernel_rfl
theorem Tryd.lawEdge : Maps.Keyed Tryd.prog 106 := keyed_struct Tryd.laidOut Tryd.rowEdge Tryd.deepEdge2 Tryd.fieldsEdge (by simp)
theorem Tryd.zeroBool (w : World) : (zeroValue 4).run Tryd.prog w = .ok (.bool false) w := by kernel_rfl
theorem Tryd.zeroInt (w : World) : (zeroValue 3).run Tryd.prog w = .ok (.int .i64 0) w := by kernel_rfl
theorem Tryd.mapII : Tryd.prog.underlying 101 = some (.map 3 3) := by kernel_rfl
theorem Tryd.mapEB : Tryd.prog.underlying 104 = some (.map 106 4) := by kernel_rfl
theorem Tryd.undInt : Tryd.prog.underlying 3 = some (.int .i64) := by kernel_rfl
theorem Tryd.undBool : Tryd.prog.underlying 4 = some .bool := by kernel_rfl
theorem Tryd.lawInt : Maps.Keyed Tryd.prog 3 := Maps.int_keyed Tryd.undInt
theorem Tryd.keyInt (a : Int) (h : (Lit.int .i64 a).wf = true) : keyOf Tryd.prog 3 (.int .i64 a) = some (.int .i64 a) := Maps.keyOf_int_mk Tryd.undInt h
theorem Tryd.cellsInt : Tryd.prog.cellsOf 3 = 1 := by kernel_rfl
theorem Tryd.cellsEdge : Tryd.prog.cellsOf 106 = 2 := by kernel_rfl
theorem Tryd.keyEdge (a b : Int) (ha : (Lit.int .i64 a).wf = true) (hb : (Lit.int .i64 b).wf = true) : ∃ kl, keyOf Tryd.prog 106 (.agg #[.int .i64 a, .int .i64 b]) = some kl :=
  keyOf_two Tryd.fieldsEdge (by decide) (by decide) Tryd.deepEdge Tryd.rowEdge Tryd.cellsEdge Tryd.undInt Tryd.cellsInt a b ha hb
end Go.Proofs.YtmjebjjhfoncfaaDoor
