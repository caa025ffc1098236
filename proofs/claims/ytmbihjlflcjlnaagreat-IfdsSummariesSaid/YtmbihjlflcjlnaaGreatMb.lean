/- The key types of this translation's maps. -/
import Derived.Test.YtmbihjlflcjlnaaGreatMa
import Derived.Test.YtmbihjlflcjlnaaGreatRows
namespace Go.Proofs.YtmbihjlflcjlnaaGreat
open Go.RowKit Go.Df Go.WideMaps
theorem Tryz.laidOut : laidOutB Tryz.prog = true := by kernel_rfl
theorem Tryz.rowEdge : (168 : TypeId) < Tryz.prog.types.size := of_decide_eq_true (by kernel_rfl)
theorem Tryz.deepEdge : Tryz.prog.keyTypeAt (Tryz.prog.types.size + 1) 168 = true := by kernel_rfl
theorem Tryz.deepEdge2 : Tryz.prog.keyTypeAt 2 168 = true := by kernel_rfl
theorem Tryz.fieldsEdge : fieldsOf Tryz.prog 168 = [("From", 3, 0), ("To", 3, 1)] := by kernel_rfl
theorem Tryz.lawEdge : Maps.Keyed Tryz.prog 168 := keyed_struct Tryz.laidOut Tryz.rowEdge Tryz.deepEdge2 Tryz.fieldsEdge (by simp)
theorem Tryz.zeroBool (w : World) : (zeroValue 4).run Tryz.prog w = .ok (.bool false) w := by kernel_rfl
theorem Tryz.zeroInt (w : World) : (zeroValue 3).run Tryz.prog w = .ok (.int .i64 0) w := by kernel_rfl
theorem Tryz.mapII : Tryz.prog.underlying 145 = some (.map 3 3) := by kernel_rfl
theorem Tryz.mapEB : Tryz.prog.underlying 166 = some (.map 168 4) := by kernel_rfl
theorem Tryz.undInt : Tryz.prog.underlying 3 = some (.int .i64) := by kernel_rfl
theorem Tryz.undBool : Tryz.prog.underlying 4 = some .bool := by kernel_rfl
theorem Tryz.lawInt : Maps.Keyed Tryz.prog 3 := Maps.int_keyed Tryz.undInt
theorem Tryz.keyInt (a : Int) (h : (Lit.int .i64 a).wf = true) : keyOf Tryz.prog 3 (.int .i64 a) = some (.int .i64 a) := Maps.keyOf_int_mk Tryz.undInt h
theorem Tryz.cellsInt : Tryz.prog.cellsOf 3 = 1 := by kernel_rfl
theorem Tryz.cellsEdge : Tryz.prog.cellsOf 168 = 2 := by kernel_rfl
theorem Tryz.keyEdge (a b : Int) (ha : (Lit.int .i64 a).wf = true) (hb : (Lit.int .i64 b).wf = true) : ∃ kl, keyOf Tryz.prog 168 (.agg #[.int .i64 a, .int .i64 b]) = some kl :=
  keyOf_two Tryz.fieldsEdge (by decide) (by decide) Tryz.deepEdge Tryz.rowEdge Tryz.cellsEdge Tryz.undInt Tryz.cellsInt a b ha hb
end Go.Proofs.YtmbihjlflcjlnaaGreat
