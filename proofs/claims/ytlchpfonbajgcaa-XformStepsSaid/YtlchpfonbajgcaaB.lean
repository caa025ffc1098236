/- Contracts of Apply, Compose and Meet of package xform and of its reference. -/
import Derived.Test.YtlchpfonbajgcaaA
namespace Go.Proofs.Ytlchpfonbajgcaa
open Go.RowKit

set_option maxHeartbeats 400000 in
theorem sum_any (k n m : Int) (w : World) :
    Calls Try.prog 31 #[.agg #[.int .i64 k, .int .i64 n], .int .i64 m] w fun e w' => e = .returned (.agg #[.int .i64 (Xf.sum ⟨k, n⟩ m).k, .int .i64 (Xf.sum ⟨k, n⟩ m).n]) ∧ Below w.heap.size w w' := by
  go_enter Try.func31, Try.ntmps31
  go_wp2
  all_goals (go_returns; refine ⟨ret_v ?_, by go_grown⟩; simp_all [Xf.sum])

set_option maxHeartbeats 400000 in
theorem rsum_any (k n m : Int) (w : World) :
    Calls Try.prog 32 #[.agg #[.int .i64 k, .int .i64 n], .int .i64 m] w fun e w' => e = .returned (.agg #[.int .i64 (Xf.sum ⟨k, n⟩ m).k, .int .i64 (Xf.sum ⟨k, n⟩ m).n]) ∧ Below w.heap.size w w' := by
  go_enter Try.func32, Try.ntmps32
  go_wp2
  all_goals (go_returns; refine ⟨ret_v ?_, by go_grown⟩; simp_all [Xf.sum])

set_option maxHeartbeats 400000 in
theorem const_any (n : Int) (w : World) :
    Calls Try.prog 30 #[.int .i64 n] w fun e w' => e = .returned (.agg #[.int .i64 1, .int .i64 n]) ∧ Below w.heap.size w w' := by
  go_enter Try.func30, Try.ntmps30
  go_wp2
  all_goals (go_returns; exact ⟨rfl, by go_grown⟩)

set_option maxHeartbeats 400000 in
theorem rconst_any (n : Int) (w : World) :
    Calls Try.prog 29 #[.int .i64 n] w fun e w' => e = .returned (.agg #[.int .i64 1, .int .i64 n]) ∧ Below w.heap.size w w' := by
  go_enter Try.func29, Try.ntmps29
  go_wp2
  all_goals (go_returns; exact ⟨rfl, by go_grown⟩)

end Go.Proofs.Ytlchpfonbajgcaa
