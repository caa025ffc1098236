/- Contracts of Compose of package xform and of its reference. -/
import Derived.Test.YtlchpfonbajgcaaC
namespace Go.Proofs.Ytlchpfonbajgcaa
open Go.RowKit Go.Df
attribute [local go_sem ↓] Go.wp_at_zero Go.wp_at_succ

set_option maxHeartbeats 1000000 in
theorem compose_any (k b c k' b' c' : Int) (w : World) :
    Calls Try.prog 12 #[.agg #[.int .i64 k, .int .i64 b, .int .i64 c], .agg #[.int .i64 k', .int .i64 b', .int .i64 c']] w fun e w' => e = .returned (.agg #[.int .i64 (Xf.compose ⟨k, b, c⟩ ⟨k', b', c'⟩).k, .int .i64 (Xf.compose ⟨k, b, c⟩ ⟨k', b', c'⟩).b, .int .i64 (Xf.compose ⟨k, b, c⟩ ⟨k', b', c'⟩).c]) ∧ Below w.heap.size w w' := by
  go_enter Try.func12, Try.ntmps12
  go_wp2
  all_goals
    go_returns
    exact ⟨ret_x (by simp_all [Xf.compose, Xf.shifted]), by go_grown⟩


end Go.Proofs.Ytlchpfonbajgcaa
