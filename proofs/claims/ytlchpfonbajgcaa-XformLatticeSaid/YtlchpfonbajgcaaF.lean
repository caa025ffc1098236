/- Contracts of Meet, of the reference's Meet and Compose, and of the statements' helpers. -/
import Derived.Test.YtlchpfonbajgcaaD
import Derived.Test.YtlchpfonbajgcaaE
namespace Go.Proofs.Ytlchpfonbajgcaa
open Go.RowKit Go.Df
attribute [local go_sem ↓] Go.wp_at_zero Go.wp_at_succ

set_option maxHeartbeats 1000000 in
theorem meet_any (k b c k' b' c' : Int) (w : World) (v1 : 0 ≤ k) (v2 : k ≤ 4) (v3 : 0 ≤ k') (v4 : k' ≤ 4) :
    Calls Try.prog 14 #[.agg #[.int .i64 k, .int .i64 b, .int .i64 c], .agg #[.int .i64 k', .int .i64 b', .int .i64 c']] w fun e w' => e = .returned (.agg #[.int .i64 (Xf.meet ⟨k, b, c⟩ ⟨k', b', c'⟩).k, .int .i64 (Xf.meet ⟨k, b, c⟩ ⟨k', b', c'⟩).b, .int .i64 (Xf.meet ⟨k, b, c⟩ ⟨k', b', c'⟩).c]) ∧ Below w.heap.size w w' := by
  by_cases h0 : k = k' ∧ b = b' ∧ c = c'
  · obtain ⟨rfl, rfl, rfl⟩ := h0
    clear v1 v2 v3 v4
    go_enter Try.func14, Try.ntmps14
    go_wp2
    all_goals
      go_returns
      exact ⟨ret_x (by simp_all [Xf.meet]), by go_grown⟩
  · by_cases h1 : (k == 0 || k' == 0 || k == 4 || k' == 4) = true
    · clear v1 v2 v3 v4
      go_enter Try.func14, Try.ntmps14
      go_wp2
      all_goals first | (go_returns; exact ⟨ret_x (by simp_all [Xf.meet]), by go_grown⟩) | (exfalso; simp_all; done) | (exfalso; simp_all; omega)
    · simp at h1
      obtain rfl | rfl | rfl : k = 1 ∨ k = 2 ∨ k = 3 := by omega
      · obtain rfl | rfl | rfl : k' = 1 ∨ k' = 2 ∨ k' = 3 := by omega
        · exact meet11_any b c b' c' w h0
        · exact meet12_any b c b' c' w h0
        · exact meet13_any b c b' c' w h0
      · obtain rfl | rfl | rfl : k' = 1 ∨ k' = 2 ∨ k' = 3 := by omega
        · exact meet21_any b c b' c' w h0
        · exact meet22_any b c b' c' w h0
        · exact meet23_any b c b' c' w h0
      · obtain rfl | rfl | rfl : k' = 1 ∨ k' = 2 ∨ k' = 3 := by omega
        · exact meet31_any b c b' c' w h0
        · exact meet32_any b c b' c' w h0
        · exact meet33_any b c b' c' w h0

set_option maxHeartbeats 1000000 in
theorem rmeet1_any (k b c k' b' c' : Int) (w : World) (h : k ≤ k') :
    Calls Try.prog 15 #[.agg #[.int .i64 k, .int .i64 b, .int .i64 c], .agg #[.int .i64 k', .int .i64 b', .int .i64 c']] w fun e w' => e = .returned (.agg #[.int .i64 (Xf.rmeet ⟨k, b, c⟩ ⟨k', b', c'⟩).k, .int .i64 (Xf.rmeet ⟨k, b, c⟩ ⟨k', b', c'⟩).b, .int .i64 (Xf.rmeet ⟨k, b, c⟩ ⟨k', b', c'⟩).c]) ∧ Below w.heap.size w w' := by
  have h' : decide (k' < k) = false := by simp; omega
  go_enter Try.func15, Try.ntmps15
  go_wp2_with fail
  all_goals
    go_returns
    exact ⟨ret_x (by simp_all [Xf.rmeet, Xf.rmeet1] <;> (intros; omega)), by go_grown⟩


end Go.Proofs.Ytlchpfonbajgcaa
