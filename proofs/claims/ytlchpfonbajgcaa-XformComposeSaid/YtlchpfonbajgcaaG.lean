/- Contracts of the reference's Meet and Compose. -/
import Derived.Test.YtlchpfonbajgcaaF
namespace Go.Proofs.Ytlchpfonbajgcaa
open Go.RowKit Go.Df
attribute [local go_sem ↓] Go.wp_at_zero Go.wp_at_succ

set_option maxHeartbeats 1000000 in
theorem rmeet_any (k b c k' b' c' : Int) (w : World) :
    Calls Try.prog 15 #[.agg #[.int .i64 k, .int .i64 b, .int .i64 c], .agg #[.int .i64 k', .int .i64 b', .int .i64 c']] w fun e w' => e = .returned (.agg #[.int .i64 (Xf.rmeet ⟨k, b, c⟩ ⟨k', b', c'⟩).k, .int .i64 (Xf.rmeet ⟨k, b, c⟩ ⟨k', b', c'⟩).b, .int .i64 (Xf.rmeet ⟨k, b, c⟩ ⟨k', b', c'⟩).c]) ∧ Below w.heap.size w w' := by
  by_cases h : k ≤ k'
  · exact rmeet1_any k b c k' b' c' w h
  · have h1 : k' < k := by omega
    have hne : ¬ k = k' := by omega
    clear h
    by_cases hk : (k == 0) = true
    · go_enter Try.func15, Try.ntmps15
      go_wp2_with fail
      go_returns
      exact ⟨ret_x (by simp_all [Xf.rmeet]), by go_grown⟩
    by_cases hk' : (k' == 0) = true
    · go_enter Try.func15, Try.ntmps15
      go_wp2_with fail
      go_returns
      exact ⟨ret_x (by simp_all [Xf.rmeet]), by go_grown⟩
    simp only [Bool.not_eq_true] at hk hk'
    go_enter Try.func15, Try.ntmps15
    go_upto_region 1 with fail
    refine wp_named (fun W => ∃ b0 b1 b2, w.heap.size = b0 ∧ w.heap.size + 1 = b1 ∧ w.heap.size + 1 + 1 = b2 ∧ Blk W b0 [.int .i64 k, .int .i64 b, .int .i64 c] ∧ Blk W b1 [.int .i64 k', .int .i64 b', .int .i64 c'] ∧ Blk W b2 [.int .i64 0, .int .i64 0, .int .i64 0] ∧ Below w.heap.size w W) ⟨_, _, _, rfl, rfl, rfl, ?_, ?_, ?_, ?_⟩ ?_
    · exact ((Blk.new _ _ _ _ (by simp)).alloc _).alloc _
    · exact (Blk.new _ _ _ _ (by simp)).alloc _
    · exact Blk.new _ _ _ _ (by simp)
    · go_grown
    rintro W ⟨b0, b1, b2, e0, e1, e2, B0, B1, B2, hB⟩
    rw [e2, e1, e0]
    have G0 : w.heap.size ≤ b0 := by omega
    have n01 : b0 ≠ b1 := by omega
    have n02 : b0 ≠ b2 := by omega
    have G1 : w.heap.size ≤ b1 := by omega
    have n10 : b1 ≠ b0 := by omega
    have n12 : b1 ≠ b2 := by omega
    have G2 : w.heap.size ≤ b2 := by omega
    have n20 : b2 ≠ b0 := by omega
    have n21 : b2 ≠ b1 := by omega
    clear e0 e1 e2
    have ⟨L0, C0, F0⟩ := B0
    have ⟨L1, C1, F1⟩ := B1
    have ⟨L2, C2, F2⟩ := B2
    go_wp2_with fail
    refine (rmeet1_any _ _ _ _ _ _ _ (by omega)).mono ?_
    rintro e w1 ⟨rfl, hb1⟩
    have hB1 := below_step hB.size hB hb1
    obtain ⟨hc1, hf1, hg1⟩ := bcell hb1
    go_wp2_with fail
    refine bodyPost_ret (by simp [results, Try.results15, go_sem, *]; rfl) rfl ?_
    refine ⟨ret_x ?_, by go_grown⟩
    exact Xf.rmeet_swap h1 (by simpa using hk) (by simpa using hk')

end Go.Proofs.Ytlchpfonbajgcaa
