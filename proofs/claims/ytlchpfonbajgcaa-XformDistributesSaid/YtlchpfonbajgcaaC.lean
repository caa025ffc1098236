/- Contracts of Apply of package xform and of its reference. -/
import Derived.Test.YtlchpfonbajgcaaB
import Derived.Test.YtlchpfonbajgcaaLib
namespace Go.Proofs.Ytlchpfonbajgcaa
open Go.RowKit Go.Df
attribute [local go_sem ↓] Go.wp_at_zero Go.wp_at_succ

set_option maxHeartbeats 400000 in
theorem apply3_any (b c k' n : Int) (w : World) (hk : (k' == 0) = false) :
    Calls Try.prog 22 #[.agg #[.int .i64 3, .int .i64 b, .int .i64 c], .agg #[.int .i64 k', .int .i64 n]] w fun e w' => e = .returned (.agg #[.int .i64 (Xf.apply ⟨3, b, c⟩ ⟨k', n⟩).k, .int .i64 (Xf.apply ⟨3, b, c⟩ ⟨k', n⟩).n]) ∧ Below w.heap.size w w' := by
  go_enter Try.func22, Try.ntmps22
  go_wp2_with fail
  refine wp_named (fun W => ∃ b0 b1 b2, w.heap.size = b0 ∧ w.heap.size + 1 = b1 ∧ w.heap.size + 1 + 1 = b2 ∧ Blk W b0 [.int .i64 3, .int .i64 b, .int .i64 c] ∧ Blk W b1 [.int .i64 k', .int .i64 n] ∧ Blk W b2 [.int .i64 0, .int .i64 0] ∧ Below w.heap.size w W) ⟨_, _, _, rfl, rfl, rfl, ?_, ?_, ?_, ?_⟩ ?_
  · exact ((Blk.new _ _ _ _ rfl).alloc _).alloc _
  · exact (Blk.new _ _ _ _ (by simp)).alloc _
  · exact (Blk.new _ _ _ _ (by simp))
  · go_grown
  rintro W ⟨b0, b1, b2, e0, e1, e2, B0, B1, B2, hB⟩
  rw [e2, e1, e0]
  have H : w.heap.size ≤ b2 := by omega
  have n02 : b0 ≠ b2 := by omega
  have n12 : b1 ≠ b2 := by omega
  clear e0 e1 e2
  have ⟨L0, C0, F0⟩ := B0
  have ⟨L1, C1, F1⟩ := B1
  go_region_held3 (fun w' => SX1 W b2 2 w') (first | exact SX1.init B2 | exact SX1.call (by assumption) (by assumption) | (repeat' first | assumption | refine SX1.set ?_ _ _))
    (first | (go_at_call 31; refine (sum_any _ _ _ _).mono ?_; rintro e w1 ⟨rfl, hb1⟩) | (go_at_call 30; refine (const_any _ _).mono ?_; rintro e w2 ⟨rfl, hb2⟩) | (go_at_call 23; refine (meetV_any _ _ _ _ _).mono ?_; rintro e w3 ⟨rfl, hb3⟩))
  refine SX1.go2 (F := Exit.then _ _ _ _) (by assumption) ?_
  rintro Wf kf ⟨L2, C2, F2⟩
  have hBf := kf.below hB hB.size (by simpa using H)
  go_wp2_with fail
  refine bodyPost_ret (by simp [results, Try.results22, go_sem, C2]; rfl) rfl ?_
  refine ⟨ret_v ?_, hBf⟩
  have hk' : k' ≠ 0 := by simpa using hk
  simp [Xf.apply, hk']

set_option maxHeartbeats 400000 in
theorem apply_any (k b c k' n : Int) (w : World) :
    Calls Try.prog 22 #[.agg #[.int .i64 k, .int .i64 b, .int .i64 c], .agg #[.int .i64 k', .int .i64 n]] w fun e w' => e = .returned (.agg #[.int .i64 (Xf.apply ⟨k, b, c⟩ ⟨k', n⟩).k, .int .i64 (Xf.apply ⟨k, b, c⟩ ⟨k', n⟩).n]) ∧ Below w.heap.size w w' := by
  by_cases h0 : (k' == 0) = true
  · go_enter Try.func22, Try.ntmps22
    go_wp2_with fail
    go_returns
    exact ⟨ret_v (by simp_all [Xf.apply]), by go_grown⟩
  · replace h0 : (k' == 0) = false := by simpa using h0
    by_cases h3 : k = 3
    · subst h3; exact apply3_any b c k' n w h0
    · replace h3 : (k == 3) = false := by simpa using h3
      go_enter Try.func22, Try.ntmps22
      go_wp2
      all_goals
        go_returns
        exact ⟨ret_v (by simp_all [Xf.apply, Xf.sum]), by go_grown⟩

set_option maxHeartbeats 400000 in
theorem rapply3_any (b c k' n : Int) (w : World) (hk : (k' == 0) = false) :
    Calls Try.prog 24 #[.agg #[.int .i64 3, .int .i64 b, .int .i64 c], .agg #[.int .i64 k', .int .i64 n]] w fun e w' => e = .returned (.agg #[.int .i64 (Xf.rapply ⟨3, b, c⟩ ⟨k', n⟩).k, .int .i64 (Xf.rapply ⟨3, b, c⟩ ⟨k', n⟩).n]) ∧ Below w.heap.size w w' := by
  go_enter Try.func24, Try.ntmps24
  go_wp2_with fail
  refine wp_named (fun W => ∃ b0 b1 b2, w.heap.size = b0 ∧ w.heap.size + 1 = b1 ∧ w.heap.size + 1 + 1 = b2 ∧ Blk W b0 [.int .i64 3, .int .i64 b, .int .i64 c] ∧ Blk W b1 [.int .i64 k', .int .i64 n] ∧ Blk W b2 [.int .i64 0, .int .i64 0] ∧ Below w.heap.size w W) ⟨_, _, _, rfl, rfl, rfl, ?_, ?_, ?_, ?_⟩ ?_
  · exact ((Blk.new _ _ _ _ rfl).alloc _).alloc _
  · exact (Blk.new _ _ _ _ (by simp)).alloc _
  · exact (Blk.new _ _ _ _ (by simp))
  · go_grown
  rintro W ⟨b0, b1, b2, e0, e1, e2, B0, B1, B2, hB⟩
  rw [e2, e1, e0]
  have H : w.heap.size ≤ b2 := by omega
  have n02 : b0 ≠ b2 := by omega
  have n12 : b1 ≠ b2 := by omega
  clear e0 e1 e2
  have ⟨L0, C0, F0⟩ := B0
  have ⟨L1, C1, F1⟩ := B1
  go_region_held3 (fun w' => SX1 W b2 2 w') (first | exact SX1.init B2 | exact SX1.call (by assumption) (by assumption) | (repeat' first | assumption | refine SX1.set ?_ _ _))
    (first | (go_at_call 32; refine (rsum_any _ _ _ _).mono ?_; rintro e w1 ⟨rfl, hb1⟩) | (go_at_call 29; refine (rconst_any _ _).mono ?_; rintro e w2 ⟨rfl, hb2⟩) | (go_at_call 25; refine (rmeetV_any _ _ _ _ _).mono ?_; rintro e w3 ⟨rfl, hb3⟩))
  refine SX1.go2 (F := Exit.then _ _ _ _) (by assumption) ?_
  rintro Wf kf ⟨L2, C2, F2⟩
  have hBf := kf.below hB hB.size (by simpa using H)
  go_wp2_with fail
  refine bodyPost_ret (by simp [results, Try.results24, go_sem, C2]; rfl) rfl ?_
  refine ⟨ret_v ?_, hBf⟩
  have hk' : k' ≠ 0 := by simpa using hk
  simp [Xf.rapply, hk']

set_option maxHeartbeats 400000 in
theorem rapply_any (k b c k' n : Int) (w : World) :
    Calls Try.prog 24 #[.agg #[.int .i64 k, .int .i64 b, .int .i64 c], .agg #[.int .i64 k', .int .i64 n]] w fun e w' => e = .returned (.agg #[.int .i64 (Xf.rapply ⟨k, b, c⟩ ⟨k', n⟩).k, .int .i64 (Xf.rapply ⟨k, b, c⟩ ⟨k', n⟩).n]) ∧ Below w.heap.size w w' := by
  by_cases h0 : (k' == 0) = true
  · go_enter Try.func24, Try.ntmps24
    go_wp2_with fail
    go_returns
    exact ⟨ret_v (by simp_all [Xf.rapply]), by go_grown⟩
  · replace h0 : (k' == 0) = false := by simpa using h0
    by_cases h3 : k = 3
    · subst h3; exact rapply3_any b c k' n w h0
    · replace h3 : (k == 3) = false := by simpa using h3
      go_enter Try.func24, Try.ntmps24
      go_wp2
      all_goals
        go_returns
        exact ⟨ret_v (by simp_all [Xf.rapply, Xf.sum]), by go_grown⟩

end Go.Proofs.Ytlchpfonbajgcaa
