/- The walks of the laws of layer 32. -/
import Derived.Test.YtlchpfonbajgcaaJ
namespace Go.Proofs.Ytlchpfonbajgcaa
open Go.RowKit Go.Df
attribute [local go_sem ↓] Go.wp_at_zero Go.wp_at_succ

set_option maxHeartbeats 2000000 in
theorem xformDistributes_true (k_1 b_1 c_1 k_4 n_4 k_5 n_5 : Int) (w : World) (h1 : Xf.rcheck ⟨k_1, b_1, c_1⟩ = 0) (h2 : Xf.rcheckV ⟨k_4, n_4⟩ = 0) (h3 : Xf.rcheckV ⟨k_5, n_5⟩ = 0) (f4 : wrap64 n_4 = n_4) (f5 : wrap64 n_5 = n_5) :
    Calls Try.prog 8 #[.agg #[.int .i64 k_1, .int .i64 b_1, .int .i64 c_1], .agg #[.int .i64 k_4, .int .i64 n_4], .agg #[.int .i64 k_5, .int .i64 n_5]] w fun e w' => e = .returned (.bool true) ∧ Below w.heap.size w w' := by
  have hv0 : Xf.rcheckV ⟨0, 0⟩ = 0 := by decide
  have q1 : Xf.apply ⟨k_1, b_1, c_1⟩ ⟨(Xf.meetV ⟨k_4, n_4⟩ ⟨k_5, n_5⟩).k, (Xf.meetV ⟨k_4, n_4⟩ ⟨k_5, n_5⟩).n⟩ = Xf.meetV ⟨(Xf.apply ⟨k_1, b_1, c_1⟩ ⟨k_4, n_4⟩).k, (Xf.apply ⟨k_1, b_1, c_1⟩ ⟨k_4, n_4⟩).n⟩ ⟨(Xf.apply ⟨k_1, b_1, c_1⟩ ⟨k_5, n_5⟩).k, (Xf.apply ⟨k_1, b_1, c_1⟩ ⟨k_5, n_5⟩).n⟩ := Xf.apply_meetV h1 h2 h3 f4 f5
  go_enter Try.func8, Try.ntmps8
  go_upto_region 1 with fail
  refine wp_named (fun W => ∃ b0 b1 b2, w.heap.size = b0 ∧ w.heap.size + 1 = b1 ∧ w.heap.size + 1 + 1 = b2 ∧ Blk W b0 [.int .i64 k_1, .int .i64 b_1, .int .i64 c_1] ∧ Blk W b1 [.int .i64 k_4, .int .i64 n_4] ∧ Blk W b2 [.int .i64 k_5, .int .i64 n_5] ∧ Below w.heap.size w W) ⟨_, _, _, rfl, rfl, rfl, ?_, ?_, ?_, ?_⟩ ?_
  · exact ((Blk.new _ _ _ _ (by simp)).alloc _).alloc _
  · exact (Blk.new _ _ _ _ (by simp)).alloc _
  · exact Blk.new _ _ _ _ (by simp)
  · go_grown
  rintro W ⟨b0, b1, b2, e0, e1, e2, B0, B1, B2, hB⟩
  rw [e2, e1, e0]
  have G0 : w.heap.size ≤ b0 := by omega
  have n01 : b0 ≠ b1 := by omega
  have n02 : b0 ≠ b2 := by omega
  have G1 : w.heap.size ≤ b1 := by omega
  have n10 : b1 ≠ b0 := by omega
  have n12 : b1 ≠ b2 := by omega
  have G2 : w.heap.size ≤ b2 := by omega
  have n20 : b2 ≠ b0 := by omega
  have n21 : b2 ≠ b1 := by omega
  clear e0 e1 e2
  have ⟨L0, C0, F0⟩ := B0
  have ⟨L1, C1, F1⟩ := B1
  have ⟨L2, C2, F2⟩ := B2
  go_wp2_with fail
  refine (right_true _ _ _ _ _ _ _ _ _ _ _ _ _ _ h1 h1 h1 h2 h3).mono ?_
  rintro e w1 ⟨rfl, hb1⟩
  have hk1 : Kept [] W w1 := Kept.call (Kept.refl _ _) hb1
  have ⟨hc1, hf1, hg1⟩ := hk1.rules
  go_wp2_with fail
  go_region_held3 (fun w' => SX0 W w') (repeat' first | (with_reducible assumption) | (with_reducible exact SX0.init _) | (with_reducible exact SX0.refl _) | (with_reducible refine SX0.alloc ?_ _) | (with_reducible refine SX0.call ?_ (by assumption)) | (with_reducible refine SX0.set ?_ _ _ _ ?_) | (with_reducible refine SX0.drew ?_) | (simp; done) | omega | (simp; omega))
    (first | (go_at_call 23; refine (meetV_any _ _ _ _ _).mono ?_; rintro e w2 ⟨rfl, hb2⟩) | (go_at_call 22; refine (apply_any _ _ _ _ _ _).mono ?_; rintro e w3 ⟨rfl, hb3⟩) | (go_at_call 11; refine (knows_any _).mono ?_; rintro e w4 ⟨rfl, hb4⟩))
  go_wp2_with fail
  go_ret
  exact ⟨rfl, Kept.below (X := []) hB hB.size (by simp) (by (repeat' first | (with_reducible assumption) | (with_reducible exact Kept.refl _ _) | (with_reducible refine Kept.alloc ?_ _) | (with_reducible refine Kept.call ?_ (by assumption)) | (with_reducible refine Kept.set ?_ _ _ _ (Or.inr ?_)) | (with_reducible refine Kept.drew ?_) | (simp; done) | omega | (simp; omega)))⟩

set_option maxHeartbeats 2000000 in
theorem xformDistributes_false (k_1 b_1 c_1 k_4 n_4 k_5 n_5 : Int) (w : World) (h : ¬ (Xf.rcheck ⟨k_1, b_1, c_1⟩ = 0 ∧ Xf.rcheckV ⟨k_4, n_4⟩ = 0 ∧ Xf.rcheckV ⟨k_5, n_5⟩ = 0)) :
    Calls Try.prog 8 #[.agg #[.int .i64 k_1, .int .i64 b_1, .int .i64 c_1], .agg #[.int .i64 k_4, .int .i64 n_4], .agg #[.int .i64 k_5, .int .i64 n_5]] w fun e w' => e = .returned (.bool true) ∧ Below w.heap.size w w' := by
  have hv0 : Xf.rcheckV ⟨0, 0⟩ = 0 := by decide
  have h' := Lib.hid h
  clear h
  go_enter Try.func8, Try.ntmps8
  go_upto_region 1 with fail
  refine wp_named (fun W => ∃ b0 b1 b2, w.heap.size = b0 ∧ w.heap.size + 1 = b1 ∧ w.heap.size + 1 + 1 = b2 ∧ Blk W b0 [.int .i64 k_1, .int .i64 b_1, .int .i64 c_1] ∧ Blk W b1 [.int .i64 k_4, .int .i64 n_4] ∧ Blk W b2 [.int .i64 k_5, .int .i64 n_5] ∧ Below w.heap.size w W) ⟨_, _, _, rfl, rfl, rfl, ?_, ?_, ?_, ?_⟩ ?_
  · exact ((Blk.new _ _ _ _ (by simp)).alloc _).alloc _
  · exact (Blk.new _ _ _ _ (by simp)).alloc _
  · exact Blk.new _ _ _ _ (by simp)
  · go_grown
  rintro W ⟨b0, b1, b2, e0, e1, e2, B0, B1, B2, hB⟩
  rw [e2, e1, e0]
  have G0 : w.heap.size ≤ b0 := by omega
  have n01 : b0 ≠ b1 := by omega
  have n02 : b0 ≠ b2 := by omega
  have G1 : w.heap.size ≤ b1 := by omega
  have n10 : b1 ≠ b0 := by omega
  have n12 : b1 ≠ b2 := by omega
  have G2 : w.heap.size ≤ b2 := by omega
  have n20 : b2 ≠ b0 := by omega
  have n21 : b2 ≠ b1 := by omega
  clear e0 e1 e2
  have ⟨L0, C0, F0⟩ := B0
  have ⟨L1, C1, F1⟩ := B1
  have ⟨L2, C2, F2⟩ := B2
  go_wp2_with fail
  refine (right_false _ _ _ _ _ _ _ _ _ _ _ _ _ _ (by have h := h'.out; simp_all; try (intros; simp_all))).mono ?_
  rintro e w1 ⟨rfl, hb1⟩
  have hk1 : Kept [] W w1 := Kept.call (Kept.refl _ _) hb1
  go_wp2_with fail
  refine (knows_any _).mono ?_
  rintro e w2 ⟨rfl, hb2⟩
  have hk2 : Kept [] W w2 := Kept.call hk1 hb2
  go_wp2_with fail
  go_ret
  exact ⟨rfl, Kept.below (X := []) hB hB.size (by simp) (by (repeat' first | (with_reducible assumption) | (with_reducible exact Kept.refl _ _) | (with_reducible refine Kept.alloc ?_ _) | (with_reducible refine Kept.call ?_ (by assumption)) | (with_reducible refine Kept.set ?_ _ _ _ (Or.inr ?_)) | (with_reducible refine Kept.drew ?_) | (simp; done) | omega | (simp; omega)))⟩

end Go.Proofs.Ytlchpfonbajgcaa
