/- The walks of the laws of layer 32. -/
import Derived.Test.YtlchpfonbajgcaaJ
namespace Go.Proofs.Ytlchpfonbajgcaa
open Go.RowKit Go.Df
attribute [local go_sem ↓] Go.wp_at_zero Go.wp_at_succ

set_option maxHeartbeats 1000000 in
theorem xformCheck_walk (k_1 b_1 c_1 k_2 n_2 : Int) (w : World) :
    Calls Try.prog 6 #[.agg #[.int .i64 k_1, .int .i64 b_1, .int .i64 c_1], .agg #[.int .i64 k_2, .int .i64 n_2]] w fun e w' => e = .returned (.bool true) ∧ Below w.heap.size w w' := by
  go_enter Try.func6, Try.ntmps6
  go_upto_region 1 with fail
  refine wp_named (fun W => ∃ b0 b1, w.heap.size = b0 ∧ w.heap.size + 1 = b1 ∧ Blk W b0 [.int .i64 k_1, .int .i64 b_1, .int .i64 c_1] ∧ Blk W b1 [.int .i64 k_2, .int .i64 n_2] ∧ Below w.heap.size w W) ⟨_, _, rfl, rfl, ?_, ?_, ?_⟩ ?_
  · exact (Blk.new _ _ _ _ (by simp)).alloc _
  · exact Blk.new _ _ _ _ (by simp)
  · go_grown
  rintro W ⟨b0, b1, e0, e1, B0, B1, hB⟩
  rw [e1, e0]
  have G0 : w.heap.size ≤ b0 := by omega
  have n01 : b0 ≠ b1 := by omega
  have G1 : w.heap.size ≤ b1 := by omega
  have n10 : b1 ≠ b0 := by omega
  clear e0 e1
  have ⟨L0, C0, F0⟩ := B0
  have ⟨L1, C1, F1⟩ := B1
  go_region_held3 (fun w' => SX0 W w') (repeat' first | (with_reducible assumption) | (with_reducible exact SX0.init _) | (with_reducible exact SX0.refl _) | (with_reducible refine SX0.alloc ?_ _) | (with_reducible refine SX0.call ?_ (by assumption)) | (with_reducible refine SX0.set ?_ _ _ _ ?_) | (with_reducible refine SX0.drew ?_) | (simp; done) | omega | (simp; omega))
    (first | (go_at_call 18; refine (check_any _ _ _ _).mono ?_; rintro e w1 ⟨rfl, hb1⟩) | (go_at_call 19; refine (rcheck_ok _ _ _ _).mono ?_; rintro e w2 ⟨rfl, hb2⟩) | (go_at_call 20; refine (checkV_any _ _ _).mono ?_; rintro e w3 ⟨rfl, hb3⟩) | (go_at_call 21; refine (rcheckV_ok _ _ _).mono ?_; rintro e w4 ⟨rfl, hb4⟩) | (go_at_call 11; refine (knows_any _).mono ?_; rintro e w5 ⟨rfl, hb5⟩))
  go_wp2_with fail
  go_ret
  exact ⟨rfl, Kept.below (X := []) hB hB.size (by simp) (by (repeat' first | (with_reducible assumption) | (with_reducible exact Kept.refl _ _) | (with_reducible refine Kept.alloc ?_ _) | (with_reducible refine Kept.call ?_ (by assumption)) | (with_reducible refine Kept.set ?_ _ _ _ (Or.inr ?_)) | (with_reducible refine Kept.drew ?_) | (simp; done) | omega | (simp; omega)))⟩

set_option maxHeartbeats 2000000 in
theorem xformCompose_true (k_1 b_1 c_1 k_2 b_2 c_2 : Int) (w : World) (h1 : Xf.rcheck ⟨k_1, b_1, c_1⟩ = 0) (h2 : Xf.rcheck ⟨k_2, b_2, c_2⟩ = 0) :
    Calls Try.prog 3 #[.agg #[.int .i64 k_1, .int .i64 b_1, .int .i64 c_1], .agg #[.int .i64 k_2, .int .i64 b_2, .int .i64 c_2]] w fun e w' => e = .returned (.bool true) ∧ Below w.heap.size w w' := by
  have hv0 : Xf.rcheckV ⟨0, 0⟩ = 0 := by decide
  go_enter Try.func3, Try.ntmps3
  go_upto_region 1 with fail
  refine wp_named (fun W => ∃ b0 b1, w.heap.size = b0 ∧ w.heap.size + 1 = b1 ∧ Blk W b0 [.int .i64 k_1, .int .i64 b_1, .int .i64 c_1] ∧ Blk W b1 [.int .i64 k_2, .int .i64 b_2, .int .i64 c_2] ∧ Below w.heap.size w W) ⟨_, _, rfl, rfl, ?_, ?_, ?_⟩ ?_
  · exact (Blk.new _ _ _ _ (by simp)).alloc _
  · exact Blk.new _ _ _ _ (by simp)
  · go_grown
  rintro W ⟨b0, b1, e0, e1, B0, B1, hB⟩
  rw [e1, e0]
  have G0 : w.heap.size ≤ b0 := by omega
  have n01 : b0 ≠ b1 := by omega
  have G1 : w.heap.size ≤ b1 := by omega
  have n10 : b1 ≠ b0 := by omega
  clear e0 e1
  have ⟨L0, C0, F0⟩ := B0
  have ⟨L1, C1, F1⟩ := B1
  go_wp2_with fail
  refine (right_true _ _ _ _ _ _ _ _ _ _ _ _ _ _ h1 h2 h2 hv0 hv0).mono ?_
  rintro e w1 ⟨rfl, hb1⟩
  have hk1 : Kept [] W w1 := Kept.call (Kept.refl _ _) hb1
  have ⟨hc1, hf1, hg1⟩ := hk1.rules
  go_wp2_with fail
  go_region_held3 (fun w' => SX0 W w') (repeat' first | (with_reducible assumption) | (with_reducible exact SX0.init _) | (with_reducible exact SX0.refl _) | (with_reducible refine SX0.alloc ?_ _) | (with_reducible refine SX0.call ?_ (by assumption)) | (with_reducible refine SX0.set ?_ _ _ _ ?_) | (with_reducible refine SX0.drew ?_) | (simp; done) | omega | (simp; omega))
    (first | (go_at_call 12; refine (compose_any _ _ _ _ _ _ _).mono ?_; rintro e w2 ⟨rfl, hb2⟩) | (go_at_call 13; refine (rcompose_ok _ _ _ _ _ _ _ h1 h2).mono ?_; rintro e w3 ⟨rfl, hb3⟩) | (go_at_call 14; refine (meet_ok _ _ _ _ _ _ _ h1 h2).mono ?_; rintro e w4 ⟨rfl, hb4⟩) | (go_at_call 15; refine (rmeet_ok _ _ _ _ _ _ _ h1 h2).mono ?_; rintro e w5 ⟨rfl, hb5⟩) | (go_at_call 16; refine (steps_any _ _ _ _).mono ?_; rintro e w6 ⟨rfl, hb6⟩) | (go_at_call 17; refine (rsteps_any _ _ _ _).mono ?_; rintro e w7 ⟨rfl, hb7⟩) | (go_at_call 11; refine (knows_any _).mono ?_; rintro e w8 ⟨rfl, hb8⟩))
  go_wp2_with fail
  go_ret
  exact ⟨rfl, Kept.below (X := []) hB hB.size (by simp) (by (repeat' first | (with_reducible assumption) | (with_reducible exact Kept.refl _ _) | (with_reducible refine Kept.alloc ?_ _) | (with_reducible refine Kept.call ?_ (by assumption)) | (with_reducible refine Kept.set ?_ _ _ _ (Or.inr ?_)) | (with_reducible refine Kept.drew ?_) | (simp; done) | omega | (simp; omega)))⟩

set_option maxHeartbeats 2000000 in
theorem xformCompose_false (k_1 b_1 c_1 k_2 b_2 c_2 : Int) (w : World) (h : ¬ (Xf.rcheck ⟨k_1, b_1, c_1⟩ = 0 ∧ Xf.rcheck ⟨k_2, b_2, c_2⟩ = 0)) :
    Calls Try.prog 3 #[.agg #[.int .i64 k_1, .int .i64 b_1, .int .i64 c_1], .agg #[.int .i64 k_2, .int .i64 b_2, .int .i64 c_2]] w fun e w' => e = .returned (.bool true) ∧ Below w.heap.size w w' := by
  have hv0 : Xf.rcheckV ⟨0, 0⟩ = 0 := by decide
  have h' := Lib.hid h
  clear h
  go_enter Try.func3, Try.ntmps3
  go_upto_region 1 with fail
  refine wp_named (fun W => ∃ b0 b1, w.heap.size = b0 ∧ w.heap.size + 1 = b1 ∧ Blk W b0 [.int .i64 k_1, .int .i64 b_1, .int .i64 c_1] ∧ Blk W b1 [.int .i64 k_2, .int .i64 b_2, .int .i64 c_2] ∧ Below w.heap.size w W) ⟨_, _, rfl, rfl, ?_, ?_, ?_⟩ ?_
  · exact (Blk.new _ _ _ _ (by simp)).alloc _
  · exact Blk.new _ _ _ _ (by simp)
  · go_grown
  rintro W ⟨b0, b1, e0, e1, B0, B1, hB⟩
  rw [e1, e0]
  have G0 : w.heap.size ≤ b0 := by omega
  have n01 : b0 ≠ b1 := by omega
  have G1 : w.heap.size ≤ b1 := by omega
  have n10 : b1 ≠ b0 := by omega
  clear e0 e1
  have ⟨L0, C0, F0⟩ := B0
  have ⟨L1, C1, F1⟩ := B1
  go_wp2_with fail
  refine (right_false _ _ _ _ _ _ _ _ _ _ _ _ _ _ (by have h := h'.out; simp_all; try (intros; simp_all))).mono ?_
  rintro e w1 ⟨rfl, hb1⟩
  have hk1 : Kept [] W w1 := Kept.call (Kept.refl _ _) hb1
  go_wp2_with fail
  refine (knows_any _).mono ?_
  rintro e w2 ⟨rfl, hb2⟩
  have hk2 : Kept [] W w2 := Kept.call hk1 hb2
  go_wp2_with fail
  go_ret
  exact ⟨rfl, Kept.below (X := []) hB hB.size (by simp) (by (repeat' first | (with_reducible assumption) | (with_reducible exact Kept.refl _ _) | (with_reducible refine Kept.alloc ?_ _) | (with_reducible refine Kept.call ?_ (by assumption)) | (with_reducible refine Kept.set ?_ _ _ _ (Or.inr ?_)) | (with_reducible refine Kept.drew ?_) | (simp; done) | omega | (simp; omega)))⟩

end Go.Proofs.Ytlchpfonbajgcaa
