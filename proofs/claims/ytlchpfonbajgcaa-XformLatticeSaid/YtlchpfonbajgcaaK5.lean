/- The walks of the laws of layer 32. -/
import Derived.Test.YtlchpfonbajgcaaJ
namespace Go.Proofs.Ytlchpfonbajgcaa
open Go.RowKit Go.Df
attribute [local go_sem ↓] Go.wp_at_zero Go.wp_at_succ

set_option maxHeartbeats 2000000 in
theorem xformLattice_true (k_1 b_1 c_1 k_2 b_2 c_2 k_3 b_3 c_3 : Int) (w : World) (h1 : Xf.rcheck ⟨k_1, b_1, c_1⟩ = 0) (h2 : Xf.rcheck ⟨k_2, b_2, c_2⟩ = 0) (h3 : Xf.rcheck ⟨k_3, b_3, c_3⟩ = 0) (fb1 : wrap64 b_1 = b_1) (fc1 : wrap64 c_1 = c_1) (fb2 : wrap64 b_2 = b_2) (fc2 : wrap64 c_2 = c_2) (fb3 : wrap64 b_3 = b_3) (fc3 : wrap64 c_3 = c_3) :
    Calls Try.prog 4 #[.agg #[.int .i64 k_1, .int .i64 b_1, .int .i64 c_1], .agg #[.int .i64 k_2, .int .i64 b_2, .int .i64 c_2], .agg #[.int .i64 k_3, .int .i64 b_3, .int .i64 c_3]] w fun e w' => e = .returned (.bool true) ∧ Below w.heap.size w w' := by
  have hv0 : Xf.rcheckV ⟨0, 0⟩ = 0 := by decide
  have q1 : Xf.compose ⟨(Xf.compose ⟨k_1, b_1, c_1⟩ ⟨k_2, b_2, c_2⟩).k, (Xf.compose ⟨k_1, b_1, c_1⟩ ⟨k_2, b_2, c_2⟩).b, (Xf.compose ⟨k_1, b_1, c_1⟩ ⟨k_2, b_2, c_2⟩).c⟩ ⟨k_3, b_3, c_3⟩ = Xf.compose ⟨k_1, b_1, c_1⟩ ⟨(Xf.compose ⟨k_2, b_2, c_2⟩ ⟨k_3, b_3, c_3⟩).k, (Xf.compose ⟨k_2, b_2, c_2⟩ ⟨k_3, b_3, c_3⟩).b, (Xf.compose ⟨k_2, b_2, c_2⟩ ⟨k_3, b_3, c_3⟩).c⟩ := Xf.compose_assoc h1 h2 h3 ⟨fb1, fc1⟩ ⟨fb2, fc2⟩
  have q2 : Xf.meet ⟨(Xf.meet ⟨k_1, b_1, c_1⟩ ⟨k_2, b_2, c_2⟩).k, (Xf.meet ⟨k_1, b_1, c_1⟩ ⟨k_2, b_2, c_2⟩).b, (Xf.meet ⟨k_1, b_1, c_1⟩ ⟨k_2, b_2, c_2⟩).c⟩ ⟨k_3, b_3, c_3⟩ = Xf.meet ⟨k_1, b_1, c_1⟩ ⟨(Xf.meet ⟨k_2, b_2, c_2⟩ ⟨k_3, b_3, c_3⟩).k, (Xf.meet ⟨k_2, b_2, c_2⟩ ⟨k_3, b_3, c_3⟩).b, (Xf.meet ⟨k_2, b_2, c_2⟩ ⟨k_3, b_3, c_3⟩).c⟩ := Xf.meet_assoc h1 h2 h3
  have v12 : Xf.rcheck ⟨(Xf.meet ⟨k_1, b_1, c_1⟩ ⟨k_2, b_2, c_2⟩).k, (Xf.meet ⟨k_1, b_1, c_1⟩ ⟨k_2, b_2, c_2⟩).b, (Xf.meet ⟨k_1, b_1, c_1⟩ ⟨k_2, b_2, c_2⟩).c⟩ = 0 := Xf.check_meet h1 h2
  have v23 : Xf.rcheck ⟨(Xf.meet ⟨k_2, b_2, c_2⟩ ⟨k_3, b_3, c_3⟩).k, (Xf.meet ⟨k_2, b_2, c_2⟩ ⟨k_3, b_3, c_3⟩).b, (Xf.meet ⟨k_2, b_2, c_2⟩ ⟨k_3, b_3, c_3⟩).c⟩ = 0 := Xf.check_meet h2 h3
  have q3 : Xf.meet ⟨k_1, b_1, c_1⟩ ⟨k_2, b_2, c_2⟩ = Xf.meet ⟨k_2, b_2, c_2⟩ ⟨k_1, b_1, c_1⟩ := Xf.meet_comm h1 h2
  have q4 : Xf.meet ⟨k_1, b_1, c_1⟩ ⟨k_1, b_1, c_1⟩ = ⟨k_1, b_1, c_1⟩ := Xf.meet_self _
  have q5 : Xf.meet ⟨k_1, b_1, c_1⟩ ⟨0, 0, 0⟩ = ⟨k_1, b_1, c_1⟩ := Xf.meet_top _
  have vt : Xf.rcheck ⟨0, 0, 0⟩ = 0 := by decide
  have u12 : Xf.rcheck ⟨(Xf.compose ⟨k_1, b_1, c_1⟩ ⟨k_2, b_2, c_2⟩).k, (Xf.compose ⟨k_1, b_1, c_1⟩ ⟨k_2, b_2, c_2⟩).b, (Xf.compose ⟨k_1, b_1, c_1⟩ ⟨k_2, b_2, c_2⟩).c⟩ = 0 := Xf.check_compose h1 h2
  have u13 : Xf.rcheck ⟨(Xf.compose ⟨k_1, b_1, c_1⟩ ⟨k_3, b_3, c_3⟩).k, (Xf.compose ⟨k_1, b_1, c_1⟩ ⟨k_3, b_3, c_3⟩).b, (Xf.compose ⟨k_1, b_1, c_1⟩ ⟨k_3, b_3, c_3⟩).c⟩ = 0 := Xf.check_compose h1 h3
  have u23 : Xf.rcheck ⟨(Xf.compose ⟨k_2, b_2, c_2⟩ ⟨k_3, b_3, c_3⟩).k, (Xf.compose ⟨k_2, b_2, c_2⟩ ⟨k_3, b_3, c_3⟩).b, (Xf.compose ⟨k_2, b_2, c_2⟩ ⟨k_3, b_3, c_3⟩).c⟩ = 0 := Xf.check_compose h2 h3
  have q6 : Xf.compose ⟨k_1, b_1, c_1⟩ ⟨(Xf.meet ⟨k_2, b_2, c_2⟩ ⟨k_3, b_3, c_3⟩).k, (Xf.meet ⟨k_2, b_2, c_2⟩ ⟨k_3, b_3, c_3⟩).b, (Xf.meet ⟨k_2, b_2, c_2⟩ ⟨k_3, b_3, c_3⟩).c⟩ = Xf.meet ⟨(Xf.compose ⟨k_1, b_1, c_1⟩ ⟨k_2, b_2, c_2⟩).k, (Xf.compose ⟨k_1, b_1, c_1⟩ ⟨k_2, b_2, c_2⟩).b, (Xf.compose ⟨k_1, b_1, c_1⟩ ⟨k_2, b_2, c_2⟩).c⟩ ⟨(Xf.compose ⟨k_1, b_1, c_1⟩ ⟨k_3, b_3, c_3⟩).k, (Xf.compose ⟨k_1, b_1, c_1⟩ ⟨k_3, b_3, c_3⟩).b, (Xf.compose ⟨k_1, b_1, c_1⟩ ⟨k_3, b_3, c_3⟩).c⟩ := Xf.compose_meet h1 h2 h3 ⟨fb2, fc2⟩ ⟨fb3, fc3⟩
  have q7 : Xf.compose ⟨(Xf.meet ⟨k_1, b_1, c_1⟩ ⟨k_2, b_2, c_2⟩).k, (Xf.meet ⟨k_1, b_1, c_1⟩ ⟨k_2, b_2, c_2⟩).b, (Xf.meet ⟨k_1, b_1, c_1⟩ ⟨k_2, b_2, c_2⟩).c⟩ ⟨k_3, b_3, c_3⟩ = Xf.meet ⟨(Xf.compose ⟨k_1, b_1, c_1⟩ ⟨k_3, b_3, c_3⟩).k, (Xf.compose ⟨k_1, b_1, c_1⟩ ⟨k_3, b_3, c_3⟩).b, (Xf.compose ⟨k_1, b_1, c_1⟩ ⟨k_3, b_3, c_3⟩).c⟩ ⟨(Xf.compose ⟨k_2, b_2, c_2⟩ ⟨k_3, b_3, c_3⟩).k, (Xf.compose ⟨k_2, b_2, c_2⟩ ⟨k_3, b_3, c_3⟩).b, (Xf.compose ⟨k_2, b_2, c_2⟩ ⟨k_3, b_3, c_3⟩).c⟩ := Xf.meet_compose h1 h2 h3 ⟨fb1, fc1⟩ ⟨fb2, fc2⟩
  have Q1 := Lib.hid q1
  have Q2 := Lib.hid q2
  have Q3 := Lib.hid q3
  have Q4 := Lib.hid q4
  have Q5 := Lib.hid q5
  have Q6 := Lib.hid q6
  have Q7 := Lib.hid q7
  clear q1 q2 q3 q4 q5 q6 q7
  go_enter Try.func4, Try.ntmps4
  go_upto_region 1 with fail
  refine wp_named (fun W => ∃ b0 b1 b2, w.heap.size = b0 ∧ w.heap.size + 1 = b1 ∧ w.heap.size + 1 + 1 = b2 ∧ Blk W b0 [.int .i64 k_1, .int .i64 b_1, .int .i64 c_1] ∧ Blk W b1 [.int .i64 k_2, .int .i64 b_2, .int .i64 c_2] ∧ Blk W b2 [.int .i64 k_3, .int .i64 b_3, .int .i64 c_3] ∧ Below w.heap.size w W) ⟨_, _, _, rfl, rfl, rfl, ?_, ?_, ?_, ?_⟩ ?_
  · exact ((Blk.new _ _ _ _ (by simp)).alloc _).alloc _
  · exact (Blk.new _ _ _ _ (by simp)).alloc _
  · exact Blk.new _ _ _ _ (by simp)
  · go_grown
  rintro W ⟨b0, b1, b2, e0, e1, e2, B0, B1, B2, hB⟩
  rw [e2, e1, e0]
  have G0 : w.heap.size ≤ b0 := by omega
  have n01 : b0 ≠ b1 := by omega
  have n02 : b0 ≠ b2 := by omega
  have G1 : w.heap.size ≤ b1 := by omega
  have n10 : b1 ≠ b0 := by omega
  have n12 : b1 ≠ b2 := by omega
  have G2 : w.heap.size ≤ b2 := by omega
  have n20 : b2 ≠ b0 := by omega
  have n21 : b2 ≠ b1 := by omega
  clear e0 e1 e2
  have ⟨L0, C0, F0⟩ := B0
  have ⟨L1, C1, F1⟩ := B1
  have ⟨L2, C2, F2⟩ := B2
  go_wp2_with fail
  refine (right_true _ _ _ _ _ _ _ _ _ _ _ _ _ _ h1 h2 h3 hv0 hv0).mono ?_
  rintro e w1 ⟨rfl, hb1⟩
  have hk1 : Kept [] W w1 := Kept.call (Kept.refl _ _) hb1
  have ⟨hc1, hf1, hg1⟩ := hk1.rules
  go_wp2_with fail
  have q1 := Q1.out
  have q2 := Q2.out
  go_region_held3 (fun w' => SX0 W w') (repeat' first | (with_reducible assumption) | (with_reducible exact SX0.init _) | (with_reducible exact SX0.refl _) | (with_reducible refine SX0.alloc ?_ _) | (with_reducible refine SX0.call ?_ (by assumption)) | (with_reducible refine SX0.set ?_ _ _ _ ?_) | (with_reducible refine SX0.drew ?_) | (simp; done) | omega | (simp; omega))
    (first | (go_at_call 12; refine (compose_any _ _ _ _ _ _ _).mono ?_; rintro e w2 ⟨rfl, hb2⟩) | (go_at_call 14; refine (meet_ok _ _ _ _ _ _ _ (by assumption) (by assumption)).mono ?_; rintro e w3 ⟨rfl, hb3⟩) | (go_at_call 11; refine (knows_any _).mono ?_; rintro e w4 ⟨rfl, hb4⟩))
  clear q1 q2
  go_wp2_with fail
  have q3 := Q3.out
  have q4 := Q4.out
  have q5 := Q5.out
  go_region_held3 (fun w' => SX0 W w') (repeat' first | (with_reducible assumption) | (with_reducible exact SX0.init _) | (with_reducible exact SX0.refl _) | (with_reducible refine SX0.alloc ?_ _) | (with_reducible refine SX0.call ?_ (by assumption)) | (with_reducible refine SX0.set ?_ _ _ _ ?_) | (with_reducible refine SX0.drew ?_) | (simp; done) | omega | (simp; omega))
    (first | (go_at_call 12; refine (compose_any _ _ _ _ _ _ _).mono ?_; rintro e w2 ⟨rfl, hb2⟩) | (go_at_call 14; refine (meet_ok _ _ _ _ _ _ _ (by assumption) (by assumption)).mono ?_; rintro e w3 ⟨rfl, hb3⟩) | (go_at_call 11; refine (knows_any _).mono ?_; rintro e w4 ⟨rfl, hb4⟩))
  clear q3 q4 q5
  go_wp2_with fail
  have q6 := Q6.out
  have q7 := Q7.out
  go_region_held3 (fun w' => SX0 W w') (repeat' first | (with_reducible assumption) | (with_reducible exact SX0.init _) | (with_reducible exact SX0.refl _) | (with_reducible refine SX0.alloc ?_ _) | (with_reducible refine SX0.call ?_ (by assumption)) | (with_reducible refine SX0.set ?_ _ _ _ ?_) | (with_reducible refine SX0.drew ?_) | (simp; done) | omega | (simp; omega))
    (first | (go_at_call 12; refine (compose_any _ _ _ _ _ _ _).mono ?_; rintro e w2 ⟨rfl, hb2⟩) | (go_at_call 14; refine (meet_ok _ _ _ _ _ _ _ (by assumption) (by assumption)).mono ?_; rintro e w3 ⟨rfl, hb3⟩) | (go_at_call 11; refine (knows_any _).mono ?_; rintro e w4 ⟨rfl, hb4⟩))
  go_wp2_with fail
  go_ret
  exact ⟨rfl, Kept.below (X := []) hB hB.size (by simp) (by (repeat' first | (with_reducible assumption) | (with_reducible exact Kept.refl _ _) | (with_reducible refine Kept.alloc ?_ _) | (with_reducible refine Kept.call ?_ (by assumption)) | (with_reducible refine Kept.set ?_ _ _ _ (Or.inr ?_)) | (with_reducible refine Kept.drew ?_) | (simp; done) | omega | (simp; omega)))⟩

set_option maxHeartbeats 2000000 in
theorem xformLattice_false (k_1 b_1 c_1 k_2 b_2 c_2 k_3 b_3 c_3 : Int) (w : World) (h : ¬ (Xf.rcheck ⟨k_1, b_1, c_1⟩ = 0 ∧ Xf.rcheck ⟨k_2, b_2, c_2⟩ = 0 ∧ Xf.rcheck ⟨k_3, b_3, c_3⟩ = 0)) :
    Calls Try.prog 4 #[.agg #[.int .i64 k_1, .int .i64 b_1, .int .i64 c_1], .agg #[.int .i64 k_2, .int .i64 b_2, .int .i64 c_2], .agg #[.int .i64 k_3, .int .i64 b_3, .int .i64 c_3]] w fun e w' => e = .returned (.bool true) ∧ Below w.heap.size w w' := by
  have hv0 : Xf.rcheckV ⟨0, 0⟩ = 0 := by decide
  have h' := Lib.hid h
  clear h
  go_enter Try.func4, Try.ntmps4
  go_upto_region 1 with fail
  refine wp_named (fun W => ∃ b0 b1 b2, w.heap.size = b0 ∧ w.heap.size + 1 = b1 ∧ w.heap.size + 1 + 1 = b2 ∧ Blk W b0 [.int .i64 k_1, .int .i64 b_1, .int .i64 c_1] ∧ Blk W b1 [.int .i64 k_2, .int .i64 b_2, .int .i64 c_2] ∧ Blk W b2 [.int .i64 k_3, .int .i64 b_3, .int .i64 c_3] ∧ Below w.heap.size w W) ⟨_, _, _, rfl, rfl, rfl, ?_, ?_, ?_, ?_⟩ ?_
  · exact ((Blk.new _ _ _ _ (by simp)).alloc _).alloc _
  · exact (Blk.new _ _ _ _ (by simp)).alloc _
  · exact Blk.new _ _ _ _ (by simp)
  · go_grown
  rintro W ⟨b0, b1, b2, e0, e1, e2, B0, B1, B2, hB⟩
  rw [e2, e1, e0]
  have G0 : w.heap.size ≤ b0 := by omega
  have n01 : b0 ≠ b1 := by omega
  have n02 : b0 ≠ b2 := by omega
  have G1 : w.heap.size ≤ b1 := by omega
  have n10 : b1 ≠ b0 := by omega
  have n12 : b1 ≠ b2 := by omega
  have G2 : w.heap.size ≤ b2 := by omega
  have n20 : b2 ≠ b0 := by omega
  have n21 : b2 ≠ b1 := by omega
  clear e0 e1 e2
  have ⟨L0, C0, F0⟩ := B0
  have ⟨L1, C1, F1⟩ := B1
  have ⟨L2, C2, F2⟩ := B2
  go_wp2_with fail
  refine (right_false _ _ _ _ _ _ _ _ _ _ _ _ _ _ (by have h := h'.out; simp_all; try (intros; simp_all))).mono ?_
  rintro e w1 ⟨rfl, hb1⟩
  have hk1 : Kept [] W w1 := Kept.call (Kept.refl _ _) hb1
  go_wp2_with fail
  refine (knows_any _).mono ?_
  rintro e w2 ⟨rfl, hb2⟩
  have hk2 : Kept [] W w2 := Kept.call hk1 hb2
  go_wp2_with fail
  go_ret
  exact ⟨rfl, Kept.below (X := []) hB hB.size (by simp) (by (repeat' first | (with_reducible assumption) | (with_reducible exact Kept.refl _ _) | (with_reducible refine Kept.alloc ?_ _) | (with_reducible refine Kept.call ?_ (by assumption)) | (with_reducible refine Kept.set ?_ _ _ _ (Or.inr ?_)) | (with_reducible refine Kept.drew ?_) | (simp; done) | omega | (simp; omega)))⟩

end Go.Proofs.Ytlchpfonbajgcaa
