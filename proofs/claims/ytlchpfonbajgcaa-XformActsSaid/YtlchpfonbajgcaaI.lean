/- Contracts of the reference's Compose, and of the statements' helpers right and knows. -/
import Derived.Test.YtlchpfonbajgcaaG
import Derived.Test.YtlchpfonbajgcaaH
namespace Go.Proofs.Ytlchpfonbajgcaa
open Go.RowKit Go.Df
attribute [local go_sem ↓] Go.wp_at_zero Go.wp_at_succ

set_option maxHeartbeats 1000000 in
theorem rcompose_any (k b c k' b' c' : Int) (w : World) :
    Calls Try.prog 13 #[.agg #[.int .i64 k, .int .i64 b, .int .i64 c], .agg #[.int .i64 k', .int .i64 b', .int .i64 c']] w fun e w' => e = .returned (.agg #[.int .i64 (Xf.rcompose ⟨k, b, c⟩ ⟨k', b', c'⟩).k, .int .i64 (Xf.rcompose ⟨k, b, c⟩ ⟨k', b', c'⟩).b, .int .i64 (Xf.rcompose ⟨k, b, c⟩ ⟨k', b', c'⟩).c]) ∧ Below w.heap.size w w' := by
  by_cases t1 : (k == 0 || k' == 0 || k' == 1 || k' == 4 || k == 4 || k == 2) = true
  · go_enter Try.func13, Try.ntmps13
    go_wp2_with fail
    all_goals first | (go_returns; exact ⟨ret_x (by simp_all [Xf.rcompose]), by go_grown⟩) | (exfalso; simp_all; done)
  · simp at t1
    by_cases h1 : k = 1
    · subst h1
      exact rcompose1_any b c k' b' c' w (by simp; omega) (by simp; omega) (by simp; omega)
    · exact rcompose3_any k b c k' b' c' w (by simp; omega) (by simp; omega) (by simp; omega) (by simp; omega) (by simp; omega) (by simp; omega) (by simp; omega)

set_option maxHeartbeats 1000000 in
theorem right_true (k_1 b_1 c_1 k_2 b_2 c_2 k_3 b_3 c_3 k_4 n_4 k_5 n_5 : Int) (w : World) (h1 : Xf.rcheck ⟨k_1, b_1, c_1⟩ = 0) (h2 : Xf.rcheck ⟨k_2, b_2, c_2⟩ = 0) (h3 : Xf.rcheck ⟨k_3, b_3, c_3⟩ = 0) (h4 : Xf.rcheckV ⟨k_4, n_4⟩ = 0) (h5 : Xf.rcheckV ⟨k_5, n_5⟩ = 0) :
    Calls Try.prog 10 #[.agg #[.int .i64 k_1, .int .i64 b_1, .int .i64 c_1], .agg #[.int .i64 k_2, .int .i64 b_2, .int .i64 c_2], .agg #[.int .i64 k_3, .int .i64 b_3, .int .i64 c_3], .agg #[.int .i64 k_4, .int .i64 n_4], .agg #[.int .i64 k_5, .int .i64 n_5]] w fun e w' => e = .returned (.bool true) ∧ Below w.heap.size w w' := by
  go_enter Try.func10, Try.ntmps10
  go_upto_region 1 with fail
  refine wp_named (fun W => ∃ b0 b1 b2 b3 b4, w.heap.size = b0 ∧ w.heap.size + 1 = b1 ∧ w.heap.size + 1 + 1 = b2 ∧ w.heap.size + 1 + 1 + 1 = b3 ∧ w.heap.size + 1 + 1 + 1 + 1 = b4 ∧ Blk W b0 [.int .i64 k_1, .int .i64 b_1, .int .i64 c_1] ∧ Blk W b1 [.int .i64 k_2, .int .i64 b_2, .int .i64 c_2] ∧ Blk W b2 [.int .i64 k_3, .int .i64 b_3, .int .i64 c_3] ∧ Blk W b3 [.int .i64 k_4, .int .i64 n_4] ∧ Blk W b4 [.int .i64 k_5, .int .i64 n_5] ∧ Below w.heap.size w W) ⟨_, _, _, _, _, rfl, rfl, rfl, rfl, rfl, ?_, ?_, ?_, ?_, ?_, ?_⟩ ?_
  · exact ((((Blk.new _ _ _ _ (by simp)).alloc _).alloc _).alloc _).alloc _
  · exact (((Blk.new _ _ _ _ (by simp)).alloc _).alloc _).alloc _
  · exact ((Blk.new _ _ _ _ (by simp)).alloc _).alloc _
  · exact (Blk.new _ _ _ _ (by simp)).alloc _
  · exact Blk.new _ _ _ _ (by simp)
  · go_grown
  rintro W ⟨b0, b1, b2, b3, b4, e0, e1, e2, e3, e4, B0, B1, B2, B3, B4, hB⟩
  rw [e4, e3, e2, e1, e0]
  have G0 : w.heap.size ≤ b0 := by omega
  have n01 : b0 ≠ b1 := by omega
  have n02 : b0 ≠ b2 := by omega
  have n03 : b0 ≠ b3 := by omega
  have n04 : b0 ≠ b4 := by omega
  have G1 : w.heap.size ≤ b1 := by omega
  have n10 : b1 ≠ b0 := by omega
  have n12 : b1 ≠ b2 := by omega
  have n13 : b1 ≠ b3 := by omega
  have n14 : b1 ≠ b4 := by omega
  have G2 : w.heap.size ≤ b2 := by omega
  have n20 : b2 ≠ b0 := by omega
  have n21 : b2 ≠ b1 := by omega
  have n23 : b2 ≠ b3 := by omega
  have n24 : b2 ≠ b4 := by omega
  have G3 : w.heap.size ≤ b3 := by omega
  have n30 : b3 ≠ b0 := by omega
  have n31 : b3 ≠ b1 := by omega
  have n32 : b3 ≠ b2 := by omega
  have n34 : b3 ≠ b4 := by omega
  have G4 : w.heap.size ≤ b4 := by omega
  have n40 : b4 ≠ b0 := by omega
  have n41 : b4 ≠ b1 := by omega
  have n42 : b4 ≠ b2 := by omega
  have n43 : b4 ≠ b3 := by omega
  clear e0 e1 e2 e3 e4
  have ⟨L0, C0, F0⟩ := B0
  have ⟨L1, C1, F1⟩ := B1
  have ⟨L2, C2, F2⟩ := B2
  have ⟨L3, C3, F3⟩ := B3
  have ⟨L4, C4, F4⟩ := B4
  go_wp2_with (first | (go_at_call 19; refine (rcheck_any _ _ _ _).mono ?_; rintro e w1 ⟨rfl, hb1⟩; have hk1 : Kept [] W w1 := Kept.call (by (repeat' first | (with_reducible assumption) | (with_reducible exact Kept.refl _ _) | (with_reducible refine Kept.alloc ?_ _) | (with_reducible refine Kept.call ?_ (by assumption)) | (with_reducible refine Kept.set ?_ _ _ _ (Or.inr ?_)) | (with_reducible refine Kept.drew ?_) | (simp; done) | omega | (simp; omega))) hb1; have ⟨hc1, hf1, hg1⟩ := hk1.rules; have hz1 := hk1.size) | (go_at_call 21; refine (rcheckV_any _ _ _).mono ?_; rintro e w2 ⟨rfl, hb2⟩; have hk2 : Kept [] W w2 := Kept.call (by (repeat' first | (with_reducible assumption) | (with_reducible exact Kept.refl _ _) | (with_reducible refine Kept.alloc ?_ _) | (with_reducible refine Kept.call ?_ (by assumption)) | (with_reducible refine Kept.set ?_ _ _ _ (Or.inr ?_)) | (with_reducible refine Kept.drew ?_) | (simp; done) | omega | (simp; omega))) hb2; have ⟨hc2, hf2, hg2⟩ := hk2.rules; have hz2 := hk2.size))
  go_ret
  exact ⟨rfl, Kept.below (X := []) hB hB.size (by simp) (by (repeat' first | (with_reducible assumption) | (with_reducible exact Kept.refl _ _) | (with_reducible refine Kept.alloc ?_ _) | (with_reducible refine Kept.call ?_ (by assumption)) | (with_reducible refine Kept.set ?_ _ _ _ (Or.inr ?_)) | (with_reducible refine Kept.drew ?_) | (simp; done) | omega | (simp; omega)))⟩

set_option maxHeartbeats 1000000 in
theorem right_false (k_1 b_1 c_1 k_2 b_2 c_2 k_3 b_3 c_3 k_4 n_4 k_5 n_5 : Int) (w : World) (h : ¬ (Xf.rcheck ⟨k_1, b_1, c_1⟩ = 0 ∧ Xf.rcheck ⟨k_2, b_2, c_2⟩ = 0 ∧ Xf.rcheck ⟨k_3, b_3, c_3⟩ = 0 ∧ Xf.rcheckV ⟨k_4, n_4⟩ = 0 ∧ Xf.rcheckV ⟨k_5, n_5⟩ = 0)) :
    Calls Try.prog 10 #[.agg #[.int .i64 k_1, .int .i64 b_1, .int .i64 c_1], .agg #[.int .i64 k_2, .int .i64 b_2, .int .i64 c_2], .agg #[.int .i64 k_3, .int .i64 b_3, .int .i64 c_3], .agg #[.int .i64 k_4, .int .i64 n_4], .agg #[.int .i64 k_5, .int .i64 n_5]] w fun e w' => e = .returned (.bool false) ∧ Below w.heap.size w w' := by
  have h' := Lib.hid h
  clear h
  go_enter Try.func10, Try.ntmps10
  go_upto_region 1 with fail
  refine wp_named (fun W => ∃ b0 b1 b2 b3 b4, w.heap.size = b0 ∧ w.heap.size + 1 = b1 ∧ w.heap.size + 1 + 1 = b2 ∧ w.heap.size + 1 + 1 + 1 = b3 ∧ w.heap.size + 1 + 1 + 1 + 1 = b4 ∧ Blk W b0 [.int .i64 k_1, .int .i64 b_1, .int .i64 c_1] ∧ Blk W b1 [.int .i64 k_2, .int .i64 b_2, .int .i64 c_2] ∧ Blk W b2 [.int .i64 k_3, .int .i64 b_3, .int .i64 c_3] ∧ Blk W b3 [.int .i64 k_4, .int .i64 n_4] ∧ Blk W b4 [.int .i64 k_5, .int .i64 n_5] ∧ Below w.heap.size w W) ⟨_, _, _, _, _, rfl, rfl, rfl, rfl, rfl, ?_, ?_, ?_, ?_, ?_, ?_⟩ ?_
  · exact ((((Blk.new _ _ _ _ (by simp)).alloc _).alloc _).alloc _).alloc _
  · exact (((Blk.new _ _ _ _ (by simp)).alloc _).alloc _).alloc _
  · exact ((Blk.new _ _ _ _ (by simp)).alloc _).alloc _
  · exact (Blk.new _ _ _ _ (by simp)).alloc _
  · exact Blk.new _ _ _ _ (by simp)
  · go_grown
  rintro W ⟨b0, b1, b2, b3, b4, e0, e1, e2, e3, e4, B0, B1, B2, B3, B4, hB⟩
  rw [e4, e3, e2, e1, e0]
  have G0 : w.heap.size ≤ b0 := by omega
  have n01 : b0 ≠ b1 := by omega
  have n02 : b0 ≠ b2 := by omega
  have n03 : b0 ≠ b3 := by omega
  have n04 : b0 ≠ b4 := by omega
  have G1 : w.heap.size ≤ b1 := by omega
  have n10 : b1 ≠ b0 := by omega
  have n12 : b1 ≠ b2 := by omega
  have n13 : b1 ≠ b3 := by omega
  have n14 : b1 ≠ b4 := by omega
  have G2 : w.heap.size ≤ b2 := by omega
  have n20 : b2 ≠ b0 := by omega
  have n21 : b2 ≠ b1 := by omega
  have n23 : b2 ≠ b3 := by omega
  have n24 : b2 ≠ b4 := by omega
  have G3 : w.heap.size ≤ b3 := by omega
  have n30 : b3 ≠ b0 := by omega
  have n31 : b3 ≠ b1 := by omega
  have n32 : b3 ≠ b2 := by omega
  have n34 : b3 ≠ b4 := by omega
  have G4 : w.heap.size ≤ b4 := by omega
  have n40 : b4 ≠ b0 := by omega
  have n41 : b4 ≠ b1 := by omega
  have n42 : b4 ≠ b2 := by omega
  have n43 : b4 ≠ b3 := by omega
  clear e0 e1 e2 e3 e4
  have ⟨L0, C0, F0⟩ := B0
  have ⟨L1, C1, F1⟩ := B1
  have ⟨L2, C2, F2⟩ := B2
  have ⟨L3, C3, F3⟩ := B3
  have ⟨L4, C4, F4⟩ := B4
  go_wp2_with (first | (go_at_call 19; refine (rcheck_any _ _ _ _).mono ?_; rintro e w1 ⟨rfl, hb1⟩; have hk1 : Kept [] W w1 := Kept.call (by (repeat' first | (with_reducible assumption) | (with_reducible exact Kept.refl _ _) | (with_reducible refine Kept.alloc ?_ _) | (with_reducible refine Kept.call ?_ (by assumption)) | (with_reducible refine Kept.set ?_ _ _ _ (Or.inr ?_)) | (with_reducible refine Kept.drew ?_) | (simp; done) | omega | (simp; omega))) hb1; have ⟨hc1, hf1, hg1⟩ := hk1.rules; have hz1 := hk1.size) | (go_at_call 21; refine (rcheckV_any _ _ _).mono ?_; rintro e w2 ⟨rfl, hb2⟩; have hk2 : Kept [] W w2 := Kept.call (by (repeat' first | (with_reducible assumption) | (with_reducible exact Kept.refl _ _) | (with_reducible refine Kept.alloc ?_ _) | (with_reducible refine Kept.call ?_ (by assumption)) | (with_reducible refine Kept.set ?_ _ _ _ (Or.inr ?_)) | (with_reducible refine Kept.drew ?_) | (simp; done) | omega | (simp; omega))) hb2; have ⟨hc2, hf2, hg2⟩ := hk2.rules; have hz2 := hk2.size))
  all_goals
    go_ret
    refine ⟨ret_bool ?_, Kept.below (X := []) hB hB.size (by simp) (by (repeat' first | (with_reducible assumption) | (with_reducible exact Kept.refl _ _) | (with_reducible refine Kept.alloc ?_ _) | (with_reducible refine Kept.call ?_ (by assumption)) | (with_reducible refine Kept.set ?_ _ _ _ (Or.inr ?_)) | (with_reducible refine Kept.drew ?_) | (simp; done) | omega | (simp; omega)))⟩
    have h := h'.out
    clear h' C0 C1 C2 C3 C4 F0 F1 F2 F3 F4
    simp_all

set_option maxHeartbeats 1000000 in
theorem knows_any (w : World) : Calls Try.prog 11 #[] w fun e w' => e = .returned (.bool true) ∧ Below w.heap.size w w' := by
  have e1 : Xf.meet ⟨1, 0, 9⟩ ⟨2, 2, 0⟩ = ⟨3, 2, 9⟩ := by decide
  have e2 : Xf.compose ⟨2, 2, 0⟩ ⟨3, 1, 9⟩ = ⟨3, 3, 9⟩ := by simp [Xf.compose, Xf.shifted, wrap64]
  have e3 : Xf.steps ⟨3, 2, 9⟩ = 1 := by decide
  have e4 : Xf.check ⟨5, 0, 0⟩ = 12 := by decide
  have hB := Below.refl w.heap.size w
  go_enter Try.func11, Try.ntmps11
  go_wp2_with fail
  refine (meet_any _ _ _ _ _ _ _ (by decide) (by decide) (by decide) (by decide)).mono ?_
  rintro e w1 ⟨rfl, hb1⟩
  have k1 : Kept [] w w1 := Kept.call (Kept.refl _ _) hb1
  rw [e1]
  go_wp2_with fail
  refine (compose_any _ _ _ _ _ _ _).mono ?_
  rintro e w2 ⟨rfl, hb2⟩
  rw [e2]
  have k2 : Kept [] w w2 := Kept.call (by (repeat' first | (with_reducible assumption) | (with_reducible exact Kept.refl _ _) | (with_reducible refine Kept.alloc ?_ _) | (with_reducible refine Kept.call ?_ (by assumption)) | (with_reducible refine Kept.set ?_ _ _ _ (Or.inr ?_)) | (with_reducible refine Kept.drew ?_) | (simp; done) | omega | (simp; omega))) hb2
  have ⟨hc2, hf2, hg2⟩ := bcell hb2
  go_wp2_with fail
  refine (steps_any _ _ _ _).mono ?_
  rintro e w3 ⟨rfl, hb3⟩
  rw [e3]
  have k3 : Kept [] w w3 := Kept.call (by (repeat' first | (with_reducible assumption) | (with_reducible exact Kept.refl _ _) | (with_reducible refine Kept.alloc ?_ _) | (with_reducible refine Kept.call ?_ (by assumption)) | (with_reducible refine Kept.set ?_ _ _ _ (Or.inr ?_)) | (with_reducible refine Kept.drew ?_) | (simp; done) | omega | (simp; omega))) hb3
  have ⟨hc3, hf3, hg3⟩ := bcell hb3
  go_wp2_with fail
  refine (check_any _ _ _ _).mono ?_
  rintro e w4 ⟨rfl, hb4⟩
  rw [e4]
  have k4 : Kept [] w w4 := Kept.call (by (repeat' first | (with_reducible assumption) | (with_reducible exact Kept.refl _ _) | (with_reducible refine Kept.alloc ?_ _) | (with_reducible refine Kept.call ?_ (by assumption)) | (with_reducible refine Kept.set ?_ _ _ _ (Or.inr ?_)) | (with_reducible refine Kept.drew ?_) | (simp; done) | omega | (simp; omega))) hb4
  go_wp2_with fail
  go_ret
  exact ⟨rfl, Kept.below (X := []) hB (Nat.le_refl _) (by simp) (by (repeat' first | (with_reducible assumption) | (with_reducible exact Kept.refl _ _) | (with_reducible refine Kept.alloc ?_ _) | (with_reducible refine Kept.call ?_ (by assumption)) | (with_reducible refine Kept.set ?_ _ _ _ (Or.inr ?_)) | (with_reducible refine Kept.drew ?_) | (simp; done) | omega | (simp; omega)))⟩

end Go.Proofs.Ytlchpfonbajgcaa
