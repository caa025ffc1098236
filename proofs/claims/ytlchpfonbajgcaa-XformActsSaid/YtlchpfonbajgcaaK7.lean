/- The walks of the laws of layer 32. -/
import Derived.Test.YtlchpfonbajgcaaJ
namespace Go.Proofs.Ytlchpfonbajgcaa
open Go.RowKit Go.Df
attribute [local go_sem ↓] Go.wp_at_zero Go.wp_at_succ

set_option maxHeartbeats 2000000 in
theorem xformActs_true (k_1 b_1 c_1 k_2 b_2 c_2 k_4 n_4 : Int) (w : World) (h1 : Xf.rcheck ⟨k_1, b_1, c_1⟩ = 0) (h2 : Xf.rcheck ⟨k_2, b_2, c_2⟩ = 0) (h3 : Xf.rcheckV ⟨k_4, n_4⟩ = 0) (fb1 : wrap64 b_1 = b_1) (fc1 : wrap64 c_1 = c_1) (fb2 : wrap64 b_2 = b_2) (fc2 : wrap64 c_2 = c_2) :
    Calls Try.prog 7 #[.agg #[.int .i64 k_1, .int .i64 b_1, .int .i64 c_1], .agg #[.int .i64 k_2, .int .i64 b_2, .int .i64 c_2], .agg #[.int .i64 k_4, .int .i64 n_4]] w fun e w' => e = .returned (.bool true) ∧ Below w.heap.size w w' := by
  have hv0 : Xf.rcheckV ⟨0, 0⟩ = 0 := by decide
  have u1 : Xf.rcheck ⟨(Xf.compose ⟨k_1, b_1, c_1⟩ ⟨k_2, b_2, c_2⟩).k, (Xf.compose ⟨k_1, b_1, c_1⟩ ⟨k_2, b_2, c_2⟩).b, (Xf.compose ⟨k_1, b_1, c_1⟩ ⟨k_2, b_2, c_2⟩).c⟩ = 0 := Xf.check_compose h1 h2
  have u2 : Xf.rcheck ⟨(Xf.meet ⟨k_1, b_1, c_1⟩ ⟨k_2, b_2, c_2⟩).k, (Xf.meet ⟨k_1, b_1, c_1⟩ ⟨k_2, b_2, c_2⟩).b, (Xf.meet ⟨k_1, b_1, c_1⟩ ⟨k_2, b_2, c_2⟩).c⟩ = 0 := Xf.check_meet h1 h2
  have q1 : Xf.apply ⟨(Xf.compose ⟨k_1, b_1, c_1⟩ ⟨k_2, b_2, c_2⟩).k, (Xf.compose ⟨k_1, b_1, c_1⟩ ⟨k_2, b_2, c_2⟩).b, (Xf.compose ⟨k_1, b_1, c_1⟩ ⟨k_2, b_2, c_2⟩).c⟩ ⟨k_4, n_4⟩ = Xf.apply ⟨k_2, b_2, c_2⟩ ⟨(Xf.apply ⟨k_1, b_1, c_1⟩ ⟨k_4, n_4⟩).k, (Xf.apply ⟨k_1, b_1, c_1⟩ ⟨k_4, n_4⟩).n⟩ := Xf.apply_compose h1 h2 h3 ⟨fb1, fc1⟩
  have q2 : Xf.apply ⟨(Xf.meet ⟨k_1, b_1, c_1⟩ ⟨k_2, b_2, c_2⟩).k, (Xf.meet ⟨k_1, b_1, c_1⟩ ⟨k_2, b_2, c_2⟩).b, (Xf.meet ⟨k_1, b_1, c_1⟩ ⟨k_2, b_2, c_2⟩).c⟩ ⟨k_4, n_4⟩ = Xf.meetV ⟨(Xf.apply ⟨k_1, b_1, c_1⟩ ⟨k_4, n_4⟩).k, (Xf.apply ⟨k_1, b_1, c_1⟩ ⟨k_4, n_4⟩).n⟩ ⟨(Xf.apply ⟨k_2, b_2, c_2⟩ ⟨k_4, n_4⟩).k, (Xf.apply ⟨k_2, b_2, c_2⟩ ⟨k_4, n_4⟩).n⟩ := Xf.apply_meet h1 h2 h3 ⟨fb1, fc1⟩ ⟨fb2, fc2⟩
  go_enter Try.func7, Try.ntmps7
  go_upto_region 1 with fail
  refine wp_named (fun W => ∃ b0 b1 b2, w.heap.size = b0 ∧ w.heap.size + 1 = b1 ∧ w.heap.size + 1 + 1 = b2 ∧ Blk W b0 [.int .i64 k_1, .int .i64 b_1, .int .i64 c_1] ∧ Blk W b1 [.int .i64 k_2, .int .i64 b_2, .int .i64 c_2] ∧ Blk W b2 [.int .i64 k_4, .int .i64 n_4] ∧ Below w.heap.size w W) ⟨_, _, _, rfl, rfl, rfl, ?_, ?_, ?_, ?_⟩ ?_
  · exact ((Blk.new _ _ _ _ (by simp)).alloc _).alloc _
  · exact (Blk.new _ _ _ _ (by simp)).alloc _
  · exact Blk.new _ _ _ _ (by simp)
  · go_grown
  rintro W ⟨b0, b1, b2, e0, e1, e2, B0, B1, B2, hB⟩
  rw [e2, e1, e0]
  have G0 : w.heap.size ≤ b0 := by omega
  have n01 : b0 ≠ b1 := by omega
  have n02 : b0 ≠ b2 := by omega
  have G1 : w.heap.size ≤ b1 := by omega
  have n10 : b1 ≠ b0 := by omega
  have n12 : b1 ≠ b2 := by omega
  have G2 : w.heap.size ≤ b2 := by omega
  have n20 : b2 ≠ b0 := by omega
  have n21 : b2 ≠ b1 := by omega
  clear e0 e1 e2
  have ⟨L0, C0, F0⟩ := B0
  have ⟨L1, C1, F1⟩ := B1
  have ⟨L2, C2, F2⟩ := B2
  go_wp2_with fail
  refine (right_true _ _ _ _ _ _ _ _ _ _ _ _ _ _ h1 h2 h2 h3 h3).mono ?_
  rintro e w1 ⟨rfl, hb1⟩
  have hk1 : Kept [] W w1 := Kept.call (Kept.refl _ _) hb1
  have ⟨hc1, hf1, hg1⟩ := hk1.rules
  go_wp2_with fail
  refine (compose_any _ _ _ _ _ _ _).mono ?_
  rintro e w2 ⟨rfl, hb2⟩
  have hk2 : Kept [] W w2 := Kept.call hk1 hb2
  have ⟨hc2, hf2, hg2⟩ := hk2.rules
  go_wp2_with fail
  refine (meet_ok _ _ _ _ _ _ _ h1 h2).mono ?_
  rintro e w3 ⟨rfl, hb3⟩
  have hk3 : Kept [] W w3 := Kept.call (hk2.alloc _) hb3
  have hgc := (Blk.new _ _ _ _ rfl).later hb3
  go_upto_region 5 with fail
  refine wp_named (fun V => ∃ g g' : Nat, w2.heap.size = g ∧ w3.heap.size = g' ∧ Kept [] W V ∧ Blk V g [.int .i64 (Xf.compose ⟨k_1, b_1, c_1⟩ ⟨k_2, b_2, c_2⟩).k, .int .i64 (Xf.compose ⟨k_1, b_1, c_1⟩ ⟨k_2, b_2, c_2⟩).b, .int .i64 (Xf.compose ⟨k_1, b_1, c_1⟩ ⟨k_2, b_2, c_2⟩).c] ∧ Blk V g' [.int .i64 (Xf.meet ⟨k_1, b_1, c_1⟩ ⟨k_2, b_2, c_2⟩).k, .int .i64 (Xf.meet ⟨k_1, b_1, c_1⟩ ⟨k_2, b_2, c_2⟩).b, .int .i64 (Xf.meet ⟨k_1, b_1, c_1⟩ ⟨k_2, b_2, c_2⟩).c]) ⟨_, _, rfl, rfl, hk3.alloc _, hgc.alloc _, Blk.new _ _ _ _ rfl⟩ ?_
  rintro V ⟨g, g', eg, eg', hkV, ⟨Lg, Cg, Fg⟩, ⟨Lg', Cg', Fg'⟩⟩
  rw [eg, eg']
  clear eg eg'
  have hBV := hkV.below hB hB.size (by simp)
  have ⟨L0', C0', F0'⟩ := hkV.blk (by simp) B0
  have ⟨L1', C1', F1'⟩ := hkV.blk (by simp) B1
  have ⟨L2', C2', F2'⟩ := hkV.blk (by simp) B2
  go_wp2_with fail
  refine (check_zero _ _ _ _ u1).mono ?_
  rintro e w4 ⟨rfl, hb4⟩
  have hk4 : Kept [] V w4 := Kept.call (Kept.refl _ _) hb4
  have ⟨hc4, hf4, hg4⟩ := hk4.rules
  go_wp2_with fail
  refine (check_zero _ _ _ _ u2).mono ?_
  rintro e w5 ⟨rfl, hb5⟩
  have hS5 : SX0 V w5 := SX0.of (Kept.call hk4 hb5)
  go_wp2_with fail
  go_region_held3 (fun w' => SX0 V w') (repeat' first | (with_reducible assumption) | (with_reducible exact SX0.init _) | (with_reducible exact SX0.refl _) | (with_reducible refine SX0.alloc ?_ _) | (with_reducible refine SX0.call ?_ (by assumption)) | (with_reducible refine SX0.set ?_ _ _ _ ?_) | (with_reducible refine SX0.drew ?_) | (simp; done) | omega | (simp; omega))
    (first | (go_at_call 22; refine (apply_any _ _ _ _ _ _).mono ?_; rintro e w6 ⟨rfl, hb6⟩) | (go_at_call 23; refine (meetV_any _ _ _ _ _).mono ?_; rintro e w7 ⟨rfl, hb7⟩) | (go_at_call 11; refine (knows_any _).mono ?_; rintro e w8 ⟨rfl, hb8⟩))
  go_wp2_with fail
  go_ret
  exact ⟨rfl, SX0.below hBV hBV.size (by assumption)⟩

set_option maxHeartbeats 2000000 in
theorem xformActs_false (k_1 b_1 c_1 k_2 b_2 c_2 k_4 n_4 : Int) (w : World) (h : ¬ (Xf.rcheck ⟨k_1, b_1, c_1⟩ = 0 ∧ Xf.rcheck ⟨k_2, b_2, c_2⟩ = 0 ∧ Xf.rcheckV ⟨k_4, n_4⟩ = 0)) :
    Calls Try.prog 7 #[.agg #[.int .i64 k_1, .int .i64 b_1, .int .i64 c_1], .agg #[.int .i64 k_2, .int .i64 b_2, .int .i64 c_2], .agg #[.int .i64 k_4, .int .i64 n_4]] w fun e w' => e = .returned (.bool true) ∧ Below w.heap.size w w' := by
  have hv0 : Xf.rcheckV ⟨0, 0⟩ = 0 := by decide
  have h' := Lib.hid h
  clear h
  go_enter Try.func7, Try.ntmps7
  go_upto_region 1 with fail
  refine wp_named (fun W => ∃ b0 b1 b2, w.heap.size = b0 ∧ w.heap.size + 1 = b1 ∧ w.heap.size + 1 + 1 = b2 ∧ Blk W b0 [.int .i64 k_1, .int .i64 b_1, .int .i64 c_1] ∧ Blk W b1 [.int .i64 k_2, .int .i64 b_2, .int .i64 c_2] ∧ Blk W b2 [.int .i64 k_4, .int .i64 n_4] ∧ Below w.heap.size w W) ⟨_, _, _, rfl, rfl, rfl, ?_, ?_, ?_, ?_⟩ ?_
  · exact ((Blk.new _ _ _ _ (by simp)).alloc _).alloc _
  · exact (Blk.new _ _ _ _ (by simp)).alloc _
  · exact Blk.new _ _ _ _ (by simp)
  · go_grown
  rintro W ⟨b0, b1, b2, e0, e1, e2, B0, B1, B2, hB⟩
  rw [e2, e1, e0]
  have G0 : w.heap.size ≤ b0 := by omega
  have n01 : b0 ≠ b1 := by omega
  have n02 : b0 ≠ b2 := by omega
  have G1 : w.heap.size ≤ b1 := by omega
  have n10 : b1 ≠ b0 := by omega
  have n12 : b1 ≠ b2 := by omega
  have G2 : w.heap.size ≤ b2 := by omega
  have n20 : b2 ≠ b0 := by omega
  have n21 : b2 ≠ b1 := by omega
  clear e0 e1 e2
  have ⟨L0, C0, F0⟩ := B0
  have ⟨L1, C1, F1⟩ := B1
  have ⟨L2, C2, F2⟩ := B2
  go_wp2_with fail
  refine (right_false _ _ _ _ _ _ _ _ _ _ _ _ _ _ (by have h := h'.out; simp_all; try (intros; simp_all))).mono ?_
  rintro e w1 ⟨rfl, hb1⟩
  have hk1 : Kept [] W w1 := Kept.call (Kept.refl _ _) hb1
  go_wp2_with fail
  refine (knows_any _).mono ?_
  rintro e w2 ⟨rfl, hb2⟩
  have hk2 : Kept [] W w2 := Kept.call hk1 hb2
  go_wp2_with fail
  go_ret
  exact ⟨rfl, Kept.below (X := []) hB hB.size (by simp) (by (repeat' first | (with_reducible assumption) | (with_reducible exact Kept.refl _ _) | (with_reducible refine Kept.alloc ?_ _) | (with_reducible refine Kept.call ?_ (by assumption)) | (with_reducible refine Kept.set ?_ _ _ _ (Or.inr ?_)) | (with_reducible refine Kept.drew ?_) | (simp; done) | omega | (simp; omega)))⟩

end Go.Proofs.Ytlchpfonbajgcaa
