/- Contracts of the reference's Compose. -/
import Derived.Test.YtlchpfonbajgcaaC
namespace Go.Proofs.Ytlchpfonbajgcaa
open Go.RowKit Go.Df
attribute [local go_sem ↓] Go.wp_at_zero Go.wp_at_succ

set_option maxHeartbeats 1000000 in
theorem rcompose1_any (b c k' b' c' : Int) (w : World) (h0 : (k' == 0) = false) (h1 : (k' == 1) = false) (h4 : (k' == 4) = false) :
    Calls Try.prog 13 #[.agg #[.int .i64 1, .int .i64 b, .int .i64 c], .agg #[.int .i64 k', .int .i64 b', .int .i64 c']] w fun e w' => e = .returned (.agg #[.int .i64 (Xf.rcompose ⟨1, b, c⟩ ⟨k', b', c'⟩).k, .int .i64 (Xf.rcompose ⟨1, b, c⟩ ⟨k', b', c'⟩).b, .int .i64 (Xf.rcompose ⟨1, b, c⟩ ⟨k', b', c'⟩).c]) ∧ Below w.heap.size w w' := by
  go_enter Try.func13, Try.ntmps13
  go_upto_region 1 with fail
  refine wp_named (fun W => ∃ b0 b1 b2, w.heap.size = b0 ∧ w.heap.size + 1 = b1 ∧ w.heap.size + 1 + 1 = b2 ∧ Blk W b0 [.int .i64 1, .int .i64 b, .int .i64 c] ∧ Blk W b1 [.int .i64 k', .int .i64 b', .int .i64 c'] ∧ Blk W b2 [.int .i64 0, .int .i64 0, .int .i64 0] ∧ Below w.heap.size w W) ⟨_, _, _, rfl, rfl, rfl, ?_, ?_, ?_, ?_⟩ ?_
  · exact ((Blk.new _ _ _ _ (by simp)).alloc _).alloc _
  · exact (Blk.new _ _ _ _ (by simp)).alloc _
  · exact Blk.new _ _ _ _ (by simp)
  · go_grown
  rintro W ⟨b0, b1, b2, e0, e1, e2, B0, B1, B2, hB⟩
  rw [e2, e1, e0]
  have G0 : w.heap.size ≤ b0 := by omega
  have n01 : b0 ≠ b1 := by omega
  have n02 : b0 ≠ b2 := by omega
  have G1 : w.heap.size ≤ b1 := by omega
  have n10 : b1 ≠ b0 := by omega
  have n12 : b1 ≠ b2 := by omega
  have G2 : w.heap.size ≤ b2 := by omega
  have n20 : b2 ≠ b0 := by omega
  have n21 : b2 ≠ b1 := by omega
  clear e0 e1 e2
  have ⟨L0, C0, F0⟩ := B0
  have ⟨L1, C1, F1⟩ := B1
  have ⟨L2, C2, F2⟩ := B2
  go_upto_region 8 with fail
  go_cut [5] (fun s wx => ∃ g : Nat, s = .pointer (some ⟨g, 0, none⟩) ∧ Blk wx g [.int .i64 (Xf.rapply ⟨k', b', c'⟩ ⟨1, c⟩).k, .int .i64 (Xf.rapply ⟨k', b', c'⟩ ⟨1, c⟩).n] ∧ Kept [] W wx ∧ W.heap.size ≤ g)
  case first =>
    go_region_held3 (fun w' => SX0 W w') (repeat' first | (with_reducible assumption) | (with_reducible exact SX0.init _) | (with_reducible exact SX0.refl _) | (with_reducible refine SX0.alloc ?_ _) | (with_reducible refine SX0.call ?_ (by assumption)) | (with_reducible refine SX0.set ?_ _ _ _ ?_) | (with_reducible refine SX0.drew ?_) | (simp; done) | omega | (simp; omega))
      (first | (go_at_call 29; refine (rconst_any _ _).mono ?_; rintro e w1 ⟨rfl, hb1⟩; obtain ⟨hc1, hf1, hg1⟩ := bcell hb1; have hz1 := hb1.size; try simp at hz1) | (go_at_call 24; refine (rapply_any _ _ _ _ _ _).mono ?_; rintro e w2 ⟨rfl, hb2⟩; obtain ⟨hc2, hf2, hg2⟩ := bcell hb2; have hz2 := hb2.size; try simp at hz2))
    all_goals
      go_wp2_with fail
      go_meet
      refine ⟨_, rfl, ?_, ?_, ?_⟩
      · (repeat' first | (with_reducible assumption) | (with_reducible refine Blk.set1 ?_) | (with_reducible refine Blk.set2 ?_) | (with_reducible refine Blk.set3 ?_) | (with_reducible refine Blk.set4 ?_) | ((with_reducible refine Blk.new _ _ _ _ ?_); simp; done) | ((with_reducible refine BlkN.new _ _ _ _ _ rfl ?_); simp; done) | (with_reducible refine BlkN.later ?_ (by assumption)) | (with_reducible refine Blk.later ?_ (by assumption)) | (with_reducible refine Blk.alloc ?_ _) | (with_reducible refine BlkN.alloc ?_ _) | (with_reducible refine Blk.drew ?_) | (with_reducible refine BlkN.drew ?_))
      · (repeat' first | (with_reducible assumption) | (with_reducible exact Kept.refl _ _) | (with_reducible refine Kept.alloc ?_ _) | (with_reducible refine Kept.call ?_ (by assumption)) | (with_reducible refine Kept.set ?_ _ _ _ (Or.inr ?_)) | (with_reducible refine Kept.drew ?_) | (simp; done) | omega | (simp; omega))
      · first | (simp; done) | omega | (simp; omega)
  case rest =>
    obtain ⟨g, rfl, ⟨Lg, Cg, Fg⟩, kc, Hg⟩ := hcut
    have hBc := kc.below hB hB.size (by simp)
    have ⟨L0', C0', F0'⟩ := kc.blk (by simp) B0
    have ⟨L1', C1', F1'⟩ := kc.blk (by simp) B1
    have ⟨L2', C2', F2'⟩ := kc.blk (by simp) B2
    have hne : b2 ≠ g := by omega
    go_wp2_with fail
    all_goals
      refine bodyPost_ret (by simp [results, Try.results13, go_sem, *]; rfl) rfl ?_
      refine ⟨ret_x ?_, by go_grown⟩
      clear C0 C1 C2 C0' C1' C2' Cg F0 F1 F2 F0' F1' F2' Fg
      simp_all [Xf.rcompose]

set_option maxHeartbeats 1000000 in
theorem rcompose3_any (k b c k' b' c' : Int) (w : World) (h0 : (k' == 0) = false) (h1 : (k' == 1) = false) (h4 : (k' == 4) = false) (g0 : (k == 0) = false) (g4 : (k == 4) = false) (g1 : (k == 1) = false) (g2 : (k == 2) = false) :
    Calls Try.prog 13 #[.agg #[.int .i64 k, .int .i64 b, .int .i64 c], .agg #[.int .i64 k', .int .i64 b', .int .i64 c']] w fun e w' => e = .returned (.agg #[.int .i64 (Xf.rcompose ⟨k, b, c⟩ ⟨k', b', c'⟩).k, .int .i64 (Xf.rcompose ⟨k, b, c⟩ ⟨k', b', c'⟩).b, .int .i64 (Xf.rcompose ⟨k, b, c⟩ ⟨k', b', c'⟩).c]) ∧ Below w.heap.size w w' := by
  go_enter Try.func13, Try.ntmps13
  go_upto_region 1 with fail
  refine wp_named (fun W => ∃ b0 b1 b2, w.heap.size = b0 ∧ w.heap.size + 1 = b1 ∧ w.heap.size + 1 + 1 = b2 ∧ Blk W b0 [.int .i64 k, .int .i64 b, .int .i64 c] ∧ Blk W b1 [.int .i64 k', .int .i64 b', .int .i64 c'] ∧ Blk W b2 [.int .i64 0, .int .i64 0, .int .i64 0] ∧ Below w.heap.size w W) ⟨_, _, _, rfl, rfl, rfl, ?_, ?_, ?_, ?_⟩ ?_
  · exact ((Blk.new _ _ _ _ (by simp)).alloc _).alloc _
  · exact (Blk.new _ _ _ _ (by simp)).alloc _
  · exact Blk.new _ _ _ _ (by simp)
  · go_grown
  rintro W ⟨b0, b1, b2, e0, e1, e2, B0, B1, B2, hB⟩
  rw [e2, e1, e0]
  have G0 : w.heap.size ≤ b0 := by omega
  have n01 : b0 ≠ b1 := by omega
  have n02 : b0 ≠ b2 := by omega
  have G1 : w.heap.size ≤ b1 := by omega
  have n10 : b1 ≠ b0 := by omega
  have n12 : b1 ≠ b2 := by omega
  have G2 : w.heap.size ≤ b2 := by omega
  have n20 : b2 ≠ b0 := by omega
  have n21 : b2 ≠ b1 := by omega
  clear e0 e1 e2
  have ⟨L0, C0, F0⟩ := B0
  have ⟨L1, C1, F1⟩ := B1
  have ⟨L2, C2, F2⟩ := B2
  go_upto_region 15 with fail
  go_cut [6] (fun s wx => ∃ g : Nat, s = .pointer (some ⟨g, 0, none⟩) ∧ Blk wx g [.int .i64 (Xf.rapply ⟨k', b', c'⟩ ⟨1, c⟩).k, .int .i64 (Xf.rapply ⟨k', b', c'⟩ ⟨1, c⟩).n] ∧ Kept [] W wx ∧ W.heap.size ≤ g)
  case first =>
    go_region_held3 (fun w' => SX0 W w') (repeat' first | (with_reducible assumption) | (with_reducible exact SX0.init _) | (with_reducible exact SX0.refl _) | (with_reducible refine SX0.alloc ?_ _) | (with_reducible refine SX0.call ?_ (by assumption)) | (with_reducible refine SX0.set ?_ _ _ _ ?_) | (with_reducible refine SX0.drew ?_) | (simp; done) | omega | (simp; omega))
      (first | (go_at_call 29; refine (rconst_any _ _).mono ?_; rintro e w1 ⟨rfl, hb1⟩; obtain ⟨hc1, hf1, hg1⟩ := bcell hb1; have hz1 := hb1.size; try simp at hz1) | (go_at_call 24; refine (rapply_any _ _ _ _ _ _).mono ?_; rintro e w2 ⟨rfl, hb2⟩; obtain ⟨hc2, hf2, hg2⟩ := bcell hb2; have hz2 := hb2.size; try simp at hz2))
    all_goals
      go_wp2_with fail
      go_meet
      refine ⟨_, rfl, ?_, ?_, ?_⟩
      · (repeat' first | (with_reducible assumption) | (with_reducible refine Blk.set1 ?_) | (with_reducible refine Blk.set2 ?_) | (with_reducible refine Blk.set3 ?_) | (with_reducible refine Blk.set4 ?_) | ((with_reducible refine Blk.new _ _ _ _ ?_); simp; done) | ((with_reducible refine BlkN.new _ _ _ _ _ rfl ?_); simp; done) | (with_reducible refine BlkN.later ?_ (by assumption)) | (with_reducible refine Blk.later ?_ (by assumption)) | (with_reducible refine Blk.alloc ?_ _) | (with_reducible refine BlkN.alloc ?_ _) | (with_reducible refine Blk.drew ?_) | (with_reducible refine BlkN.drew ?_))
      · (repeat' first | (with_reducible assumption) | (with_reducible exact Kept.refl _ _) | (with_reducible refine Kept.alloc ?_ _) | (with_reducible refine Kept.call ?_ (by assumption)) | (with_reducible refine Kept.set ?_ _ _ _ (Or.inr ?_)) | (with_reducible refine Kept.drew ?_) | (simp; done) | omega | (simp; omega))
      · first | (simp; done) | omega | (simp; omega)
  case rest =>
    obtain ⟨g, rfl, ⟨Lg, Cg, Fg⟩, kc, Hg⟩ := hcut
    have hBc := kc.below hB hB.size (by simp)
    have ⟨L0', C0', F0'⟩ := kc.blk (by simp) B0
    have ⟨L1', C1', F1'⟩ := kc.blk (by simp) B1
    have ⟨L2', C2', F2'⟩ := kc.blk (by simp) B2
    have hne : b2 ≠ g := by omega
    go_wp2_with fail
    all_goals
      refine bodyPost_ret (by simp [results, Try.results13, go_sem, *]; rfl) rfl ?_
      refine ⟨ret_x ?_, by go_grown⟩
      clear C0 C1 C2 C0' C1' C2' Cg F0 F1 F2 F0' F1' F2' Fg
      simp_all [Xf.rcompose]


end Go.Proofs.Ytlchpfonbajgcaa
