/- The reference's contracts on valid arguments, in the program's own words. -/
import Derived.Test.YtlchpfonbajgcaaI
import Derived.Test.YtlchpfonbajgcaaQ
namespace Go.Proofs.Ytlchpfonbajgcaa
open Go.RowKit Go.Df

theorem rcompose_ok (k b c k' b' c' : Int) (w : World) (hx : Xf.rcheck ⟨k, b, c⟩ = 0) (hy : Xf.rcheck ⟨k', b', c'⟩ = 0) :
    Calls Try.prog 13 #[.agg #[.int .i64 k, .int .i64 b, .int .i64 c], .agg #[.int .i64 k', .int .i64 b', .int .i64 c']] w fun e w' => e = .returned (.agg #[.int .i64 (Xf.compose ⟨k, b, c⟩ ⟨k', b', c'⟩).k, .int .i64 (Xf.compose ⟨k, b, c⟩ ⟨k', b', c'⟩).b, .int .i64 (Xf.compose ⟨k, b, c⟩ ⟨k', b', c'⟩).c]) ∧ Below w.heap.size w w' := by
  rw [← Xf.compose_eq hx hy]
  exact rcompose_any k b c k' b' c' w

theorem rmeet_ok (k b c k' b' c' : Int) (w : World) (hx : Xf.rcheck ⟨k, b, c⟩ = 0) (hy : Xf.rcheck ⟨k', b', c'⟩ = 0) :
    Calls Try.prog 15 #[.agg #[.int .i64 k, .int .i64 b, .int .i64 c], .agg #[.int .i64 k', .int .i64 b', .int .i64 c']] w fun e w' => e = .returned (.agg #[.int .i64 (Xf.meet ⟨k, b, c⟩ ⟨k', b', c'⟩).k, .int .i64 (Xf.meet ⟨k, b, c⟩ ⟨k', b', c'⟩).b, .int .i64 (Xf.meet ⟨k, b, c⟩ ⟨k', b', c'⟩).c]) ∧ Below w.heap.size w w' := by
  rw [← Xf.meet_eq hx hy]
  exact rmeet_any k b c k' b' c' w

theorem rapply_ok (k b c k' n : Int) (w : World) (hx : Xf.rcheck ⟨k, b, c⟩ = 0) (hy : Xf.rcheckV ⟨k', n⟩ = 0) :
    Calls Try.prog 24 #[.agg #[.int .i64 k, .int .i64 b, .int .i64 c], .agg #[.int .i64 k', .int .i64 n]] w fun e w' => e = .returned (.agg #[.int .i64 (Xf.apply ⟨k, b, c⟩ ⟨k', n⟩).k, .int .i64 (Xf.apply ⟨k, b, c⟩ ⟨k', n⟩).n]) ∧ Below w.heap.size w w' := by
  rw [← Xf.apply_eq hx hy]
  exact rapply_any k b c k' n w

theorem rmeetV_ok (k n k' n' : Int) (w : World) (hx : Xf.rcheckV ⟨k, n⟩ = 0) (hy : Xf.rcheckV ⟨k', n'⟩ = 0) :
    Calls Try.prog 25 #[.agg #[.int .i64 k, .int .i64 n], .agg #[.int .i64 k', .int .i64 n']] w fun e w' => e = .returned (.agg #[.int .i64 (Xf.meetV ⟨k, n⟩ ⟨k', n'⟩).k, .int .i64 (Xf.meetV ⟨k, n⟩ ⟨k', n'⟩).n]) ∧ Below w.heap.size w w' := by
  rw [← Xf.meetV_eq hx hy]
  exact rmeetV_any k n k' n' w

theorem rbelow_ok (k n k' n' : Int) (w : World) :
    Calls Try.prog 27 #[.agg #[.int .i64 k, .int .i64 n], .agg #[.int .i64 k', .int .i64 n']] w fun e w' => e = .returned (.bool (Xf.below ⟨k, n⟩ ⟨k', n'⟩)) ∧ Below w.heap.size w w' := by
  rw [← Xf.below_eq ⟨k, n⟩ ⟨k', n'⟩]
  exact rbelow_any k n k' n' w

theorem rcheck_ok (k b c : Int) (w : World) :
    Calls Try.prog 19 #[.agg #[.int .i64 k, .int .i64 b, .int .i64 c]] w fun e w' => e = .returned (.int .i64 (Xf.check ⟨k, b, c⟩)) ∧ Below w.heap.size w w' := by
  rw [← Xf.check_eq ⟨k, b, c⟩]
  exact rcheck_any k b c w

theorem rcheckV_ok (k n : Int) (w : World) :
    Calls Try.prog 21 #[.agg #[.int .i64 k, .int .i64 n]] w fun e w' => e = .returned (.int .i64 (Xf.checkV ⟨k, n⟩)) ∧ Below w.heap.size w w' := by
  rw [← Xf.checkV_eq ⟨k, n⟩]
  exact rcheckV_any k n w

theorem check_zero (k b c : Int) (w : World) (hx : Xf.rcheck ⟨k, b, c⟩ = 0) :
    Calls Try.prog 18 #[.agg #[.int .i64 k, .int .i64 b, .int .i64 c]] w fun e w' => e = .returned (.int .i64 0) ∧ Below w.heap.size w w' := by
  have := check_any k b c w
  rw [← Xf.check_eq, hx] at this
  exact this
theorem meet_ok (k b c k' b' c' : Int) (w : World) (hx : Xf.rcheck ⟨k, b, c⟩ = 0) (hy : Xf.rcheck ⟨k', b', c'⟩ = 0) :
    Calls Try.prog 14 #[.agg #[.int .i64 k, .int .i64 b, .int .i64 c], .agg #[.int .i64 k', .int .i64 b', .int .i64 c']] w fun e w' => e = .returned (.agg #[.int .i64 (Xf.meet ⟨k, b, c⟩ ⟨k', b', c'⟩).k, .int .i64 (Xf.meet ⟨k, b, c⟩ ⟨k', b', c'⟩).b, .int .i64 (Xf.meet ⟨k, b, c⟩ ⟨k', b', c'⟩).c]) ∧ Below w.heap.size w w' := by
  have h1 : 0 ≤ k ∧ k ≤ 4 := by
    unfold Xf.rcheck at hx; simp only at hx; split at hx <;> omega
  have h2 : 0 ≤ k' ∧ k' ≤ 4 := by
    unfold Xf.rcheck at hy; simp only at hy; split at hy <;> omega
  exact meet_any k b c k' b' c' w h1.1 h1.2 h2.1 h2.2
end Go.Proofs.Ytlchpfonbajgcaa
