/- Contracts of the functions of package xform and of its reference. -/
import Derived.Test.YtlchpfonbajgcaaRows
import Derived.Test.YtlchpfonbajgcaaP
import Derived.WalkKit
import Derived.WalkSpells
import Derived.WalkLawsBesides
import Derived.Lib.Hide
import Derived.Handy
namespace Go.Proofs.Ytlchpfonbajgcaa
open Go.RowKit

theorem ret_int {k : IntKind} {a b : Int} (h : a = b) : Ending.returned (.int k a) = .returned (.int k b) := by rw [h]
theorem ret_bool {a b : Bool} (h : a = b) : Ending.returned (.bool a) = .returned (.bool b) := by rw [h]
theorem ret_x {a b c : Int} {x : Xf.X} (h : ⟨a, b, c⟩ = x) : Ending.returned (.agg #[.int .i64 a, .int .i64 b, .int .i64 c]) = .returned (.agg #[.int .i64 x.k, .int .i64 x.b, .int .i64 x.c]) := by subst h; rfl
theorem ret_v {a b : Int} {x : Xf.V} (h : ⟨a, b⟩ = x) : Ending.returned (.agg #[.int .i64 a, .int .i64 b]) = .returned (.agg #[.int .i64 x.k, .int .i64 x.n]) := by subst h; rfl

set_option maxHeartbeats 400000 in
theorem check_any (k b c : Int) (w : World) :
    Calls Try.prog 18 #[.agg #[.int .i64 k, .int .i64 b, .int .i64 c]] w fun e w' => e = .returned (.int .i64 (Xf.check ⟨k, b, c⟩)) ∧ Below w.heap.size w w' := by
  go_enter Try.func18, Try.ntmps18
  go_wp2
  all_goals (go_returns; refine ⟨ret_int ?_, by go_grown⟩; simp_all [Xf.check])

set_option maxHeartbeats 400000 in
theorem rcheck_any (k b c : Int) (w : World) :
    Calls Try.prog 19 #[.agg #[.int .i64 k, .int .i64 b, .int .i64 c]] w fun e w' => e = .returned (.int .i64 (Xf.rcheck ⟨k, b, c⟩)) ∧ Below w.heap.size w w' := by
  go_enter Try.func19, Try.ntmps19
  go_wp2
  all_goals (go_returns; refine ⟨ret_int ?_, by go_grown⟩; simp_all [Xf.rcheck])

set_option maxHeartbeats 400000 in
theorem checkV_any (k n : Int) (w : World) :
    Calls Try.prog 20 #[.agg #[.int .i64 k, .int .i64 n]] w fun e w' => e = .returned (.int .i64 (Xf.checkV ⟨k, n⟩)) ∧ Below w.heap.size w w' := by
  go_enter Try.func20, Try.ntmps20
  go_wp2
  all_goals (go_returns; refine ⟨ret_int ?_, by go_grown⟩; simp_all [Xf.checkV])
set_option maxHeartbeats 400000 in
theorem rcheckV_any (k n : Int) (w : World) :
    Calls Try.prog 21 #[.agg #[.int .i64 k, .int .i64 n]] w fun e w' => e = .returned (.int .i64 (Xf.rcheckV ⟨k, n⟩)) ∧ Below w.heap.size w w' := by
  go_enter Try.func21, Try.ntmps21
  go_wp2
  all_goals (go_returns; refine ⟨ret_int ?_, by go_grown⟩; simp_all [Xf.rcheckV])

set_option maxHeartbeats 400000 in
theorem shifted_any (k b c n : Int) (w : World) :
    Calls Try.prog 28 #[.agg #[.int .i64 k, .int .i64 b, .int .i64 c], .int .i64 n] w fun e w' => e = .returned (.agg #[.int .i64 (Xf.shifted ⟨k, b, c⟩ n).k, .int .i64 (Xf.shifted ⟨k, b, c⟩ n).b, .int .i64 (Xf.shifted ⟨k, b, c⟩ n).c]) ∧ Below w.heap.size w w' := by
  go_enter Try.func28, Try.ntmps28
  go_wp2
  all_goals (go_returns; refine ⟨ret_x ?_, by go_grown⟩; simp_all [Xf.shifted])
set_option maxHeartbeats 400000 in
theorem steps_any (k b c : Int) (w : World) :
    Calls Try.prog 16 #[.agg #[.int .i64 k, .int .i64 b, .int .i64 c]] w fun e w' => e = .returned (.int .i64 (Xf.steps ⟨k, b, c⟩)) ∧ Below w.heap.size w w' := by
  go_enter Try.func16, Try.ntmps16
  go_wp2
  all_goals (go_returns; refine ⟨ret_int ?_, by go_grown⟩; simp_all [Xf.steps])
set_option maxHeartbeats 400000 in
theorem rsteps_any (k b c : Int) (w : World) :
    Calls Try.prog 17 #[.agg #[.int .i64 k, .int .i64 b, .int .i64 c]] w fun e w' => e = .returned (.int .i64 (Xf.steps ⟨k, b, c⟩)) ∧ Below w.heap.size w w' := by
  by_cases h0 : k < 0
  · go_enter Try.func17, Try.ntmps17
    go_wp2
    all_goals (go_returns; refine ⟨ret_int ?_, by go_grown⟩; simp_all [Xf.steps]; omega)
  · by_cases h5 : k > 4
    · go_enter Try.func17, Try.ntmps17
      go_wp2
      all_goals (go_returns; refine ⟨ret_int ?_, by go_grown⟩; simp_all [Xf.steps]; omega)
    · obtain rfl | rfl | rfl | rfl | rfl : k = 0 ∨ k = 1 ∨ k = 2 ∨ k = 3 ∨ k = 4 := by omega
      all_goals
        go_enter Try.func17, Try.ntmps17
        go_wp2
        all_goals (go_returns; refine ⟨ret_int ?_, by go_grown⟩; simp_all [Xf.steps])
set_option maxHeartbeats 400000 in
theorem meetV_any (k n k' n' : Int) (w : World) :
    Calls Try.prog 23 #[.agg #[.int .i64 k, .int .i64 n], .agg #[.int .i64 k', .int .i64 n']] w fun e w' => e = .returned (.agg #[.int .i64 (Xf.meetV ⟨k, n⟩ ⟨k', n'⟩).k, .int .i64 (Xf.meetV ⟨k, n⟩ ⟨k', n'⟩).n]) ∧ Below w.heap.size w w' := by
  go_enter Try.func23, Try.ntmps23
  go_wp2
  all_goals (go_returns; refine ⟨ret_v ?_, by go_grown⟩; simp_all [Xf.meetV])
set_option maxHeartbeats 400000 in
theorem rmeetV_any (k n k' n' : Int) (w : World) :
    Calls Try.prog 25 #[.agg #[.int .i64 k, .int .i64 n], .agg #[.int .i64 k', .int .i64 n']] w fun e w' => e = .returned (.agg #[.int .i64 (Xf.rmeetV ⟨k, n⟩ ⟨k', n'⟩).k, .int .i64 (Xf.rmeetV ⟨k, n⟩ ⟨k', n'⟩).n]) ∧ Below w.heap.size w w' := by
  go_enter Try.func25, Try.ntmps25
  go_wp2
  all_goals (go_returns; refine ⟨ret_v ?_, by go_grown⟩; simp_all [Xf.rmeetV])
set_option maxHeartbeats 400000 in
theorem below_any (k n k' n' : Int) (w : World) :
    Calls Try.prog 26 #[.agg #[.int .i64 k, .int .i64 n], .agg #[.int .i64 k', .int .i64 n']] w fun e w' => e = .returned (.bool (Xf.below ⟨k, n⟩ ⟨k', n'⟩)) ∧ Below w.heap.size w w' := by
  go_enter Try.func26, Try.ntmps26
  go_wp2
  all_goals (go_returns; refine ⟨ret_bool ?_, by go_grown⟩; simp_all [Xf.below])
set_option maxHeartbeats 400000 in
theorem rbelow_any (k n k' n' : Int) (w : World) :
    Calls Try.prog 27 #[.agg #[.int .i64 k, .int .i64 n], .agg #[.int .i64 k', .int .i64 n']] w fun e w' => e = .returned (.bool (Xf.rbelow ⟨k, n⟩ ⟨k', n'⟩)) ∧ Below w.heap.size w w' := by
  go_enter Try.func27, Try.ntmps27
  go_wp2
  all_goals (go_returns; refine ⟨ret_bool ?_, by go_grown⟩; simp_all [Xf.rbelow]; try (rw [Bool.eq_iff_iff]; simp_all))
end Go.Proofs.Ytlchpfonbajgcaa
