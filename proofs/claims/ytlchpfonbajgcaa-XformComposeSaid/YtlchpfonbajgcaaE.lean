/- Contracts of Meet of package xform. -/
import Derived.Test.YtlchpfonbajgcaaC
import Derived.RegionTactic
namespace Go.Proofs.Ytlchpfonbajgcaa
open Go.RowKit Go.Df

set_option maxHeartbeats 2000000 in
theorem meet11_any (b c b' c' : Int) (w : World) (h0 : ¬ ((1 : Int) = 1 ∧ b = b' ∧ c = c')) :
    Calls Try.prog 14 #[.agg #[.int .i64 1, .int .i64 b, .int .i64 c], .agg #[.int .i64 1, .int .i64 b', .int .i64 c']] w fun e w' => e = .returned (.agg #[.int .i64 (Xf.meet ⟨1, b, c⟩ ⟨1, b', c'⟩).k, .int .i64 (Xf.meet ⟨1, b, c⟩ ⟨1, b', c'⟩).b, .int .i64 (Xf.meet ⟨1, b, c⟩ ⟨1, b', c'⟩).c]) ∧ Below w.heap.size w w' := by
  have i0 : ∀ (x0 x1 x2 y0 y1 y2 : Value) (w : World), (Instr.index 43 (.agg #[x0, x1, x2, y0, y1, y2]) (.int .i64 0)).run Try.prog w = .ok (.agg #[x0, x1, x2]) w := fun _ _ _ _ _ _ _ => by kernel_rfl
  have i1 : ∀ (x0 x1 x2 y0 y1 y2 : Value) (w : World), (Instr.index 43 (.agg #[x0, x1, x2, y0, y1, y2]) (.int .i64 1)).run Try.prog w = .ok (.agg #[y0, y1, y2]) w := fun _ _ _ _ _ _ _ => by kernel_rfl
  have h1 := Lib.hid h0
  clear h0
  go_enter Try.func14, Try.ntmps14
  go_wp2
  all_goals (try refine wp_loop_rounds 3 ?_)
  repeat any_goals (first | (rw [rounds_succ]; go_wp2) | (go_region; go_wp2))
  all_goals
    go_returns
    refine ⟨ret_x ?_, by go_grown⟩
    have h2 := h1.out
    clear h1 i0 i1
    simp_all [Xf.meet]

set_option maxHeartbeats 2000000 in
theorem meet12_any (b c b' c' : Int) (w : World) (h0 : ¬ ((1 : Int) = 2 ∧ b = b' ∧ c = c')) :
    Calls Try.prog 14 #[.agg #[.int .i64 1, .int .i64 b, .int .i64 c], .agg #[.int .i64 2, .int .i64 b', .int .i64 c']] w fun e w' => e = .returned (.agg #[.int .i64 (Xf.meet ⟨1, b, c⟩ ⟨2, b', c'⟩).k, .int .i64 (Xf.meet ⟨1, b, c⟩ ⟨2, b', c'⟩).b, .int .i64 (Xf.meet ⟨1, b, c⟩ ⟨2, b', c'⟩).c]) ∧ Below w.heap.size w w' := by
  have i0 : ∀ (x0 x1 x2 y0 y1 y2 : Value) (w : World), (Instr.index 43 (.agg #[x0, x1, x2, y0, y1, y2]) (.int .i64 0)).run Try.prog w = .ok (.agg #[x0, x1, x2]) w := fun _ _ _ _ _ _ _ => by kernel_rfl
  have i1 : ∀ (x0 x1 x2 y0 y1 y2 : Value) (w : World), (Instr.index 43 (.agg #[x0, x1, x2, y0, y1, y2]) (.int .i64 1)).run Try.prog w = .ok (.agg #[y0, y1, y2]) w := fun _ _ _ _ _ _ _ => by kernel_rfl
  have h1 := Lib.hid h0
  clear h0
  go_enter Try.func14, Try.ntmps14
  go_wp2
  all_goals (try refine wp_loop_rounds 3 ?_)
  repeat any_goals (first | (rw [rounds_succ]; go_wp2) | (go_region; go_wp2))
  all_goals
    go_returns
    refine ⟨ret_x ?_, by go_grown⟩
    have h2 := h1.out
    clear h1 i0 i1
    simp_all [Xf.meet]

set_option maxHeartbeats 2000000 in
theorem meet13_any (b c b' c' : Int) (w : World) (h0 : ¬ ((1 : Int) = 3 ∧ b = b' ∧ c = c')) :
    Calls Try.prog 14 #[.agg #[.int .i64 1, .int .i64 b, .int .i64 c], .agg #[.int .i64 3, .int .i64 b', .int .i64 c']] w fun e w' => e = .returned (.agg #[.int .i64 (Xf.meet ⟨1, b, c⟩ ⟨3, b', c'⟩).k, .int .i64 (Xf.meet ⟨1, b, c⟩ ⟨3, b', c'⟩).b, .int .i64 (Xf.meet ⟨1, b, c⟩ ⟨3, b', c'⟩).c]) ∧ Below w.heap.size w w' := by
  have i0 : ∀ (x0 x1 x2 y0 y1 y2 : Value) (w : World), (Instr.index 43 (.agg #[x0, x1, x2, y0, y1, y2]) (.int .i64 0)).run Try.prog w = .ok (.agg #[x0, x1, x2]) w := fun _ _ _ _ _ _ _ => by kernel_rfl
  have i1 : ∀ (x0 x1 x2 y0 y1 y2 : Value) (w : World), (Instr.index 43 (.agg #[x0, x1, x2, y0, y1, y2]) (.int .i64 1)).run Try.prog w = .ok (.agg #[y0, y1, y2]) w := fun _ _ _ _ _ _ _ => by kernel_rfl
  have h1 := Lib.hid h0
  clear h0
  go_enter Try.func14, Try.ntmps14
  go_wp2
  all_goals (try refine wp_loop_rounds 3 ?_)
  repeat any_goals (first | (rw [rounds_succ]; go_wp2) | (go_region; go_wp2))
  all_goals
    go_returns
    refine ⟨ret_x ?_, by go_grown⟩
    have h2 := h1.out
    clear h1 i0 i1
    simp_all [Xf.meet]

set_option maxHeartbeats 2000000 in
theorem meet21_any (b c b' c' : Int) (w : World) (h0 : ¬ ((2 : Int) = 1 ∧ b = b' ∧ c = c')) :
    Calls Try.prog 14 #[.agg #[.int .i64 2, .int .i64 b, .int .i64 c], .agg #[.int .i64 1, .int .i64 b', .int .i64 c']] w fun e w' => e = .returned (.agg #[.int .i64 (Xf.meet ⟨2, b, c⟩ ⟨1, b', c'⟩).k, .int .i64 (Xf.meet ⟨2, b, c⟩ ⟨1, b', c'⟩).b, .int .i64 (Xf.meet ⟨2, b, c⟩ ⟨1, b', c'⟩).c]) ∧ Below w.heap.size w w' := by
  have i0 : ∀ (x0 x1 x2 y0 y1 y2 : Value) (w : World), (Instr.index 43 (.agg #[x0, x1, x2, y0, y1, y2]) (.int .i64 0)).run Try.prog w = .ok (.agg #[x0, x1, x2]) w := fun _ _ _ _ _ _ _ => by kernel_rfl
  have i1 : ∀ (x0 x1 x2 y0 y1 y2 : Value) (w : World), (Instr.index 43 (.agg #[x0, x1, x2, y0, y1, y2]) (.int .i64 1)).run Try.prog w = .ok (.agg #[y0, y1, y2]) w := fun _ _ _ _ _ _ _ => by kernel_rfl
  have h1 := Lib.hid h0
  clear h0
  go_enter Try.func14, Try.ntmps14
  go_wp2
  all_goals (try refine wp_loop_rounds 3 ?_)
  repeat any_goals (first | (rw [rounds_succ]; go_wp2) | (go_region; go_wp2))
  all_goals
    go_returns
    refine ⟨ret_x ?_, by go_grown⟩
    have h2 := h1.out
    clear h1 i0 i1
    simp_all [Xf.meet]

set_option maxHeartbeats 2000000 in
theorem meet22_any (b c b' c' : Int) (w : World) (h0 : ¬ ((2 : Int) = 2 ∧ b = b' ∧ c = c')) :
    Calls Try.prog 14 #[.agg #[.int .i64 2, .int .i64 b, .int .i64 c], .agg #[.int .i64 2, .int .i64 b', .int .i64 c']] w fun e w' => e = .returned (.agg #[.int .i64 (Xf.meet ⟨2, b, c⟩ ⟨2, b', c'⟩).k, .int .i64 (Xf.meet ⟨2, b, c⟩ ⟨2, b', c'⟩).b, .int .i64 (Xf.meet ⟨2, b, c⟩ ⟨2, b', c'⟩).c]) ∧ Below w.heap.size w w' := by
  have i0 : ∀ (x0 x1 x2 y0 y1 y2 : Value) (w : World), (Instr.index 43 (.agg #[x0, x1, x2, y0, y1, y2]) (.int .i64 0)).run Try.prog w = .ok (.agg #[x0, x1, x2]) w := fun _ _ _ _ _ _ _ => by kernel_rfl
  have i1 : ∀ (x0 x1 x2 y0 y1 y2 : Value) (w : World), (Instr.index 43 (.agg #[x0, x1, x2, y0, y1, y2]) (.int .i64 1)).run Try.prog w = .ok (.agg #[y0, y1, y2]) w := fun _ _ _ _ _ _ _ => by kernel_rfl
  have h1 := Lib.hid h0
  clear h0
  go_enter Try.func14, Try.ntmps14
  go_wp2
  all_goals (try refine wp_loop_rounds 3 ?_)
  repeat any_goals (first | (rw [rounds_succ]; go_wp2) | (go_region; go_wp2))
  all_goals
    go_returns
    refine ⟨ret_x ?_, by go_grown⟩
    have h2 := h1.out
    clear h1 i0 i1
    simp_all [Xf.meet]

set_option maxHeartbeats 2000000 in
theorem meet23_any (b c b' c' : Int) (w : World) (h0 : ¬ ((2 : Int) = 3 ∧ b = b' ∧ c = c')) :
    Calls Try.prog 14 #[.agg #[.int .i64 2, .int .i64 b, .int .i64 c], .agg #[.int .i64 3, .int .i64 b', .int .i64 c']] w fun e w' => e = .returned (.agg #[.int .i64 (Xf.meet ⟨2, b, c⟩ ⟨3, b', c'⟩).k, .int .i64 (Xf.meet ⟨2, b, c⟩ ⟨3, b', c'⟩).b, .int .i64 (Xf.meet ⟨2, b, c⟩ ⟨3, b', c'⟩).c]) ∧ Below w.heap.size w w' := by
  have i0 : ∀ (x0 x1 x2 y0 y1 y2 : Value) (w : World), (Instr.index 43 (.agg #[x0, x1, x2, y0, y1, y2]) (.int .i64 0)).run Try.prog w = .ok (.agg #[x0, x1, x2]) w := fun _ _ _ _ _ _ _ => by kernel_rfl
  have i1 : ∀ (x0 x1 x2 y0 y1 y2 : Value) (w : World), (Instr.index 43 (.agg #[x0, x1, x2, y0, y1, y2]) (.int .i64 1)).run Try.prog w = .ok (.agg #[y0, y1, y2]) w := fun _ _ _ _ _ _ _ => by kernel_rfl
  have h1 := Lib.hid h0
  clear h0
  go_enter Try.func14, Try.ntmps14
  go_wp2
  all_goals (try refine wp_loop_rounds 3 ?_)
  repeat any_goals (first | (rw [rounds_succ]; go_wp2) | (go_region; go_wp2))
  all_goals
    go_returns
    refine ⟨ret_x ?_, by go_grown⟩
    have h2 := h1.out
    clear h1 i0 i1
    simp_all [Xf.meet]

set_option maxHeartbeats 2000000 in
theorem meet31_any (b c b' c' : Int) (w : World) (h0 : ¬ ((3 : Int) = 1 ∧ b = b' ∧ c = c')) :
    Calls Try.prog 14 #[.agg #[.int .i64 3, .int .i64 b, .int .i64 c], .agg #[.int .i64 1, .int .i64 b', .int .i64 c']] w fun e w' => e = .returned (.agg #[.int .i64 (Xf.meet ⟨3, b, c⟩ ⟨1, b', c'⟩).k, .int .i64 (Xf.meet ⟨3, b, c⟩ ⟨1, b', c'⟩).b, .int .i64 (Xf.meet ⟨3, b, c⟩ ⟨1, b', c'⟩).c]) ∧ Below w.heap.size w w' := by
  have i0 : ∀ (x0 x1 x2 y0 y1 y2 : Value) (w : World), (Instr.index 43 (.agg #[x0, x1, x2, y0, y1, y2]) (.int .i64 0)).run Try.prog w = .ok (.agg #[x0, x1, x2]) w := fun _ _ _ _ _ _ _ => by kernel_rfl
  have i1 : ∀ (x0 x1 x2 y0 y1 y2 : Value) (w : World), (Instr.index 43 (.agg #[x0, x1, x2, y0, y1, y2]) (.int .i64 1)).run Try.prog w = .ok (.agg #[y0, y1, y2]) w := fun _ _ _ _ _ _ _ => by kernel_rfl
  have h1 := Lib.hid h0
  clear h0
  go_enter Try.func14, Try.ntmps14
  go_wp2
  all_goals (try refine wp_loop_rounds 3 ?_)
  repeat any_goals (first | (rw [rounds_succ]; go_wp2) | (go_region; go_wp2))
  all_goals
    go_returns
    refine ⟨ret_x ?_, by go_grown⟩
    have h2 := h1.out
    clear h1 i0 i1
    simp_all [Xf.meet]

set_option maxHeartbeats 2000000 in
theorem meet32_any (b c b' c' : Int) (w : World) (h0 : ¬ ((3 : Int) = 2 ∧ b = b' ∧ c = c')) :
    Calls Try.prog 14 #[.agg #[.int .i64 3, .int .i64 b, .int .i64 c], .agg #[.int .i64 2, .int .i64 b', .int .i64 c']] w fun e w' => e = .returned (.agg #[.int .i64 (Xf.meet ⟨3, b, c⟩ ⟨2, b', c'⟩).k, .int .i64 (Xf.meet ⟨3, b, c⟩ ⟨2, b', c'⟩).b, .int .i64 (Xf.meet ⟨3, b, c⟩ ⟨2, b', c'⟩).c]) ∧ Below w.heap.size w w' := by
  have i0 : ∀ (x0 x1 x2 y0 y1 y2 : Value) (w : World), (Instr.index 43 (.agg #[x0, x1, x2, y0, y1, y2]) (.int .i64 0)).run Try.prog w = .ok (.agg #[x0, x1, x2]) w := fun _ _ _ _ _ _ _ => by kernel_rfl
  have i1 : ∀ (x0 x1 x2 y0 y1 y2 : Value) (w : World), (Instr.index 43 (.agg #[x0, x1, x2, y0, y1, y2]) (.int .i64 1)).run Try.prog w = .ok (.agg #[y0, y1, y2]) w := fun _ _ _ _ _ _ _ => by kernel_rfl
  have h1 := Lib.hid h0
  clear h0
  go_enter Try.func14, Try.ntmps14
  go_wp2
  all_goals (try refine wp_loop_rounds 3 ?_)
  repeat any_goals (first | (rw [rounds_succ]; go_wp2) | (go_region; go_wp2))
  all_goals
    go_returns
    refine ⟨ret_x ?_, by go_grown⟩
    have h2 := h1.out
    clear h1 i0 i1
    simp_all [Xf.meet]

set_option maxHeartbeats 2000000 in
theorem meet33_any (b c b' c' : Int) (w : World) (h0 : ¬ ((3 : Int) = 3 ∧ b = b' ∧ c = c')) :
    Calls Try.prog 14 #[.agg #[.int .i64 3, .int .i64 b, .int .i64 c], .agg #[.int .i64 3, .int .i64 b', .int .i64 c']] w fun e w' => e = .returned (.agg #[.int .i64 (Xf.meet ⟨3, b, c⟩ ⟨3, b', c'⟩).k, .int .i64 (Xf.meet ⟨3, b, c⟩ ⟨3, b', c'⟩).b, .int .i64 (Xf.meet ⟨3, b, c⟩ ⟨3, b', c'⟩).c]) ∧ Below w.heap.size w w' := by
  have i0 : ∀ (x0 x1 x2 y0 y1 y2 : Value) (w : World), (Instr.index 43 (.agg #[x0, x1, x2, y0, y1, y2]) (.int .i64 0)).run Try.prog w = .ok (.agg #[x0, x1, x2]) w := fun _ _ _ _ _ _ _ => by kernel_rfl
  have i1 : ∀ (x0 x1 x2 y0 y1 y2 : Value) (w : World), (Instr.index 43 (.agg #[x0, x1, x2, y0, y1, y2]) (.int .i64 1)).run Try.prog w = .ok (.agg #[y0, y1, y2]) w := fun _ _ _ _ _ _ _ => by kernel_rfl
  have h1 := Lib.hid h0
  clear h0
  go_enter Try.func14, Try.ntmps14
  go_wp2
  all_goals (try refine wp_loop_rounds 3 ?_)
  repeat any_goals (first | (rw [rounds_succ]; go_wp2) | (go_region; go_wp2))
  all_goals
    go_returns
    refine ⟨ret_x ?_, by go_grown⟩
    have h2 := h1.out
    clear h1 i0 i1
    simp_all [Xf.meet]

end Go.Proofs.Ytlchpfonbajgcaa
