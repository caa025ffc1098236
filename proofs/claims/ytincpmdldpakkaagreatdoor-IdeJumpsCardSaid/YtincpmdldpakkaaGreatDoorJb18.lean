/- Texts: Bc. -/
import Derived.Test.YtincpmdldpakkaaGreatDoorJb17
namespace Go.Proofs.YtincpmdldpakkaaGreatDoor
open Go.RowKit Go.Df
attribute [local go_sem ↓] Go.wp_at_zero Go.wp_at_succ
set_option maxHeartbeats 1000000 in
theorem compose_any (k b c k' b' c' : Int) (w : World) :
   Calls Tryz.prog 85 #[.agg #[.int .i64 k, .int .i64 b, .int .i64 c], .agg #[.int .i64 k', .int .i64 b', .int .i64 c']] w fun e w' => e = .returned (.agg #[.int .i64 (Xf.compose ⟨k, b, c⟩ ⟨k', b', c'⟩).k, .int .i64 (Xf.compose ⟨k, b, c⟩ ⟨k', b', c'⟩).b, .int .i64 (Xf.compose ⟨k, b, c⟩ ⟨k', b', c'⟩).c]) ∧ Below w.heap.size w w' := by
 go_enter Tryz.func85, Tryz.ntmps85
 go_wp2
 all_goals
   go_returns
   exact ⟨ret_x (by simp_all [Xf.compose, Xf.shifted]), by go_grown⟩
set_option maxHeartbeats 2000000 in
theorem meet11_any (b c b' c' : Int) (w : World) (h0 : ¬ ((1 : Int) = 1 ∧ b = b' ∧ c = c')) :
   Calls Tryz.prog 134 #[.agg #[.int .i64 1, .int .i64 b, .int .i64 c], .agg #[.int .i64 1, .int .i64 b', .int .i64 c']] w fun e w' => e = .returned (.agg #[.int .i64 (Xf.meet ⟨1, b, c⟩ ⟨1, b', c'⟩).k, .int .i64 (Xf.meet ⟨1, b, c⟩ ⟨1, b', c'⟩).b, .int .i64 (Xf.meet ⟨1, b, c⟩ ⟨1, b', c'⟩).c]) ∧ Below w.heap.size w w' := by
 have i0 : ∀ (x0 x1 x2 y0 y1 y2 : Value) (w : World), (Instr.index 277 (.agg #[x0, x1, x2, y0, y1, y2]) (.int .i64 0)).run Tryz.prog w = .ok (.agg #[x0, x1, x2]) w := fun _ _ _ _ _ _ _ => by kernel_rfl
 have i1 : ∀ (x0 x1 x2 y0 y1 y2 : Value) (w : World), (Instr.index 277 (.agg #[x0, x1, x2, y0, y1, y2]) (.int .i64 1)).run Tryz.prog w = .ok (.agg #[y0, y1, y2]) w := fun _ _ _ _ _ _ _ => by kernel_rfl
 have h1 := Lib.hid h0
 clear h0
 go_enter Tryz.func134, Tryz.ntmps134
 go_wp2
 all_goals (try refine wp_loop_rounds 3 ?_)
 repeat any_goals (first | (rw [rounds_succ]; go_wp2) | (go_region; go_wp2))
 all_goals
   go_returns
   refine ⟨ret_x ?_, by go_grown⟩
   have h2 := h1.out
   clear h1 i0 i1
   simp_all [Xf.meet]
set_option maxHeartbeats 2000000 in
theorem meet12_any (b c b' c' : Int) (w : World) (h0 : ¬ ((1 : Int) = 2 ∧ b = b' ∧ c = c')) :
   Calls Tryz.prog 134 #[.agg #[.int .i64 1, .int .i64 b, .int .i64 c], .agg #[.int .i64 2, .int .i64 b', .int .i64 c']] w fun e w' => e = .returned (.agg #[.int .i64 (Xf.meet ⟨1, b, c⟩ ⟨2, b', c'⟩).k, .int .i64 (Xf.meet ⟨1, b, c⟩ ⟨2, b', c'⟩).b, .int .i64 (Xf.meet ⟨1, b, c⟩ ⟨2, b', c'⟩).c]) ∧ Below w.heap.size w w' := by
 have i0 : ∀ (x0 x1 x2 y0 y1 y2 : Value) (w : World), (Instr.index 277 (.agg #[x0, x1, x2, y0, y1, y2]) (.int .i64 0)).run Tryz.prog w = .ok (.agg #[x0, x1, x2]) w := fun _ _ _ _ _ _ _ => by kernel_rfl
 have i1 : ∀ (x0 x1 x2 y0 y1 y2 : Value) (w : World), (Instr.index 277 (.agg #[x0, x1, x2, y0, y1, y2]) (.int .i64 1)).run Tryz.prog w = .ok (.agg #[y0, y1, y2]) w := fun _ _ _ _ _ _ _ => by kernel_rfl
 have h1 := Lib.hid h0
 clear h0
 go_enter Tryz.func134, Tryz.ntmps134
 go_wp2
 all_goals (try refine wp_loop_rounds 3 ?_)
 repeat any_goals (first | (rw [rounds_succ]; go_wp2) | (go_region; go_wp2))
 all_goals
   go_returns
   refine ⟨ret_x ?_, by go_grown⟩
   have h2 := h1.out
   clear h1 i0 i1
   simp_all [Xf.meet]
set_option maxHeartbeats 2000000 in
theorem meet13_any (b c b' c' : Int) (w : World) (h0 : ¬ ((1 : Int) = 3 ∧ b = b' ∧ c = c')) :
   Calls Tryz.prog 134 #[.agg #[.int .i64 1, .int .i64 b, .int .i64 c], .agg #[.int .i64 3, .int .i64 b', .int .i64 c']] w fun e w' => e = .returned (.agg #[.int .i64 (Xf.meet ⟨1, b, c⟩ ⟨3, b', c'⟩).k, .int .i64 (Xf.meet ⟨1, b, c⟩ ⟨3, b', c'⟩).b, .int .i64 (Xf.meet ⟨1, b, c⟩ ⟨3, b', c'⟩).c]) ∧ Below w.heap.size w w' := by
 have i0 : ∀ (x0 x1 x2 y0 y1 y2 : Value) (w : World), (Instr.index 277 (.agg #[x0, x1, x2, y0, y1, y2]) (.int .i64 0)).run Tryz.prog w = .ok (.agg #[x0, x1, x2]) w := fun _ _ _ _ _ _ _ => by kernel_rfl
 have i1 : ∀ (x0 x1 x2 y0 y1 y2 : Value) (w : World), (Instr.index 277 (.agg #[x0, x1, x2, y0, y1, y2]) (.int .i64 1)).run Tryz.prog w = .ok (.agg #[y0, y1, y2]) w := fun _ _ _ _ _ _ _ => by kernel_rfl
 have h1 := Lib.hid h0
 clear h0
 go_enter Tryz.func134, Tryz.ntmps134
 go_wp2
 all_goals (try refine wp_loop_rounds 3 ?_)
 repeat any_goals (first | (rw [rounds_succ]; go_wp2) | (go_region; go_wp2))
 all_goals
   go_returns
   refine ⟨ret_x ?_, by go_grown⟩
   have h2 := h1.out
   clear h1 i0 i1
   simp_all [Xf.meet]
set_option maxHeartbeats 2000000 in
theorem meet21_any (b c b' c' : Int) (w : World) (h0 : ¬ ((2 : Int) = 1 ∧ b = b' ∧ c = c')) :
   Calls Tryz.prog 134 #[.agg #[.int .i64 2, .int .i64 b, .int .i64 c], .agg #[.int .i64 1, .int .i64 b', .int .i64 c']] w fun e w' => e = .returned (.agg #[.int .i64 (Xf.meet ⟨2, b, c⟩ ⟨1, b', c'⟩).k, .int .i64 (Xf.meet ⟨2, b, c⟩ ⟨1, b', c'⟩).b, .int .i64 (Xf.meet ⟨2, b, c⟩ ⟨1, b', c'⟩).c]) ∧ Below w.heap.size w w' := by
 have i0 : ∀ (x0 x1 x2 y0 y1 y2 : Value) (w : World), (Instr.index 277 (.agg #[x0, x1, x2, y0, y1, y2]) (.int .i64 0)).run Tryz.prog w = .ok (.agg #[x0, x1, x2]) w := fun _ _ _ _ _ _ _ => by kernel_rfl
 have i1 : ∀ (x0 x1 x2 y0 y1 y2 : Value) (w : World), (Instr.index 277 (.agg #[x0, x1, x2, y0, y1, y2]) (.int .i64 1)).run Tryz.prog w = .ok (.agg #[y0, y1, y2]) w := fun _ _ _ _ _ _ _ => by kernel_rfl
 have h1 := Lib.hid h0
 clear h0
 go_enter Tryz.func134, Tryz.ntmps134
 go_wp2
 all_goals (try refine wp_loop_rounds 3 ?_)
 repeat any_goals (first | (rw [rounds_succ]; go_wp2) | (go_region; go_wp2))
 all_goals
   go_returns
   refine ⟨ret_x ?_, by go_grown⟩
   have h2 := h1.out
   clear h1 i0 i1
   simp_all [Xf.meet]
set_option maxHeartbeats 2000000 in
theorem meet22_any (b c b' c' : Int) (w : World) (h0 : ¬ ((2 : Int) = 2 ∧ b = b' ∧ c = c')) :
   Calls Tryz.prog 134 #[.agg #[.int .i64 2, .int .i64 b, .int .i64 c], .agg #[.int .i64 2, .int .i64 b', .int .i64 c']] w fun e w' => e = .returned (.agg #[.int .i64 (Xf.meet ⟨2, b, c⟩ ⟨2, b', c'⟩).k, .int .i64 (Xf.meet ⟨2, b, c⟩ ⟨2, b', c'⟩).b, .int .i64 (Xf.meet ⟨2, b, c⟩ ⟨2, b', c'⟩).c]) ∧ Below w.heap.size w w' := by
 have i0 : ∀ (x0 x1 x2 y0 y1 y2 : Value) (w : World), (Instr.index 277 (.agg #[x0, x1, x2, y0, y1, y2]) (.int .i64 0)).run Tryz.prog w = .ok (.agg #[x0, x1, x2]) w := fun _ _ _ _ _ _ _ => by kernel_rfl
 have i1 : ∀ (x0 x1 x2 y0 y1 y2 : Value) (w : World), (Instr.index 277 (.agg #[x0, x1, x2, y0, y1, y2]) (.int .i64 1)).run Tryz.prog w = .ok (.agg #[y0, y1, y2]) w := fun _ _ _ _ _ _ _ => by kernel_rfl
 have h1 := Lib.hid h0
 clear h0
 go_enter Tryz.func134, Tryz.ntmps134
 go_wp2
 all_goals (try refine wp_loop_rounds 3 ?_)
 repeat any_goals (first | (rw [rounds_succ]; go_wp2) | (go_region; go_wp2))
 all_goals
   go_returns
   refine ⟨ret_x ?_, by go_grown⟩
   have h2 := h1.out
   clear h1 i0 i1
   simp_all [Xf.meet]
set_option maxHeartbeats 2000000 in
theorem meet23_any (b c b' c' : Int) (w : World) (h0 : ¬ ((2 : Int) = 3 ∧ b = b' ∧ c = c')) :
   Calls Tryz.prog 134 #[.agg #[.int .i64 2, .int .i64 b, .int .i64 c], .agg #[.int .i64 3, .int .i64 b', .int .i64 c']] w fun e w' => e = .returned (.agg #[.int .i64 (Xf.meet ⟨2, b, c⟩ ⟨3, b', c'⟩).k, .int .i64 (Xf.meet ⟨2, b, c⟩ ⟨3, b', c'⟩).b, .int .i64 (Xf.meet ⟨2, b, c⟩ ⟨3, b', c'⟩).c]) ∧ Below w.heap.size w w' := by
 have i0 : ∀ (x0 x1 x2 y0 y1 y2 : Value) (w : World), (Instr.index 277 (.agg #[x0, x1, x2, y0, y1, y2]) (.int .i64 0)).run Tryz.prog w = .ok (.agg #[x0, x1, x2]) w := fun _ _ _ _ _ _ _ => by kernel_rfl
 have i1 : ∀ (x0 x1 x2 y0 y1 y2 : Value) (w : World), (Instr.index 277 (.agg #[x0, x1, x2, y0, y1, y2]) (.int .i64 1)).run Tryz.prog w = .ok (.agg #[y0, y1, y2]) w := fun _ _ _ _ _ _ _ => by kernel_rfl
 have h1 := Lib.hid h0
 clear h0
 go_enter Tryz.func134, Tryz.ntmps134
 go_wp2
 all_goals (try refine wp_loop_rounds 3 ?_)
 repeat any_goals (first | (rw [rounds_succ]; go_wp2) | (go_region; go_wp2))
 all_goals
   go_returns
   refine ⟨ret_x ?_, by go_grown⟩
   have h2 := h1.out
   clear h1 i0 i1
   simp_all [Xf.meet]
set_option maxHeartbeats 2000000 in
theorem meet31_any (b c b' c' : Int) (w : World) (h0 : ¬ ((3 : Int) = 1 ∧ b = b' ∧ c = c')) :
   Calls Tryz.prog 134 #[.agg #[.int .i64 3, .int .i64 b, .int .i64 c], .agg #[.int .i64 1, .int .i64 b', .int .i64 c']] w fun e w' => e = .returned (.agg #[.int .i64 (Xf.meet ⟨3, b, c⟩ ⟨1, b', c'⟩).k, .int .i64 (Xf.meet ⟨3, b, c⟩ ⟨1, b', c'⟩).b, .int .i64 (Xf.meet ⟨3, b, c⟩ ⟨1, b', c'⟩).c]) ∧ Below w.heap.size w w' := by
 have i0 : ∀ (x0 x1 x2 y0 y1 y2 : Value) (w : World), (Instr.index 277 (.agg #[x0, x1, x2, y0, y1, y2]) (.int .i64 0)).run Tryz.prog w = .ok (.agg #[x0, x1, x2]) w := fun _ _ _ _ _ _ _ => by kernel_rfl
 have i1 : ∀ (x0 x1 x2 y0 y1 y2 : Value) (w : World), (Instr.index 277 (.agg #[x0, x1, x2, y0, y1, y2]) (.int .i64 1)).run Tryz.prog w = .ok (.agg #[y0, y1, y2]) w := fun _ _ _ _ _ _ _ => by kernel_rfl
 have h1 := Lib.hid h0
 clear h0
 go_enter Tryz.func134, Tryz.ntmps134
 go_wp2
 all_goals (try refine wp_loop_rounds 3 ?_)
 repeat any_goals (first | (rw [rounds_succ]; go_wp2) | (go_region; go_wp2))
 all_goals
   go_returns
   refine ⟨ret_x ?_, by go_grown⟩
   have h2 := h1.out
   clear h1 i0 i1
   simp_all [Xf.meet]
set_option maxHeartbeats 2000000 in
theorem meet32_any (b c b' c' : Int) (w : World) (h0 : ¬ ((3 : Int) = 2 ∧ b = b' ∧ c = c')) :
   Calls Tryz.prog 134 #[.agg #[.int .i64 3, .int .i64 b, .int .i64 c], .agg #[.int .i64 2, .int .i64 b', .int .i64 c']] w fun e w' => e = .returned (.agg #[.int .i64 (Xf.meet ⟨3, b, c⟩ ⟨2, b', c'⟩).k, .int .i64 (Xf.meet ⟨3, b, c⟩ ⟨2, b', c'⟩).b, .int .i64 (Xf.meet ⟨3, b, c⟩ ⟨2, b', c'⟩).c]) ∧ Below w.heap.size w w' := by
 have i0 : ∀ (x0 x1 x2 y0 y1 y2 : Value) (w : World), (Instr.index 277 (.agg #[x0, x1, x2, y0, y1, y2]) (.int .i64 0)).run Tryz.prog w = .ok (.agg #[x0, x1, x2]) w := fun _ _ _ _ _ _ _ => by kernel_rfl
 have i1 : ∀ (x0 x1 x2 y0 y1 y2 : Value) (w : World), (Instr.index 277 (.agg #[x0, x1, x2, y0, y1, y2]) (.int .i64 1)).run Tryz.prog w = .ok (.agg #[y0, y1, y2]) w := fun _ _ _ _ _ _ _ => by kernel_rfl
 have h1 := Lib.hid h0
 clear h0
 go_enter Tryz.func134, Tryz.ntmps134
 go_wp2
 all_goals (try refine wp_loop_rounds 3 ?_)
 repeat any_goals (first | (rw [rounds_succ]; go_wp2) | (go_region; go_wp2))
 all_goals
   go_returns
   refine ⟨ret_x ?_, by go_grown⟩
   have h2 := h1.out
   clear h1 i0 i1
   simp_all [Xf.meet]
set_option maxHeartbeats 2000000 in
theorem meet33_any (b c b' c' : Int) (w : World) (h0 : ¬ ((3 : Int) = 3 ∧ b = b' ∧ c = c')) :
   Calls Tryz.prog 134 #[.agg #[.int .i64 3, .int .i64 b, .int .i64 c], .agg #[.int .i64 3, .int .i64 b', .int .i64 c']] w fun e w' => e = .returned (.agg #[.int .i64 (Xf.meet ⟨3, b, c⟩ ⟨3, b', c'⟩).k, .int .i64 (Xf.meet ⟨3, b, c⟩ ⟨3, b', c'⟩).b, .int .i64 (Xf.meet ⟨3, b, c⟩ ⟨3, b', c'⟩).c]) ∧ Below w.heap.size w w' := by
 have i0 : ∀ (x0 x1 x2 y0 y1 y2 : Value) (w : World), (Instr.index 277 (.agg #[x0, x1, x2, y0, y1, y2]) (.int .i64 0)).run Tryz.prog w = .ok (.agg #[x0, x1, x2]) w := fun _ _ _ _ _ _ _ => by kernel_rfl
 have i1 : ∀ (x0 x1 x2 y0 y1 y2 : Value) (w : World), (Instr.index 277 (.agg #[x0, x1, x2, y0, y1, y2]) (.int .i64 1)).run Tryz.prog w = .ok (.agg #[y0, y1, y2]) w := fun _ _ _ _ _ _ _ => by kernel_rfl
 have h1 := Lib.hid h0
 clear h0
 go_enter Tryz.func134, Tryz.ntmps134
 go_wp2
 all_goals (try refine wp_loop_rounds 3 ?_)
 repeat any_goals (first | (rw [rounds_succ]; go_wp2) | (go_region; go_wp2))
 all_goals
   go_returns
   refine ⟨ret_x ?_, by go_grown⟩
   have h2 := h1.out
   clear h1 i0 i1
   simp_all [Xf.meet]
set_option maxHeartbeats 1000000 in
theorem meet_any (k b c k' b' c' : Int) (w : World) (v1 : 0 ≤ k) (v2 : k ≤ 4) (v3 : 0 ≤ k') (v4 : k' ≤ 4) :
   Calls Tryz.prog 134 #[.agg #[.int .i64 k, .int .i64 b, .int .i64 c], .agg #[.int .i64 k', .int .i64 b', .int .i64 c']] w fun e w' => e = .returned (.agg #[.int .i64 (Xf.meet ⟨k, b, c⟩ ⟨k', b', c'⟩).k, .int .i64 (Xf.meet ⟨k, b, c⟩ ⟨k', b', c'⟩).b, .int .i64 (Xf.meet ⟨k, b, c⟩ ⟨k', b', c'⟩).c]) ∧ Below w.heap.size w w' := by
 by_cases h0 : k = k' ∧ b = b' ∧ c = c'
 · obtain ⟨rfl, rfl, rfl⟩ := h0
   clear v1 v2 v3 v4
   go_enter Tryz.func134, Tryz.ntmps134
   go_wp2
   all_goals
     go_returns
     exact ⟨ret_x (by simp_all [Xf.meet]), by go_grown⟩
 · by_cases h1 : (k == 0 || k' == 0 || k == 4 || k' == 4) = true
   · clear v1 v2 v3 v4
     go_enter Tryz.func134, Tryz.ntmps134
     go_wp2
     all_goals first | (go_returns; exact ⟨ret_x (by simp_all [Xf.meet]), by go_grown⟩) | (exfalso; simp_all; done) | (exfalso; simp_all; omega)
   · simp at h1
     obtain rfl | rfl | rfl : k = 1 ∨ k = 2 ∨ k = 3 := by omega
     · obtain rfl | rfl | rfl : k' = 1 ∨ k' = 2 ∨ k' = 3 := by omega
       · exact meet11_any b c b' c' w h0
       · exact meet12_any b c b' c' w h0
       · exact meet13_any b c b' c' w h0
     · obtain rfl | rfl | rfl : k' = 1 ∨ k' = 2 ∨ k' = 3 := by omega
       · exact meet21_any b c b' c' w h0
       · exact meet22_any b c b' c' w h0
       · exact meet23_any b c b' c' w h0
     · obtain rfl | rfl | rfl : k' = 1 ∨ k' = 2 ∨ k' = 3 := by omega
       · exact meet31_any b c b' c' w h0
       · exact meet32_any b c b' c' w h0
       · exact meet33_any b c b' c' w h0
set_option maxHeartbeats 1000000 in
theorem rmeet1_any (k b c k' b' c' : Int) (w : World) (h : k ≤ k') :
   Calls Tryz.prog 162 #[.agg #[.int .i64 k, .int .i64 b, .int .i64 c], .agg #[.int .i64 k', .int .i64 b', .int .i64 c']] w fun e w' => e = .returned (.agg #[.int .i64 (Xf.rmeet ⟨k, b, c⟩ ⟨k', b', c'⟩).k, .int .i64 (Xf.rmeet ⟨k, b, c⟩ ⟨k', b', c'⟩).b, .int .i64 (Xf.rmeet ⟨k, b, c⟩ ⟨k', b', c'⟩).c]) ∧ Below w.heap.size w w' := by
 have h' : decide (k' < k) = false := by simp; omega
 go_enter Tryz.func162, Tryz.ntmps162
 go_wp2_with fail
 all_goals
   go_returns
   exact ⟨ret_x (by simp_all [Xf.rmeet, Xf.rmeet1] <;> (intros; omega)), by go_grown⟩
set_option maxHeartbeats 1000000 in
theorem rmeet_any (k b c k' b' c' : Int) (w : World) :
   Calls Tryz.prog 162 #[.agg #[.int .i64 k, .int .i64 b, .int .i64 c], .agg #[.int .i64 k', .int .i64 b', .int .i64 c']] w fun e w' => e = .returned (.agg #[.int .i64 (Xf.rmeet ⟨k, b, c⟩ ⟨k', b', c'⟩).k, .int .i64 (Xf.rmeet ⟨k, b, c⟩ ⟨k', b', c'⟩).b, .int .i64 (Xf.rmeet ⟨k, b, c⟩ ⟨k', b', c'⟩).c]) ∧ Below w.heap.size w w' := by
 by_cases h : k ≤ k'
 · exact rmeet1_any k b c k' b' c' w h
 · have h1 : k' < k := by omega
   have hne : ¬ k = k' := by omega
   clear h
   by_cases hk : (k == 0) = true
   · go_enter Tryz.func162, Tryz.ntmps162
     go_wp2_with fail
     go_returns
     exact ⟨ret_x (by simp_all [Xf.rmeet]), by go_grown⟩
   by_cases hk' : (k' == 0) = true
   · go_enter Tryz.func162, Tryz.ntmps162
     go_wp2_with fail
     go_returns
     exact ⟨ret_x (by simp_all [Xf.rmeet]), by go_grown⟩
   simp only [Bool.not_eq_true] at hk hk'
   go_enter Tryz.func162, Tryz.ntmps162
   go_upto_region 1 with fail
   refine wp_named (fun W => ∃ b0 b1 b2, w.heap.size = b0 ∧ w.heap.size + 1 = b1 ∧ w.heap.size + 1 + 1 = b2 ∧ Blk W b0 [.int .i64 k, .int .i64 b, .int .i64 c] ∧ Blk W b1 [.int .i64 k', .int .i64 b', .int .i64 c'] ∧ Blk W b2 [.int .i64 0, .int .i64 0, .int .i64 0] ∧ Below w.heap.size w W) ⟨_, _, _, rfl, rfl, rfl, ?_, ?_, ?_, ?_⟩ ?_
   · exact ((Blk.new _ _ _ _ (by simp)).alloc _).alloc _
   · exact (Blk.new _ _ _ _ (by simp)).alloc _
   · exact Blk.new _ _ _ _ (by simp)
   · go_grown
   rintro W ⟨b0, b1, b2, e0, e1, e2, B0, B1, B2, hB⟩
   rw [e2, e1, e0]
   have G0 : w.heap.size ≤ b0 := by omega
   have n01 : b0 ≠ b1 := by omega
   have n02 : b0 ≠ b2 := by omega
   have G1 : w.heap.size ≤ b1 := by omega
   have n10 : b1 ≠ b0 := by omega
   have n12 : b1 ≠ b2 := by omega
   have G2 : w.heap.size ≤ b2 := by omega
   have n20 : b2 ≠ b0 := by omega
   have n21 : b2 ≠ b1 := by omega
   clear e0 e1 e2
   have ⟨L0, C0, F0⟩ := B0
   have ⟨L1, C1, F1⟩ := B1
   have ⟨L2, C2, F2⟩ := B2
   go_wp2_with fail
   refine (rmeet1_any _ _ _ _ _ _ _ (by omega)).mono ?_
   rintro e w1 ⟨rfl, hb1⟩
   have hB1 := below_step hB.size hB hb1
   obtain ⟨hc1, hf1, hg1⟩ := bcell hb1
   go_wp2_with fail
   refine bodyPost_ret (by simp [results, Tryz.results162, go_sem, *]; rfl) rfl ?_
   refine ⟨ret_x ?_, by go_grown⟩
   exact Xf.rmeet_swap h1 (by simpa using hk) (by simpa using hk')
end Go.Proofs.YtincpmdldpakkaaGreatDoor
