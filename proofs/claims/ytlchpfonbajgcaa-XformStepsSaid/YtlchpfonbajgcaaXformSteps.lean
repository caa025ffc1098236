/- XformSteps: for every two transformers the law returns true: a meet that differs has fewer steps. No condition. -/
import Derived.Test.YtlchpfonbajgcaaK6
import Derived.Test.YtlchpfonbajgcaaU
import Derived.Lib.SmallJoins
namespace Go.Proofs.Ytlchpfonbajgcaa
open Go.ChangeShapes Go.WideShapes Go.ChangeAt Go.RowKit Go.Joins

theorem xformSteps_all (k0 b0 c0 k1 b1 c1 : Int) (w : World) (_fb0 : wrap64 b0 = b0) (_fc0 : wrap64 c0 = c0) (_fb1 : wrap64 b1 = b1) (_fc1 : wrap64 c1 = c1) :
    Calls Try.prog 5 #[.agg #[.int .i64 k0, .int .i64 b0, .int .i64 c0], .agg #[.int .i64 k1, .int .i64 b1, .int .i64 c1]] w fun e w' => e = .returned (.bool true) ∧ Below w.heap.size w w' := by
  by_cases h : Xf.rcheck ⟨k0, b0, c0⟩ = 0 ∧ Xf.rcheck ⟨k1, b1, c1⟩ = 0
  · obtain ⟨h0, h1⟩ := h
    exact xformSteps_true k0 b0 c0 k1 b1 c1 w h0 h1 
  · exact xformSteps_false k0 b0 c0 k1 b1 c1 w h

set_option maxRecDepth 100000 in
theorem xformSteps_lifted (os : Os) (started : os.Started) (H : Type) (enc : TypeId × Value → H) :
    ReturnsInHanded {} Try.checked os 5 .any (Rows.xformStepsSpec.pre6 enc Try.prog Try.f5 Rows.xformStepsRow.domain false) (Rows.xformStepsSpec.post enc Try.prog Try.f5 false true false false) := by
  refine returnsInHanded_of_change (C := Try.checked) Try.own started (by kernel_rfl) Try.func5
    (ChangeSpec.witness6 (enc := enc) (C := Try.checked) false ⟨#[], #[.agg #[.int .i64 0, .int .i64 0, .int .i64 0], .agg #[.int .i64 0, .int .i64 0, .int .i64 0]], []⟩ 8 (by kernel_rfl) (by kernel_rfl) (by kernel_rfl) (by kernel_rfl)) ?_
  intro W base args ds gs before hval0 hW _ _
  have hval : ∀ (j : Nat) t v, Try.f5.params[j]? = some t → args[j]? = some v → Value.okWide Try.prog W .any base t v := hval0
  have hW' := hW
  obtain ⟨p, q, hA0, hV, rfl, _, _⟩ := hW
  have hA : DataW.TrodAll enc Try.prog W 0 (fun _ => true) true Try.f5.params.toList args.toList ds p := hA0
  rw [Try.params5] at hA hval
  obtain ⟨v0, v1, d0, d1, p0, p1, rfl, rfl, rfl, h0, h1⟩ := trodAll_two hA
  obtain ⟨rfl, rfl⟩ := trodVars_none hV
  obtain ⟨x0a, x0b, x0c, y0a, y0b, y0c, m0, rfl, rfl, rfl, hy0a, hy0b, hy0c⟩ := open_agg3 Try.underlying23 (by kernel_rfl) Try.cells23 (hval 0 23 v0 rfl rfl) h0
  obtain ⟨k0, e0a, rfl, wk0⟩ := DataW.trod_int Try.underlying3 hy0a
  obtain ⟨b0, e0b, rfl, wb0⟩ := DataW.trod_int Try.underlying2 hy0b
  obtain ⟨c0, e0c, rfl, wc0⟩ := DataW.trod_int Try.underlying2 hy0c
  simp at e0a e0b e0c
  subst e0a e0b e0c
  obtain ⟨x1a, x1b, x1c, y1a, y1b, y1c, m1, rfl, rfl, rfl, hy1a, hy1b, hy1c⟩ := open_agg3 Try.underlying23 (by kernel_rfl) Try.cells23 (hval 1 23 v1 rfl rfl) h1
  obtain ⟨k1, e1a, rfl, wk1⟩ := DataW.trod_int Try.underlying3 hy1a
  obtain ⟨b1, e1b, rfl, wb1⟩ := DataW.trod_int Try.underlying2 hy1b
  obtain ⟨c1, e1c, rfl, wc1⟩ := DataW.trod_int Try.underlying2 hy1c
  simp at e1a e1b e1c
  subst e1a e1b e1c
  clear hA0 hval0
  simp only [List.append_nil] at hW'
  refine (xformSteps_all k0 b0 c0 k1 b1 c1 W (fits_of wb0) (fits_of wc0) (fits_of wb1) (fits_of wc1)).mono fun e W' ⟨he, hw⟩ => ?_
  subst he
  exact ⟨_, rfl, _, _, _, [], [], [], hW', trodAll_mk1 (shut_bool Try.underlying4 true), trodAll_mk2 (shut_agg3 (y0 := (.lit (.int .i64 k0), [])) (y1 := (.lit (.int .i64 b0), [])) (y2 := (.lit (.int .i64 c0), [])) Try.underlying23 (by kernel_rfl) Try.cells23 ⟨1, by simp [DataW.trod, Try.underlying3, wk0]⟩ ⟨1, by simp [DataW.trod, Try.underlying2, wb0]⟩ ⟨1, by simp [DataW.trod, Try.underlying2, wc0]⟩) (shut_agg3 (y0 := (.lit (.int .i64 k1), [])) (y1 := (.lit (.int .i64 b1), [])) (y2 := (.lit (.int .i64 c1), [])) Try.underlying23 (by kernel_rfl) Try.cells23 ⟨1, by simp [DataW.trod, Try.underlying3, wk1]⟩ ⟨1, by simp [DataW.trod, Try.underlying2, wb1]⟩ ⟨1, by simp [DataW.trod, Try.underlying2, wc1]⟩), rfl, hw.frame _, fun h => by cases h⟩

theorem xformSteps_holds : Rows.XformStepsSaid :=
  OpenClaim.holds_of_wide 5 Try.f5 rfl rfl rfl rfl rfl rfl rfl ⟨rfl, rfl, rfl, rfl, rfl⟩ rfl rfl rfl rfl rfl (by kernel_rfl) Try.func5 (by kernel_rfl)
    (of_decide_eq_true (by kernel_rfl)) (by unfold Func.isWrapper; first | (rw [if_pos (by decide +kernel)]; kernel_rfl) | (rw [if_neg (by decide +kernel)]; exact ⟨rfl, rfl⟩))
    (fun os started H enc _ => xformSteps_lifted os started H enc)

#print axioms xformSteps_holds
end Go.Proofs.Ytlchpfonbajgcaa
