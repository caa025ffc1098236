/- XformDistributes: for every transformer and two values the law returns true. No condition. -/
import Derived.Test.YtlchpfonbajgcaaK3
import Derived.Test.YtlchpfonbajgcaaU
import Derived.Lib.SmallJoins
namespace Go.Proofs.Ytlchpfonbajgcaa
open Go.ChangeShapes Go.WideShapes Go.ChangeAt Go.RowKit Go.Joins

theorem xformDistributes_all (k0 b0 c0 k1 n1 k2 n2 : Int) (w : World) (_fb0 : wrap64 b0 = b0) (_fc0 : wrap64 c0 = c0) (fn1 : wrap64 n1 = n1) (fn2 : wrap64 n2 = n2) :
    Calls Try.prog 8 #[.agg #[.int .i64 k0, .int .i64 b0, .int .i64 c0], .agg #[.int .i64 k1, .int .i64 n1], .agg #[.int .i64 k2, .int .i64 n2]] w fun e w' => e = .returned (.bool true) ∧ Below w.heap.size w w' := by
  by_cases h : Xf.rcheck ⟨k0, b0, c0⟩ = 0 ∧ Xf.rcheckV ⟨k1, n1⟩ = 0 ∧ Xf.rcheckV ⟨k2, n2⟩ = 0
  · obtain ⟨h0, h1, h2⟩ := h
    exact xformDistributes_true k0 b0 c0 k1 n1 k2 n2 w h0 h1 h2 fn1 fn2
  · exact xformDistributes_false k0 b0 c0 k1 n1 k2 n2 w h

set_option maxRecDepth 100000 in
theorem xformDistributes_lifted (os : Os) (started : os.Started) (H : Type) (enc : TypeId × Value → H) :
    ReturnsInHanded {} Try.checked os 8 .any (Rows.xformDistributesSpec.pre6 enc Try.prog Try.f8 Rows.xformDistributesRow.domain false) (Rows.xformDistributesSpec.post enc Try.prog Try.f8 false true false false) := by
  refine returnsInHanded_of_change (C := Try.checked) Try.own started (by kernel_rfl) Try.func8
    (ChangeSpec.witness6 (enc := enc) (C := Try.checked) false ⟨#[], #[.agg #[.int .i64 0, .int .i64 0, .int .i64 0], .agg #[.int .i64 0, .int .i64 0], .agg #[.int .i64 0, .int .i64 0]], []⟩ 8 (by kernel_rfl) (by kernel_rfl) (by kernel_rfl) (by kernel_rfl)) ?_
  intro W base args ds gs before hval0 hW _ _
  have hval : ∀ (j : Nat) t v, Try.f8.params[j]? = some t → args[j]? = some v → Value.okWide Try.prog W .any base t v := hval0
  have hW' := hW
  obtain ⟨p, q, hA0, hV, rfl, _, _⟩ := hW
  have hA : DataW.TrodAll enc Try.prog W 0 (fun _ => true) true Try.f8.params.toList args.toList ds p := hA0
  rw [Try.params8] at hA hval
  obtain ⟨v0, v1, v2, d0, d1, d2, p0, p1, p2, rfl, rfl, rfl, h0, h1, h2⟩ := trodAll_three hA
  obtain ⟨rfl, rfl⟩ := trodVars_none hV
  obtain ⟨x0a, x0b, x0c, y0a, y0b, y0c, m0, rfl, rfl, rfl, hy0a, hy0b, hy0c⟩ := open_agg3 Try.underlying23 (by kernel_rfl) Try.cells23 (hval 0 23 v0 rfl rfl) h0
  obtain ⟨k0, e0a, rfl, wk0⟩ := DataW.trod_int Try.underlying3 hy0a
  obtain ⟨b0, e0b, rfl, wb0⟩ := DataW.trod_int Try.underlying2 hy0b
  obtain ⟨c0, e0c, rfl, wc0⟩ := DataW.trod_int Try.underlying2 hy0c
  simp at e0a e0b e0c
  subst e0a e0b e0c
  obtain ⟨x1a, x1b, y1a, y1b, m1, rfl, rfl, rfl, hy1a, hy1b⟩ := open_agg2 Try.underlying26 (by kernel_rfl) Try.cells26 (hval 1 26 v1 rfl rfl) h1
  obtain ⟨k1, e1a, rfl, wk1⟩ := DataW.trod_int Try.underlying3 hy1a
  obtain ⟨n1, e1b, rfl, wn1⟩ := DataW.trod_int Try.underlying2 hy1b
  simp at e1a e1b
  subst e1a e1b
  obtain ⟨x2a, x2b, y2a, y2b, m2, rfl, rfl, rfl, hy2a, hy2b⟩ := open_agg2 Try.underlying26 (by kernel_rfl) Try.cells26 (hval 2 26 v2 rfl rfl) h2
  obtain ⟨k2, e2a, rfl, wk2⟩ := DataW.trod_int Try.underlying3 hy2a
  obtain ⟨n2, e2b, rfl, wn2⟩ := DataW.trod_int Try.underlying2 hy2b
  simp at e2a e2b
  subst e2a e2b
  clear hA0 hval0
  simp only [List.append_nil] at hW'
  refine (xformDistributes_all k0 b0 c0 k1 n1 k2 n2 W (fits_of wb0) (fits_of wc0) (fits_of wn1) (fits_of wn2)).mono fun e W' ⟨he, hw⟩ => ?_
  subst he
  exact ⟨_, rfl, _, _, _, [], [], [], hW', trodAll_mk1 (shut_bool Try.underlying4 true), trodAll_mk3 (shut_agg3 (y0 := (.lit (.int .i64 k0), [])) (y1 := (.lit (.int .i64 b0), [])) (y2 := (.lit (.int .i64 c0), [])) Try.underlying23 (by kernel_rfl) Try.cells23 ⟨1, by simp [DataW.trod, Try.underlying3, wk0]⟩ ⟨1, by simp [DataW.trod, Try.underlying2, wb0]⟩ ⟨1, by simp [DataW.trod, Try.underlying2, wc0]⟩) (shut_agg2 (y0 := (.lit (.int .i64 k1), [])) (y1 := (.lit (.int .i64 n1), [])) Try.underlying26 (by kernel_rfl) Try.cells26 ⟨1, by simp [DataW.trod, Try.underlying3, wk1]⟩ ⟨1, by simp [DataW.trod, Try.underlying2, wn1]⟩) (shut_agg2 (y0 := (.lit (.int .i64 k2), [])) (y1 := (.lit (.int .i64 n2), [])) Try.underlying26 (by kernel_rfl) Try.cells26 ⟨1, by simp [DataW.trod, Try.underlying3, wk2]⟩ ⟨1, by simp [DataW.trod, Try.underlying2, wn2]⟩), rfl, hw.frame _, fun h => by cases h⟩

theorem xformDistributes_holds : Rows.XformDistributesSaid :=
  OpenClaim.holds_of_wide 8 Try.f8 rfl rfl rfl rfl rfl rfl rfl ⟨rfl, rfl, rfl, rfl, rfl⟩ rfl rfl rfl rfl rfl (by kernel_rfl) Try.func8 (by kernel_rfl)
    (of_decide_eq_true (by kernel_rfl)) (by unfold Func.isWrapper; first | (rw [if_pos (by decide +kernel)]; kernel_rfl) | (rw [if_neg (by decide +kernel)]; exact ⟨rfl, rfl⟩))
    (fun os started H enc _ => xformDistributes_lifted os started H enc)

#print axioms xformDistributes_holds
end Go.Proofs.Ytlchpfonbajgcaa
