/- XformLattice: for every three transformers the law returns true: Compose and Meet obey the lattice laws. No condition. -/
import Derived.Test.YtlchpfonbajgcaaK5
import Derived.Test.YtlchpfonbajgcaaU
import Derived.Lib.SmallJoins
namespace Go.Proofs.Ytlchpfonbajgcaa
open Go.ChangeShapes Go.WideShapes Go.ChangeAt Go.RowKit Go.Joins

theorem xformLattice_all (k0 b0 c0 k1 b1 c1 k2 b2 c2 : Int) (w : World) (fb0 : wrap64 b0 = b0) (fc0 : wrap64 c0 = c0) (fb1 : wrap64 b1 = b1) (fc1 : wrap64 c1 = c1) (fb2 : wrap64 b2 = b2) (fc2 : wrap64 c2 = c2) :
    Calls Try.prog 4 #[.agg #[.int .i64 k0, .int .i64 b0, .int .i64 c0], .agg #[.int .i64 k1, .int .i64 b1, .int .i64 c1], .agg #[.int .i64 k2, .int .i64 b2, .int .i64 c2]] w fun e w' => e = .returned (.bool true) ∧ Below w.heap.size w w' := by
  by_cases h : Xf.rcheck ⟨k0, b0, c0⟩ = 0 ∧ Xf.rcheck ⟨k1, b1, c1⟩ = 0 ∧ Xf.rcheck ⟨k2, b2, c2⟩ = 0
  · obtain ⟨h0, h1, h2⟩ := h
    exact xformLattice_true k0 b0 c0 k1 b1 c1 k2 b2 c2 w h0 h1 h2 fb0 fc0 fb1 fc1 fb2 fc2
  · exact xformLattice_false k0 b0 c0 k1 b1 c1 k2 b2 c2 w h

set_option maxRecDepth 100000 in
theorem xformLattice_lifted (os : Os) (started : os.Started) (H : Type) (enc : TypeId × Value → H) :
    ReturnsInHanded {} Try.checked os 4 .any (Rows.xformLatticeSpec.pre6 enc Try.prog Try.f4 Rows.xformLatticeRow.domain false) (Rows.xformLatticeSpec.post enc Try.prog Try.f4 false true false false) := by
  refine returnsInHanded_of_change (C := Try.checked) Try.own started (by kernel_rfl) Try.func4
    (ChangeSpec.witness6 (enc := enc) (C := Try.checked) false ⟨#[], #[.agg #[.int .i64 0, .int .i64 0, .int .i64 0], .agg #[.int .i64 0, .int .i64 0, .int .i64 0], .agg #[.int .i64 0, .int .i64 0, .int .i64 0]], []⟩ 8 (by kernel_rfl) (by kernel_rfl) (by kernel_rfl) (by kernel_rfl)) ?_
  intro W base args ds gs before hval0 hW _ _
  have hval : ∀ (j : Nat) t v, Try.f4.params[j]? = some t → args[j]? = some v → Value.okWide Try.prog W .any base t v := hval0
  have hW' := hW
  obtain ⟨p, q, hA0, hV, rfl, _, _⟩ := hW
  have hA : DataW.TrodAll enc Try.prog W 0 (fun _ => true) true Try.f4.params.toList args.toList ds p := hA0
  rw [Try.params4] at hA hval
  obtain ⟨v0, v1, v2, d0, d1, d2, p0, p1, p2, rfl, rfl, rfl, h0, h1, h2⟩ := trodAll_three hA
  obtain ⟨rfl, rfl⟩ := trodVars_none hV
  obtain ⟨x0a, x0b, x0c, y0a, y0b, y0c, m0, rfl, rfl, rfl, hy0a, hy0b, hy0c⟩ := open_agg3 Try.underlying23 (by kernel_rfl) Try.cells23 (hval 0 23 v0 rfl rfl) h0
  obtain ⟨k0, e0a, rfl, wk0⟩ := DataW.trod_int Try.underlying3 hy0a
  obtain ⟨b0, e0b, rfl, wb0⟩ := DataW.trod_int Try.underlying2 hy0b
  obtain ⟨c0, e0c, rfl, wc0⟩ := DataW.trod_int Try.underlying2 hy0c
  simp at e0a e0b e0c
  subst e0a e0b e0c
  obtain ⟨x1a, x1b, x1c, y1a, y1b, y1c, m1, rfl, rfl, rfl, hy1a, hy1b, hy1c⟩ := open_agg3 Try.underlying23 (by kernel_rfl) Try.cells23 (hval 1 23 v1 rfl rfl) h1
  obtain ⟨k1, e1a, rfl, wk1⟩ := DataW.trod_int Try.underlying3 hy1a
  obtain ⟨b1, e1b, rfl, wb1⟩ := DataW.trod_int Try.underlying2 hy1b
  obtain ⟨c1, e1c, rfl, wc1⟩ := DataW.trod_int Try.underlying2 hy1c
  simp at e1a e1b e1c
  subst e1a e1b e1c
  obtain ⟨x2a, x2b, x2c, y2a, y2b, y2c, m2, rfl, rfl, rfl, hy2a, hy2b, hy2c⟩ := open_agg3 Try.underlying23 (by kernel_rfl) Try.cells23 (hval 2 23 v2 rfl rfl) h2
  obtain ⟨k2, e2a, rfl, wk2⟩ := DataW.trod_int Try.underlying3 hy2a
  obtain ⟨b2, e2b, rfl, wb2⟩ := DataW.trod_int Try.underlying2 hy2b
  obtain ⟨c2, e2c, rfl, wc2⟩ := DataW.trod_int Try.underlying2 hy2c
  simp at e2a e2b e2c
  subst e2a e2b e2c
  clear hA0 hval0
  simp only [List.append_nil] at hW'
  refine (xformLattice_all k0 b0 c0 k1 b1 c1 k2 b2 c2 W (fits_of wb0) (fits_of wc0) (fits_of wb1) (fits_of wc1) (fits_of wb2) (fits_of wc2)).mono fun e W' ⟨he, hw⟩ => ?_
  subst he
  exact ⟨_, rfl, _, _, _, [], [], [], hW', trodAll_mk1 (shut_bool Try.underlying4 true), trodAll_mk3 (shut_agg3 (y0 := (.lit (.int .i64 k0), [])) (y1 := (.lit (.int .i64 b0), [])) (y2 := (.lit (.int .i64 c0), [])) Try.underlying23 (by kernel_rfl) Try.cells23 ⟨1, by simp [DataW.trod, Try.underlying3, wk0]⟩ ⟨1, by simp [DataW.trod, Try.underlying2, wb0]⟩ ⟨1, by simp [DataW.trod, Try.underlying2, wc0]⟩) (shut_agg3 (y0 := (.lit (.int .i64 k1), [])) (y1 := (.lit (.int .i64 b1), [])) (y2 := (.lit (.int .i64 c1), [])) Try.underlying23 (by kernel_rfl) Try.cells23 ⟨1, by simp [DataW.trod, Try.underlying3, wk1]⟩ ⟨1, by simp [DataW.trod, Try.underlying2, wb1]⟩ ⟨1, by simp [DataW.trod, Try.underlying2, wc1]⟩) (shut_agg3 (y0 := (.lit (.int .i64 k2), [])) (y1 := (.lit (.int .i64 b2), [])) (y2 := (.lit (.int .i64 c2), [])) Try.underlying23 (by kernel_rfl) Try.cells23 ⟨1, by simp [DataW.trod, Try.underlying3, wk2]⟩ ⟨1, by simp [DataW.trod, Try.underlying2, wb2]⟩ ⟨1, by simp [DataW.trod, Try.underlying2, wc2]⟩), rfl, hw.frame _, fun h => by cases h⟩

theorem xformLattice_holds : Rows.XformLatticeSaid :=
  OpenClaim.holds_of_wide 4 Try.f4 rfl rfl rfl rfl rfl rfl rfl ⟨rfl, rfl, rfl, rfl, rfl⟩ rfl rfl rfl rfl rfl (by kernel_rfl) Try.func4 (by kernel_rfl)
    (of_decide_eq_true (by kernel_rfl)) (by unfold Func.isWrapper; first | (rw [if_pos (by decide +kernel)]; kernel_rfl) | (rw [if_neg (by decide +kernel)]; exact ⟨rfl, rfl⟩))
    (fun os started H enc _ => xformLattice_lifted os started H enc)

#print axioms xformLattice_holds
end Go.Proofs.Ytlchpfonbajgcaa
