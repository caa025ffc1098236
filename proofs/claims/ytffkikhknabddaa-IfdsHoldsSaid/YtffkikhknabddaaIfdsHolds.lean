/- IfdsHolds: for every solution, node and fact the law returns true: Holds of the program answers as that of the reference, and the closed example is solved as said. No condition. -/
import Derived.Test.YtffkikhknabddaaZk
import Derived.Test.YtffkikhknabddaaLd
import Derived.Test.YtffkikhknabddaaRy
namespace Go.Proofs.Ytffkikhknabddaa
open Go.ChangeShapes Go.WideShapes Go.ChangeAt Go.RowKit Go.Joins Go.Df Go.Df.If

set_option maxRecDepth 100000 in
theorem ifdsHolds_lifted (os : Os) (started : os.Started) (H : Type) (enc : TypeId × Value → H) :
    ReturnsInHanded {} Try.checked os 7 .any (Rows.ifdsHoldsSpec.pre6 enc Try.prog Try.f7 Rows.ifdsHoldsRow.domain false) (Rows.ifdsHoldsSpec.post enc Try.prog Try.f7 false true false false) := by
  refine returnsInHanded_of_change (C := Try.checked) Try.own started (by kernel_rfl) Try.func7
    (ChangeSpec.witness6 (enc := enc) (C := Try.checked) false ⟨#[], #[.agg #[.slice none 0 0, .slice none 0 0], .int .i64 0, .int .i64 0], []⟩ 8 (by kernel_rfl) (by kernel_rfl) (by kernel_rfl) (by kernel_rfl)) ?_
  intro W base args ds gs before hval0 hW _ _
  have hval : ∀ (j : Nat) t v, Try.f7.params[j]? = some t → args[j]? = some v → Value.okWide Try.prog W .any base t v := hval0
  have hW' := hW
  obtain ⟨p, q, hA0, hV, rfl, _, _⟩ := hW
  have hA : DataW.TrodAll enc Try.prog W 0 (fun _ => true) true Try.f7.params.toList args.toList ds p := hA0
  rw [Try.params7] at hA hval
  obtain ⟨v0, v1, v2, d0, d1, d2, p0, p1, p2, rfl, rfl, rfl, h0, h1, h2⟩ := trodAll_three hA
  obtain ⟨rfl, rfl⟩ := trodVars_none hV
  obtain ⟨A1, n1, c1, A2, n2, c2, re, fs, rfl, hre, hfs, hn1, hn2⟩ := open_sol (hval 0 53 v0 rfl rfl) h0
  obtain ⟨nd, rfl, -, -, -⟩ := open_int Try.underlying3 (hval 1 3 v1 rfl rfl) h1
  obtain ⟨fc, rfl, -, -, -⟩ := open_int Try.underlying3 (hval 2 3 v2 rfl rfl) h2
  clear hA0 hval0
  refine (ifdsHolds_any A1 A2 n1 c1 n2 c2 re fs nd fc W hre hfs hn1 hn2).mono fun e W' ⟨he, hw⟩ => ?_
  subst he
  exact ⟨_, rfl, post_true Try.closed (by kernel_rfl) Try.underlying4 rfl rfl rfl hW' hw⟩

theorem ifdsHolds_holds : Rows.IfdsHoldsSaid :=
  OpenClaim.holds_of_wide 7 Try.f7 rfl rfl rfl rfl rfl rfl rfl ⟨rfl, rfl, rfl, rfl, rfl⟩ rfl rfl rfl rfl rfl (by kernel_rfl) Try.func7 (by kernel_rfl)
    (of_decide_eq_true (by kernel_rfl)) (by unfold Func.isWrapper; first | (rw [if_pos (by decide +kernel)]; kernel_rfl) | (rw [if_neg (by decide +kernel)]; exact ⟨rfl, rfl⟩))
    (fun os started H enc _ => ifdsHolds_lifted os started H enc)

#print axioms ifdsHolds_holds
end Go.Proofs.Ytffkikhknabddaa
