/- WorklistOnce: for every worklist and number the law returns true: a second push changes nothing, and Pop keeps all others in order. No condition. -/
import Derived.Test.YthliphpcfnbmnaaOn
import Derived.Test.YthliphpcfnbmnaaRz
namespace Go.Proofs.Ythliphpcfnbmnaa
open Go.ChangeShapes Go.WideShapes Go.ChangeAt Go.RowKit Go.Joins Go.Df

set_option maxRecDepth 100000 in
theorem worklistOnce_lifted (os : Os) (started : os.Started) (H : Type) (enc : TypeId × Value → H) :
    ReturnsInHanded {} Try.checked os 7 .any (Rows.worklistOnceSpec.pre6 enc Try.prog Try.f7 Rows.worklistOnceRow.domain false) (Rows.worklistOnceSpec.post enc Try.prog Try.f7 false true false false) := by
  refine returnsInHanded_of_change (C := Try.checked) Try.own started (by kernel_rfl) Try.func7
    (ChangeSpec.witness6 (enc := enc) (C := Try.checked) false ⟨#[], #[.agg #[.slice none 0 0, .slice none 0 0], .int .i64 0], []⟩ 8 (by kernel_rfl) (by kernel_rfl) (by kernel_rfl) (by kernel_rfl)) ?_
  intro W base args ds gs before hval0 hW _ _
  have hval : ∀ (j : Nat) t v, Try.f7.params[j]? = some t → args[j]? = some v → Value.okWide Try.prog W .any base t v := hval0
  have hW' := hW
  obtain ⟨p, q, hA0, hV, rfl, _, _⟩ := hW
  have hA : DataW.TrodAll enc Try.prog W 0 (fun _ => true) true Try.f7.params.toList args.toList ds p := hA0
  rw [Try.params7] at hA hval
  obtain ⟨v0, v1, d0, d1, p0, p1, rfl, rfl, rfl, h0, h1⟩ := trodAll_two hA
  obtain ⟨rfl, rfl⟩ := trodVars_none hV
  obtain ⟨xa, xb, ya, yb, m, rfl, rfl, rfl, hya, hyb⟩ := open_agg2 Try.underlying25 (by kernel_rfl) (by kernel_rfl) (hval 0 25 v0 rfl rfl) h0
  obtain ⟨A1, n1, c1, r, rfl, hr, _⟩ := open_SIn Try.underlying22 Try.underlying3 (by kernel_rfl) hya
  obtain ⟨A2, n2, c2, l, rfl, hl, _⟩ := open_SIn Try.underlying22 Try.underlying3 (by kernel_rfl) hyb
  obtain ⟨x, rfl, rfl, rfl, wx⟩ := open_int Try.underlying3 (hval 1 3 v1 rfl rfl) h1
  clear hA0 hval0
  refine (once_any A1 A2 n1 c1 n2 c2 r l x W hr hl).mono fun e W' ⟨he, hw⟩ => ?_
  subst he
  exact ⟨_, rfl, post_true Try.closed (by kernel_rfl) Try.underlying4 rfl rfl rfl hW' hw⟩

theorem worklistOnce_holds : Rows.WorklistOnceSaid :=
  OpenClaim.holds_of_wide 7 Try.f7 rfl rfl rfl rfl rfl rfl rfl ⟨rfl, rfl, rfl, rfl, rfl⟩ rfl rfl rfl rfl rfl (by kernel_rfl) Try.func7 (by kernel_rfl)
    (of_decide_eq_true (by kernel_rfl)) (by unfold Func.isWrapper; first | (rw [if_pos (by decide +kernel)]; kernel_rfl) | (rw [if_neg (by decide +kernel)]; exact ⟨rfl, rfl⟩))
    (fun os started H enc _ => worklistOnce_lifted os started H enc)

#print axioms worklistOnce_holds
end Go.Proofs.Ythliphpcfnbmnaa
