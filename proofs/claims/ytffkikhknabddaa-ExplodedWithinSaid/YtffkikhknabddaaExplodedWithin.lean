/- ExplodedWithin: for every two solutions the law returns true: Within of the program reports what the reference reports, every solution is within itself, and the closed example is as said. No condition. -/
import Derived.Test.YtffkikhknabddaaXw
import Derived.Test.YtffkikhknabddaaRy
namespace Go.Proofs.Ytffkikhknabddaa
open Go.ChangeShapes Go.WideShapes Go.ChangeAt Go.RowKit Go.Joins Go.Df Go.Df.If

set_option maxRecDepth 100000 in
theorem explodedWithin_lifted (os : Os) (started : os.Started) (H : Type) (enc : TypeId × Value → H) :
    ReturnsInHanded {} Try.checked os 13 .any (Rows.explodedWithinSpec.pre6 enc Try.prog Try.f13 Rows.explodedWithinRow.domain false) (Rows.explodedWithinSpec.post enc Try.prog Try.f13 false true false false) := by
  refine returnsInHanded_of_change (C := Try.checked) Try.own started (by kernel_rfl) Try.func13
    (ChangeSpec.witness6 (enc := enc) (C := Try.checked) false ⟨#[], #[.agg #[.slice none 0 0, .slice none 0 0], .agg #[.slice none 0 0, .slice none 0 0]], []⟩ 8 (by kernel_rfl) (by kernel_rfl) (by kernel_rfl) (by kernel_rfl)) ?_
  intro W base args ds gs before hval0 hW _ _
  have hval : ∀ (j : Nat) t v, Try.f13.params[j]? = some t → args[j]? = some v → Value.okWide Try.prog W .any base t v := hval0
  have hW' := hW
  obtain ⟨p, q, hA0, hV, rfl, _, _⟩ := hW
  have hA : DataW.TrodAll enc Try.prog W 0 (fun _ => true) true Try.f13.params.toList args.toList ds p := hA0
  rw [Try.params13] at hA hval
  obtain ⟨v0, v1, d0, d1, p0, p1, rfl, rfl, rfl, h0, h1⟩ := trodAll_two hA
  obtain ⟨rfl, rfl⟩ := trodVars_none hV
  obtain ⟨A1, n1, c1, A2, n2, c2, re, fs, rfl, hre, hfs, hn1, hn2, hwa⟩ := open_solF (hval 0 53 v0 rfl rfl) h0
  obtain ⟨B1, m1, d1, B2, m2, d2, re', fs', rfl, hre', hfs', hm1, hm2, hwb⟩ := open_solF (hval 1 53 v1 rfl rfl) h1
  clear hA0 hval0
  refine (expWithin_any A1 A2 B1 B2 n1 c1 n2 c2 m1 d1 m2 d2 re re' fs fs' W hre hfs hre' hfs' hn1 hn2 hm1 hm2 hwa hwb).mono fun e W' ⟨he, hw⟩ => ?_
  subst he
  exact ⟨_, rfl, post_true Try.closed (by kernel_rfl) Try.underlying4 rfl rfl rfl hW' hw⟩

theorem explodedWithin_holds : Rows.ExplodedWithinSaid :=
  OpenClaim.holds_of_wide 13 Try.f13 rfl rfl rfl rfl rfl rfl rfl ⟨rfl, rfl, rfl, rfl, rfl⟩ rfl rfl rfl rfl rfl (by kernel_rfl) Try.func13 (by kernel_rfl)
    (of_decide_eq_true (by kernel_rfl)) (by unfold Func.isWrapper; first | (rw [if_pos (by decide +kernel)]; kernel_rfl) | (rw [if_neg (by decide +kernel)]; exact ⟨rfl, rfl⟩))
    (fun os started H enc _ => explodedWithin_lifted os started H enc)

#print axioms explodedWithin_holds
end Go.Proofs.Ytffkikhknabddaa
