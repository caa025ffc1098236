/- IfdsSummaries: for every problem the law returns true: on a small problem Summaries of the program returns the summaries, or the error, of the reference, and the closed example is solved as said. No condition. -/
import Derived.Test.YtmbihjlflcjlnaaGreatNz
import Derived.Test.YtmbihjlflcjlnaaGreatZd
namespace Go.Proofs.YtmbihjlflcjlnaaGreat
open Go.ChangeShapes Go.WideShapes Go.ChangeAt Go.RowKit Go.Joins Go.Df Go.Df.If

set_option maxRecDepth 100000 in
theorem ifdsSummaries_lifted (os : Os) (started : os.Started) (H : Type) (enc : TypeId × Value → H) :
    ReturnsInHanded {} Tryz.checked os 4 .any (Rows.ifdsSummariesSpec.pre6 enc Tryz.prog Tryz.f4 Rows.ifdsSummariesRow.domain false) (Rows.ifdsSummariesSpec.post enc Tryz.prog Tryz.f4 false true false false) := by
  refine returnsInHanded_of_change (C := Tryz.checked) Tryz.own started (by kernel_rfl) Tryz.func4
    (ChangeSpec.witness6 (enc := enc) (C := Tryz.checked) false ⟨#[], #[.agg #[.slice none 0 0, .slice none 0 0, .int .i64 0, .int .i64 0, .slice none 0 0, .slice none 0 0]], []⟩ 8 (by kernel_rfl) (by kernel_rfl) (by kernel_rfl) (by kernel_rfl)) ?_
  intro W base args ds gs before hval0 hW _ _
  have hval : ∀ (j : Nat) t v, Tryz.f4.params[j]? = some t → args[j]? = some v → Value.okWide Tryz.prog W .any base t v := hval0
  have hW' := hW
  obtain ⟨p, q, hA0, hV, rfl, _, _⟩ := hW
  have hA : DataW.TrodAll enc Tryz.prog W 0 (fun _ => true) true Tryz.f4.params.toList args.toList ds p := hA0
  rw [Tryz.params4] at hA hval
  obtain ⟨v0, d0, rfl, rfl, h0⟩ := trodAll_one hA
  obtain ⟨rfl, rfl⟩ := trodVars_none hV
  obtain ⟨A1, n1, c1, A2, n2, c2, mn, F, A3, n3, c3, A4, n4, c4, ns, es, ls, sd, rfl, hg, hfl, hsd, hn4, hn3⟩ := open_pb (hval 0 29 v0 rfl rfl) h0
  clear hA0 hval0
  refine (ifdsSums_any (p := ⟨ns, es, mn, F, ls, sd⟩) A1 A2 A3 A4 n1 c1 n2 c2 n3 c3 n4 c4 W hg hfl hsd hn4).mono fun e W' ⟨he, hw⟩ => ?_
  subst he
  exact ⟨_, rfl, post_true Tryz.closed (by kernel_rfl) Tryz.underlying4 rfl rfl rfl hW' hw⟩

theorem ifdsSummaries_holds : Rows.IfdsSummariesSaid :=
  OpenClaim.holds_of_wide 4 Tryz.f4 rfl rfl rfl rfl rfl rfl rfl ⟨rfl, rfl, rfl, rfl, rfl⟩ rfl rfl rfl rfl rfl (by kernel_rfl) Tryz.func4 (by kernel_rfl)
    (of_decide_eq_true (by kernel_rfl)) (by unfold Func.isWrapper; first | (rw [if_pos (by decide +kernel)]; kernel_rfl) | (rw [if_neg (by decide +kernel)]; exact ⟨rfl, rfl⟩))
    (fun os started H enc _ => ifdsSummaries_lifted os started H enc)

#print axioms ifdsSummaries_holds
end Go.Proofs.YtmbihjlflcjlnaaGreat
