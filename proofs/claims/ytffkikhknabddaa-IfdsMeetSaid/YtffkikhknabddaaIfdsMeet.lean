/- IfdsMeet: for every problem and path the law returns true: on a small valid problem what holds along a valid path of at most 30 edges is in the solution, and where no valid path from Main has more than 9 edges, and there are fewer than 2000, the solution is the meet over the valid paths; the closed example is solved as said. No condition. -/
import Derived.Test.YtffkikhknabddaaZm
import Derived.Test.YtffkikhknabddaaZd
namespace Go.Proofs.Ytffkikhknabddaa
open Go.ChangeShapes Go.WideShapes Go.ChangeAt Go.RowKit Go.Joins Go.Df Go.Df.If

set_option maxRecDepth 100000 in
theorem ifdsMeet_lifted (os : Os) (started : os.Started) (H : Type) (enc : TypeId × Value → H) :
    ReturnsInHanded {} Try.checked os 8 .any (Rows.ifdsMeetSpec.pre6 enc Try.prog Try.f8 Rows.ifdsMeetRow.domain false) (Rows.ifdsMeetSpec.post enc Try.prog Try.f8 false true false false) := by
  refine returnsInHanded_of_change (C := Try.checked) Try.own started (by kernel_rfl) Try.func8
    (ChangeSpec.witness6 (enc := enc) (C := Try.checked) false ⟨#[], #[.agg #[.slice none 0 0, .slice none 0 0, .int .i64 0, .int .i64 0, .slice none 0 0, .slice none 0 0], .slice none 0 0], []⟩ 8 (by kernel_rfl) (by kernel_rfl) (by kernel_rfl) (by kernel_rfl)) ?_
  intro W base args ds gs before hval0 hW _ _
  have hval : ∀ (j : Nat) t v, Try.f8.params[j]? = some t → args[j]? = some v → Value.okWide Try.prog W .any base t v := hval0
  have hW' := hW
  obtain ⟨p, q, hA0, hV, rfl, _, _⟩ := hW
  have hA : DataW.TrodAll enc Try.prog W 0 (fun _ => true) true Try.f8.params.toList args.toList ds p := hA0
  rw [Try.params8] at hA hval
  obtain ⟨v0, v1, d0, d1, p0, p1, rfl, rfl, rfl, h0, h1⟩ := trodAll_two hA
  obtain ⟨rfl, rfl⟩ := trodVars_none hV
  obtain ⟨A1, n1, c1, A2, n2, c2, mn, F, A3, n3, c3, A4, n4, c4, ns, es, ls, sd, rfl, hg, hfl, hsd, hn4, hn3⟩ := open_pb (hval 0 49 v0 rfl rfl) h0
  obtain ⟨A5, n5, c5, rfl⟩ := okWide_slice Try.underlying26 (hval 1 26 v1 rfl rfl)
  obtain ⟨fuel2, h1f⟩ := h1
  obtain ⟨A', n', c', path, ev, hp, _⟩ := open_SIn Try.underlying26 Try.underlying3 (by kernel_rfl) h1f
  obtain ⟨rfl, rfl, rfl⟩ : A5 = A' ∧ n5 = n' ∧ c5 = c' := by injection ev with e1 e2 e3; exact ⟨e1, e2, e3⟩
  clear hA0 hval0
  refine (ifdsMeet_any (p := ⟨ns, es, mn, F, ls, sd⟩) A1 A2 A3 A4 A5 n1 c1 n2 c2 n3 c3 n4 c4 n5 c5 path W hg hfl hsd hp.1 hn4).mono fun e W' ⟨he, hw⟩ => ?_
  subst he
  exact ⟨_, rfl, post_true Try.closed (by kernel_rfl) Try.underlying4 rfl rfl rfl hW' hw⟩

theorem ifdsMeet_holds : Rows.IfdsMeetSaid :=
  OpenClaim.holds_of_wide 8 Try.f8 rfl rfl rfl rfl rfl rfl rfl ⟨rfl, rfl, rfl, rfl, rfl⟩ rfl rfl rfl rfl rfl (by kernel_rfl) Try.func8 (by kernel_rfl)
    (of_decide_eq_true (by kernel_rfl)) (by unfold Func.isWrapper; first | (rw [if_pos (by decide +kernel)]; kernel_rfl) | (rw [if_neg (by decide +kernel)]; exact ⟨rfl, rfl⟩))
    (fun os started H enc _ => ifdsMeet_lifted os started H enc)

#print axioms ifdsMeet_holds
end Go.Proofs.Ytffkikhknabddaa
