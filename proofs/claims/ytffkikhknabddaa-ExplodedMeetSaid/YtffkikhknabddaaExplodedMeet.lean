/- ExplodedMeet: for every problem and paths the law returns true: on a small problem and at most 6 paths Meet of the program returns the facts, or the error, of the reference, and the closed example is as said. No condition. -/
import Derived.Test.YtffkikhknabddaaXu
import Derived.Test.YtffkikhknabddaaLd
import Derived.Test.YtffkikhknabddaaRy
namespace Go.Proofs.Ytffkikhknabddaa
open Go.ChangeShapes Go.WideShapes Go.ChangeAt Go.RowKit Go.Joins Go.Df Go.Df.If

set_option maxRecDepth 100000 in
theorem explodedMeet_lifted (os : Os) (started : os.Started) (H : Type) (enc : TypeId × Value → H) :
    ReturnsInHanded {} Try.checked os 12 .any (Rows.explodedMeetSpec.pre6 enc Try.prog Try.f12 Rows.explodedMeetRow.domain false) (Rows.explodedMeetSpec.post enc Try.prog Try.f12 false true false false) := by
  refine returnsInHanded_of_change (C := Try.checked) Try.own started (by kernel_rfl) Try.func12
    (ChangeSpec.witness6 (enc := enc) (C := Try.checked) false ⟨#[], #[.agg #[.slice none 0 0, .slice none 0 0, .int .i64 0, .int .i64 0, .slice none 0 0, .slice none 0 0], .slice none 0 0], []⟩ 8 (by kernel_rfl) (by kernel_rfl) (by kernel_rfl) (by kernel_rfl)) ?_
  intro W base args ds gs before hval0 hW _ _
  have hval : ∀ (j : Nat) t v, Try.f12.params[j]? = some t → args[j]? = some v → Value.okWide Try.prog W .any base t v := hval0
  have hW' := hW
  obtain ⟨p, q, hA0, hV, rfl, _, _⟩ := hW
  have hA : DataW.TrodAll enc Try.prog W 0 (fun _ => true) true Try.f12.params.toList args.toList ds p := hA0
  rw [Try.params12] at hA hval
  obtain ⟨v0, v1, d0, d1, p0, p1, rfl, rfl, rfl, h0, h1⟩ := trodAll_two hA
  obtain ⟨rfl, rfl⟩ := trodVars_none hV
  obtain ⟨A1, n1, c1, A2, n2, c2, mn, F, A3, n3, c3, A4, n4, c4, ns, es, ls, sd, rfl, hg, hfl, hsd, hn4, hn3, hc4⟩ := open_pb (hval 0 49 v0 rfl rfl) h0
  obtain ⟨A6, n6, c6, rfl⟩ := okWide_slice Try.underlying41 (hval 1 41 v1 rfl rfl)
  obtain ⟨fuel2, h1f⟩ := h1
  obtain ⟨A', n', c', ps, ev, hp⟩ := open_paths h1f
  obtain ⟨rfl, rfl, rfl⟩ : A6 = A' ∧ n6 = n' ∧ c6 = c' := by injection ev with e1 e2 e3; exact ⟨e1, e2, e3⟩
  clear hA0 hval0
  refine (expMeet_any A1 A2 A3 A4 A6 n1 c1 n2 c2 n3 c3 n4 c4 n6 c6 mn F ns es ls sd ps W hg hfl hsd hp hc4).mono fun e W' ⟨he, hw⟩ => ?_
  subst he
  exact ⟨_, rfl, post_true Try.closed (by kernel_rfl) Try.underlying4 rfl rfl rfl hW' hw⟩

theorem explodedMeet_holds : Rows.ExplodedMeetSaid :=
  OpenClaim.holds_of_wide 12 Try.f12 rfl rfl rfl rfl rfl rfl rfl ⟨rfl, rfl, rfl, rfl, rfl⟩ rfl rfl rfl rfl rfl (by kernel_rfl) Try.func12 (by kernel_rfl)
    (of_decide_eq_true (by kernel_rfl)) (by unfold Func.isWrapper; first | (rw [if_pos (by decide +kernel)]; kernel_rfl) | (rw [if_neg (by decide +kernel)]; exact ⟨rfl, rfl⟩))
    (fun os started H enc _ => explodedMeet_lifted os started H enc)

#print axioms explodedMeet_holds
end Go.Proofs.Ytffkikhknabddaa
