/- ExplodedTrail: for every problem, path and trail the law returns true: on a small problem every fact along a valid path of at most 12 edges has a trail along it, which Check accepts, and the end of every trail of at most 40 edges that Check accepts is in the solution. No condition. -/
import Derived.Test.YtffkikhknabddaaGreatXz
import Derived.Test.YtffkikhknabddaaGreatLd
import Derived.Test.YtffkikhknabddaaGreatRy
namespace Go.Proofs.YtffkikhknabddaaGreat
open Go.ChangeShapes Go.WideShapes Go.ChangeAt Go.RowKit Go.Joins Go.Df Go.Df.If

set_option maxRecDepth 100000 in
theorem explodedTrail_lifted (os : Os) (started : os.Started) (H : Type) (enc : TypeId × Value → H) :
    ReturnsInHanded {} Tryz.checked os 3 .any (Rows.explodedTrailSpec.pre6 enc Tryz.prog Tryz.f3 Rows.explodedTrailRow.domain false) (Rows.explodedTrailSpec.post enc Tryz.prog Tryz.f3 false true false false) := by
  refine returnsInHanded_of_change (C := Tryz.checked) Tryz.own started (by kernel_rfl) Tryz.func3
    (ChangeSpec.witness6 (enc := enc) (C := Tryz.checked) false ⟨#[], #[.agg #[.slice none 0 0, .slice none 0 0, .int .i64 0, .int .i64 0, .slice none 0 0, .slice none 0 0], .slice none 0 0, .agg #[.slice none 0 0, .slice none 0 0]], []⟩ 8 (by kernel_rfl) (by kernel_rfl) (by kernel_rfl) (by kernel_rfl)) ?_
  intro W base args ds gs before hval0 hW _ _
  have hval : ∀ (j : Nat) t v, Tryz.f3.params[j]? = some t → args[j]? = some v → Value.okWide Tryz.prog W .any base t v := hval0
  have hW' := hW
  obtain ⟨p, q, hA0, hV, rfl, _, _⟩ := hW
  have hA : DataW.TrodAll enc Tryz.prog W 0 (fun _ => true) true Tryz.f3.params.toList args.toList ds p := hA0
  rw [Tryz.params3] at hA hval
  obtain ⟨v0, v1, v2, d0, d1, d2, p0, p1, p2, rfl, rfl, rfl, h0, h1, h2⟩ := trodAll_three hA
  obtain ⟨rfl, rfl⟩ := trodVars_none hV
  obtain ⟨A1, n1, c1, A2, n2, c2, mn, F, A3, n3, c3, A4, n4, c4, ns, es, ls, sd, rfl, hg, hfl, hsd, hn4, hn3, hc4⟩ := open_pb (hval 0 29 v0 rfl rfl) h0
  obtain ⟨A5, n5, c5, rfl⟩ := okWide_slice Tryz.underlying30 (hval 1 30 v1 rfl rfl)
  obtain ⟨fuel2, h1f⟩ := h1
  obtain ⟨A', n', c', path, ev, hp, _⟩ := open_SIn Tryz.underlying30 Tryz.underlying3 (by kernel_rfl) h1f
  obtain ⟨rfl, rfl, rfl⟩ : A5 = A' ∧ n5 = n' ∧ c5 = c' := by injection ev with e1 e2 e3; exact ⟨e1, e2, e3⟩
  obtain ⟨xa, xb, ya, yb, m, rfl, rfl, rfl, hya, hyb⟩ := open_agg2 Tryz.underlying32 (by kernel_rfl) (by kernel_rfl) (hval 2 32 v2 rfl rfl) h2
  obtain ⟨A6, n6, c6, ed, rfl, hp2, _⟩ := open_SIn Tryz.underlying30 Tryz.underlying3 (by kernel_rfl) hya
  obtain ⟨A7, n7, c7, fs, rfl, hq2, _⟩ := open_SIn Tryz.underlying30 Tryz.underlying3 (by kernel_rfl) hyb
  have hn7 : n7 ≤ 9223372036854775807 := slice_len Tryz.underlying30 hyb
  clear hA0 hval0
  refine (expTrail_any A1 A2 A3 A4 A5 A6 A7 n1 c1 n2 c2 n3 c3 n4 c4 n5 c5 n6 c6 n7 c7 mn F ns es ls sd path ed fs W hg hfl hsd hp.1 hp2.1 hq2.1 hc4 hp.2.1 hn7).mono fun e W' ⟨he, hw⟩ => ?_
  subst he
  exact ⟨_, rfl, post_true Tryz.closed (by kernel_rfl) Tryz.underlying4 rfl rfl rfl hW' hw⟩

theorem explodedTrail_holds : Rows.ExplodedTrailSaid :=
  OpenClaim.holds_of_wide 3 Tryz.f3 rfl rfl rfl rfl rfl rfl rfl ⟨rfl, rfl, rfl, rfl, rfl⟩ rfl rfl rfl rfl rfl (by kernel_rfl) Tryz.func3 (by kernel_rfl)
    (of_decide_eq_true (by kernel_rfl)) (by unfold Func.isWrapper; first | (rw [if_pos (by decide +kernel)]; kernel_rfl) | (rw [if_neg (by decide +kernel)]; exact ⟨rfl, rfl⟩))
    (fun os started H enc _ => explodedTrail_lifted os started H enc)

#print axioms explodedTrail_holds
end Go.Proofs.YtffkikhknabddaaGreat
