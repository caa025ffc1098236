/- VpathGoesOn: for every supergraph, node and path the law returns true: on a small supergraph each edge that Next tells continues a valid path of at most 5 edges, no other edge does, and the path is among All of its length. No condition. -/
import Derived.Test.YtmbihjlflcjlnaaOr
import Derived.Test.YtmbihjlflcjlnaaLg
import Derived.Test.YtmbihjlflcjlnaaRy
namespace Go.Proofs.Ytmbihjlflcjlnaa
open Go.ChangeShapes Go.WideShapes Go.ChangeAt Go.RowKit Go.Joins Go.Df

set_option maxRecDepth 100000 in
theorem vpathGoesOn_lifted (os : Os) (started : os.Started) (H : Type) (enc : TypeId × Value → H) :
    ReturnsInHanded {} Try.checked os 3 .any (Rows.vpathGoesOnSpec.pre6 enc Try.prog Try.f3 Rows.vpathGoesOnRow.domain false) (Rows.vpathGoesOnSpec.post enc Try.prog Try.f3 false true false false) := by
  refine returnsInHanded_of_change (C := Try.checked) Try.own started (by kernel_rfl) Try.func3
    (ChangeSpec.witness6 (enc := enc) (C := Try.checked) false ⟨#[], #[.agg #[.slice none 0 0, .slice none 0 0, .int .i64 0], .int .i64 0, .slice none 0 0], []⟩ 8 (by kernel_rfl) (by kernel_rfl) (by kernel_rfl) (by kernel_rfl)) ?_
  intro W base args ds gs before hval0 hW _ _
  have hval : ∀ (j : Nat) t v, Try.f3.params[j]? = some t → args[j]? = some v → Value.okWide Try.prog W .any base t v := hval0
  have hW' := hW
  obtain ⟨p, q, hA0, hV, rfl, _, _⟩ := hW
  have hA : DataW.TrodAll enc Try.prog W 0 (fun _ => true) true Try.f3.params.toList args.toList ds p := hA0
  rw [Try.params3] at hA hval
  obtain ⟨v0, v1, v2, d0, d1, d2, p0, p1, p2, rfl, rfl, rfl, h0, h1, h2⟩ := trodAll_three hA
  obtain ⟨rfl, rfl⟩ := trodVars_none hV
  obtain ⟨xa, xb, xc, ya, yb, yc, m, rfl, rfl, rfl, hya, hyb, hyc⟩ := open_agg3 Try.underlying25 (by kernel_rfl) (by kernel_rfl) (hval 0 25 v0 rfl rfl) h0
  obtain ⟨A1, n1, c1, A2, n2, c2, ns, es, rfl, rfl, hg⟩ := open_gr hya hyb
  obtain ⟨mn, hmn, -, -⟩ := DataW.trod_int Try.underlying3 hyc
  injection hmn with hmn
  subst hmn
  obtain ⟨fr, rfl, rfl, rfl, wx⟩ := open_int Try.underlying3 (hval 1 3 v1 rfl rfl) h1
  obtain ⟨A3, n3, c3, rfl⟩ := okWide_slice Try.underlying26 (hval 2 26 v2 rfl rfl)
  obtain ⟨fuel2, h2f⟩ := h2
  obtain ⟨A', n', c', path, ev, hp, _⟩ := open_SIn Try.underlying26 Try.underlying3 (by kernel_rfl) h2f
  obtain ⟨rfl, rfl, rfl⟩ : A3 = A' ∧ n3 = n' ∧ c3 = c' := by injection ev with e1 e2 e3; exact ⟨e1, e2, e3⟩
  clear hA0 hval0
  refine (vgoes_any A1 A2 A3 n1 c1 n2 c2 n3 c3 mn fr ns es path W hg hp).mono fun e W' ⟨he, hw⟩ => ?_
  subst he
  exact ⟨_, rfl, post_true Try.closed (by kernel_rfl) Try.underlying4 rfl rfl rfl hW' hw⟩

theorem vpathGoesOn_holds : Rows.VpathGoesOnSaid :=
  OpenClaim.holds_of_wide 3 Try.f3 rfl rfl rfl rfl rfl rfl rfl ⟨rfl, rfl, rfl, rfl, rfl⟩ rfl rfl rfl rfl rfl (by kernel_rfl) Try.func3 (by kernel_rfl)
    (of_decide_eq_true (by kernel_rfl)) (by unfold Func.isWrapper; first | (rw [if_pos (by decide +kernel)]; kernel_rfl) | (rw [if_neg (by decide +kernel)]; exact ⟨rfl, rfl⟩))
    (fun os started H enc _ => vpathGoesOn_lifted os started H enc)

#print axioms vpathGoesOn_holds
end Go.Proofs.Ytmbihjlflcjlnaa
