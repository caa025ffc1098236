/- EnvironSteps: for every problem and path the law returns true: on a small valid problem and a valid path of 1 to 30 edges the values that Along of the program returns follow from those along the path without its last edge. The variable ide.shift reads as its text says: tied. -/
import Derived.Test.YtmjebjjhfoncfaaDoorGb
import Derived.Test.YtmjebjjhfoncfaaDoorEw
import Derived.Test.YtmjebjjhfoncfaaDoorRy
import Derived.Test.YtmjebjjhfoncfaaDoorCards
import Derived.Test.YtmjebjjhfoncfaaDoorTie
import Derived.SevenTiedAt
namespace Go.Proofs.YtmjebjjhfoncfaaDoor
open Go.ChangeShapes Go.WideShapes Go.ChangeAt Go.RowKit Go.Joins Go.Df

set_option maxRecDepth 100000 in
theorem environSteps_lifted (os : Os) (started : os.Started) (H : Type) (enc : TypeId × Value → H) :
    ReturnsInHanded {} Tryd.checked os 5 .any (fun w args => (Rows.environStepsSpec.pre enc Tryd.prog Tryd.f5 [] false w args ∧ laidMetH Tryd.prog [("dataflow/ide.shift", Rows.laid_dataflow_ide_shift)] w) ∧ sizedMet enc Tryd.prog Tryd.f5 (OpenSpec.ofChange Rows.environStepsSpec) false w args)
      (Rows.environStepsSpec.post enc Tryd.prog Tryd.f5 false true false false) := by
  refine returnsInHanded_of_change_and (C := Tryd.checked) (X := fun w _ => laidMetH Tryd.prog [("dataflow/ide.shift", Rows.laid_dataflow_ide_shift)] w) (fun _ _ _ hh h => h.of_heap hh) Tryd.own started (by kernel_rfl) Tryd.func5
    (ChangeSpec.witness_at (enc := enc) (C := Tryd.checked) (os := os) (X := fun w _ => laidMetH Tryd.prog [("dataflow/ide.shift", Rows.laid_dataflow_ide_shift)] w) false (laidWorld os) #[.agg #[.slice none 0 0, .slice none 0 0, .int .i64 0, .int .i64 0, .slice none 0 0, .slice none 0 0], .slice none 0 0] 8 rfl (by kernel_rfl) (by kernel_rfl) (by kernel_rfl) (by kernel_rfl) (by kernel_rfl) (laidWorld_met os _)) ?_
  intro W base args ds gs before hval0 hW _ _ hL _
  have hval : ∀ (j : Nat) t v, Tryd.f5.params[j]? = some t → args[j]? = some v → Value.okWide Tryd.prog W .any base t v := hval0
  have hW' := hW
  obtain ⟨p, q, hA0, hV, rfl, _, _⟩ := hW
  have hA : DataW.TrodAll enc Tryd.prog W 0 (fun _ => true) true Tryd.f5.params.toList args.toList ds p := hA0
  rw [Tryd.params5] at hA hval
  obtain ⟨v0, v1, d0, d1, p0, p1, rfl, rfl, rfl, h0, h1⟩ := trodAll_two hA
  obtain ⟨rfl, rfl⟩ := trodVars_none hV
  have hgv := gv_of_laid hL
  obtain ⟨A1, n1, c1, A2, n2, c2, mn, F, A3, n3, c3, A4, n4, c4, ns, es, ls, sd, rfl, hg, hf, hs, hc4⟩ := open_vp (hval 0 29 v0 rfl rfl) h0
  obtain ⟨A5, n5, c5, rfl⟩ := okWide_slice Tryd.underlying30 (hval 1 30 v1 rfl rfl)
  obtain ⟨fuel2, h2f⟩ := h1
  obtain ⟨A', n', c', path, ev, hp, _⟩ := open_SIn Tryd.underlying30 Tryd.underlying3 (by kernel_rfl) h2f
  obtain ⟨rfl, rfl, rfl⟩ : A5 = A' ∧ n5 = n' ∧ c5 = c' := by injection ev with e1 e2 e3; exact ⟨e1, e2, e3⟩
  clear hA0 hval0
  refine (envSteps_any A1 A2 A3 A4 A5 n1 c1 n2 c2 n3 c3 n4 c4 n5 c5 mn F ns es ls sd path W hg hf hs hp hc4 hgv).mono fun e W' ⟨he, hw⟩ => ?_
  subst he
  exact ⟨_, rfl, post_true Tryd.closed (by kernel_rfl) Tryd.underlying4 rfl rfl rfl hW' hw⟩

theorem environSteps_row : Rows.EnvironStepsSaid :=
  OpenClaim.holds_of_wide 5 Tryd.f5 rfl rfl rfl rfl rfl rfl rfl ⟨rfl, rfl, rfl, rfl, rfl⟩ rfl rfl rfl rfl rfl (by kernel_rfl) Tryd.func5 (by kernel_rfl)
    (of_decide_eq_true (by kernel_rfl)) (by unfold Func.isWrapper; first | (rw [if_pos (by decide +kernel)]; kernel_rfl) | (rw [if_neg (by decide +kernel)]; exact ⟨rfl, rfl⟩))
    (fun os started H enc _ => environSteps_lifted os started H enc)

theorem environSteps_holds : Rows.EnvironStepsCardSaid :=
  Claim7.holds_tied_plain_at .later [] [.data] true (true, "f615c8135081c0bbf234a179e40940b761b53f711b0fb4a078f9e7613e0daf23") false
    environSteps_row (fun _ h => by cases h) (by kernel_rfl) (fun _ h => by cases h) environSteps_row_tie rfl ⟨rfl, rfl⟩ (by kernel_rfl) rfl
    (fun f fn hf hfn => by
      obtain rfl : f = 5 := Option.some.inj ((show Tryd.prog.funcNamed "dataflow/dataflowlaw34.EnvironSteps" = some 5 by kernel_rfl).symm.trans hf) |>.symm
      obtain rfl : fn = Tryd.f5 := (Option.some.inj (Tryd.func5.symm.trans hfn)).symm
      exact ⟨by kernel_rfl, fun j t ht => by
        rw [Tryd.params5] at ht
        have hm : t ∈ [29, 30] := by simpa using Array.mem_of_getElem? ht
        have hall : ([29, 30].all fun u => !Tryd.prog.wantsStandIn u) = true := by kernel_rfl
        exact (show Tryd.prog.wantsStandIn t = false by simpa using List.all_eq_true.1 hall t hm)⟩)
    (by kernel_rfl)
#print axioms environSteps_holds
end Go.Proofs.YtmjebjjhfoncfaaDoor
