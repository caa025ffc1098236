/- EnvironAbove: for all solutions the law returns true: Above of the program reports what the reference reports, and every solution is above itself. The variable ide.shift reads as its text says: tied. -/
import Derived.Test.YtmjebjjhfoncfaaDoorEy
import Derived.Test.YtmjebjjhfoncfaaDoorRy
import Derived.Test.YtmjebjjhfoncfaaDoorCards
import Derived.Test.YtmjebjjhfoncfaaDoorTie
import Derived.SevenTiedAt
namespace Go.Proofs.YtmjebjjhfoncfaaDoor
open Go.ChangeShapes Go.WideShapes Go.ChangeAt Go.RowKit Go.Joins Go.Df

set_option maxRecDepth 100000 in
theorem environAbove_lifted (os : Os) (started : os.Started) (H : Type) (enc : TypeId × Value → H) :
    ReturnsInHanded {} Tryd.checked os 4 .any (fun w args => (Rows.environAboveSpec.pre enc Tryd.prog Tryd.f4 [] false w args ∧ laidMetH Tryd.prog [("dataflow/ide.shift", Rows.laid_dataflow_ide_shift)] w) ∧ sizedMet enc Tryd.prog Tryd.f4 (OpenSpec.ofChange Rows.environAboveSpec) false w args)
      (Rows.environAboveSpec.post enc Tryd.prog Tryd.f4 false true false false) := by
  refine returnsInHanded_of_change_and (C := Tryd.checked) (X := fun w _ => laidMetH Tryd.prog [("dataflow/ide.shift", Rows.laid_dataflow_ide_shift)] w) (fun _ _ _ hh h => h.of_heap hh) Tryd.own started (by kernel_rfl) Tryd.func4
    (ChangeSpec.witness_at (enc := enc) (C := Tryd.checked) (os := os) (X := fun w _ => laidMetH Tryd.prog [("dataflow/ide.shift", Rows.laid_dataflow_ide_shift)] w) false (laidWorld os) #[.agg #[.slice none 0 0], .agg #[.slice none 0 0]] 8 rfl (by kernel_rfl) (by kernel_rfl) (by kernel_rfl) (by kernel_rfl) (by kernel_rfl) (laidWorld_met os _)) ?_
  intro W base args ds gs before hval0 hW _ _ hL _
  have hval : ∀ (j : Nat) t v, Tryd.f4.params[j]? = some t → args[j]? = some v → Value.okWide Tryd.prog W .any base t v := hval0
  have hW' := hW
  obtain ⟨p, q, hA0, hV, rfl, _, _⟩ := hW
  have hA : DataW.TrodAll enc Tryd.prog W 0 (fun _ => true) true Tryd.f4.params.toList args.toList ds p := hA0
  rw [Tryd.params4] at hA hval
  obtain ⟨v0, v1, d0, d1, p0, p1, rfl, rfl, rfl, h0, h1⟩ := trodAll_two hA
  obtain ⟨rfl, rfl⟩ := trodVars_none hV
  have hgv := gv_of_laid hL
  obtain ⟨A, n, c, la, fa, rfl, hSa⟩ := open_vsol (hval 0 41 v0 rfl rfl) h0
  obtain ⟨B, m, c', lb, fb, rfl, hBs⟩ := open_vsol (hval 1 41 v1 rfl rfl) h1
  clear hA0 hval0
  refine (envAbove_any A B n c m c' la lb fa fb W hSa hBs hgv).mono fun e W' ⟨he, hw⟩ => ?_
  subst he
  exact ⟨_, rfl, post_true Tryd.closed (by kernel_rfl) Tryd.underlying4 rfl rfl rfl hW' hw⟩

theorem environAbove_row : Rows.EnvironAboveSaid :=
  OpenClaim.holds_of_wide 4 Tryd.f4 rfl rfl rfl rfl rfl rfl rfl ⟨rfl, rfl, rfl, rfl, rfl⟩ rfl rfl rfl rfl rfl (by kernel_rfl) Tryd.func4 (by kernel_rfl)
    (of_decide_eq_true (by kernel_rfl)) (by unfold Func.isWrapper; first | (rw [if_pos (by decide +kernel)]; kernel_rfl) | (rw [if_neg (by decide +kernel)]; exact ⟨rfl, rfl⟩))
    (fun os started H enc _ => environAbove_lifted os started H enc)

theorem environAbove_holds : Rows.EnvironAboveCardSaid :=
  Claim7.holds_tied_plain_at .later [] [.data] true (true, "f615c8135081c0bbf234a179e40940b761b53f711b0fb4a078f9e7613e0daf23") false
    environAbove_row (fun _ h => by cases h) (by kernel_rfl) (fun _ h => by cases h) environAbove_row_tie rfl ⟨rfl, rfl⟩ (by kernel_rfl) rfl
    (fun f fn hf hfn => by
      obtain rfl : f = 4 := Option.some.inj ((show Tryd.prog.funcNamed "dataflow/dataflowlaw34.EnvironAbove" = some 4 by kernel_rfl).symm.trans hf) |>.symm
      obtain rfl : fn = Tryd.f4 := (Option.some.inj (Tryd.func4.symm.trans hfn)).symm
      exact ⟨by kernel_rfl, fun j t ht => by
        rw [Tryd.params4] at ht
        have hm : t ∈ [41] := by simpa using Array.mem_of_getElem? ht
        have hall : ([41].all fun u => !Tryd.prog.wantsStandIn u) = true := by kernel_rfl
        exact (show Tryd.prog.wantsStandIn t = false by simpa using List.all_eq_true.1 hall t hm)⟩)
    (by kernel_rfl)
#print axioms environAbove_holds
end Go.Proofs.YtmjebjjhfoncfaaDoor
