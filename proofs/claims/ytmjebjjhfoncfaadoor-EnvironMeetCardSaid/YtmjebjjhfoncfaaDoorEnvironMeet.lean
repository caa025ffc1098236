/- EnvironMeet: for every problem and list of paths the law returns true: on a small problem and at most 6 paths of at most 30 edges each Meet of the program returns the values, or the error, of the reference. The variable ide.shift reads as its text says: tied. -/
import Derived.Test.YtmjebjjhfoncfaaDoorFm
import Derived.Test.YtmjebjjhfoncfaaDoorEw
import Derived.Test.YtmjebjjhfoncfaaDoorRy
import Derived.Test.YtmjebjjhfoncfaaDoorCards
import Derived.Test.YtmjebjjhfoncfaaDoorTie
import Derived.SevenTiedAt
namespace Go.Proofs.YtmjebjjhfoncfaaDoor
open Go.ChangeShapes Go.WideShapes Go.ChangeAt Go.RowKit Go.Joins Go.Df

set_option maxRecDepth 100000 in
theorem environMeet_lifted (os : Os) (started : os.Started) (H : Type) (enc : TypeId × Value → H) :
    ReturnsInHanded {} Tryd.checked os 6 .any (fun w args => (Rows.environMeetSpec.pre enc Tryd.prog Tryd.f6 [] false w args ∧ laidMetH Tryd.prog [("dataflow/ide.shift", Rows.laid_dataflow_ide_shift)] w) ∧ sizedMet enc Tryd.prog Tryd.f6 (OpenSpec.ofChange Rows.environMeetSpec) false w args)
      (Rows.environMeetSpec.post enc Tryd.prog Tryd.f6 false true false false) := by
  refine returnsInHanded_of_change_and (C := Tryd.checked) (X := fun w _ => laidMetH Tryd.prog [("dataflow/ide.shift", Rows.laid_dataflow_ide_shift)] w) (fun _ _ _ hh h => h.of_heap hh) Tryd.own started (by kernel_rfl) Tryd.func6
    (ChangeSpec.witness_at (enc := enc) (C := Tryd.checked) (os := os) (X := fun w _ => laidMetH Tryd.prog [("dataflow/ide.shift", Rows.laid_dataflow_ide_shift)] w) false (laidWorld os) #[.agg #[.slice none 0 0, .slice none 0 0, .int .i64 0, .int .i64 0, .slice none 0 0, .slice none 0 0], .slice none 0 0] 8 rfl (by kernel_rfl) (by kernel_rfl) (by kernel_rfl) (by kernel_rfl) (by kernel_rfl) (laidWorld_met os _)) ?_
  intro W base args ds gs before hval0 hW _ _ hL _
  have hval : ∀ (j : Nat) t v, Tryd.f6.params[j]? = some t → args[j]? = some v → Value.okWide Tryd.prog W .any base t v := hval0
  have hW' := hW
  obtain ⟨p, q, hA0, hV, rfl, _, _⟩ := hW
  have hA : DataW.TrodAll enc Tryd.prog W 0 (fun _ => true) true Tryd.f6.params.toList args.toList ds p := hA0
  rw [Tryd.params6] at hA hval
  obtain ⟨v0, v1, d0, d1, p0, p1, rfl, rfl, rfl, h0, h1⟩ := trodAll_two hA
  obtain ⟨rfl, rfl⟩ := trodVars_none hV
  have hgv := gv_of_laid hL
  obtain ⟨A1, n1, c1, A2, n2, c2, mn, F, A3, n3, c3, A4, n4, c4, ns, es, ls, sd, rfl, hg, hf, hs, hc4⟩ := open_vp (hval 0 29 v0 rfl rfl) h0
  obtain ⟨A6, n6, c6, rfl⟩ := okWide_slice Tryd.underlying55 (hval 1 55 v1 rfl rfl)
  obtain ⟨fuel2, h2f⟩ := h1
  obtain ⟨A', n', c', ps, ev, hp⟩ := open_paths h2f
  obtain ⟨rfl, rfl, rfl⟩ : A6 = A' ∧ n6 = n' ∧ c6 = c' := by injection ev with e1 e2 e3; exact ⟨e1, e2, e3⟩
  clear hA0 hval0
  refine (envMeet_any A1 A2 A3 A4 A6 n1 c1 n2 c2 n3 c3 n4 c4 n6 c6 mn F ns es ls sd ps W hg hf hs hp hc4 hgv).mono fun e W' ⟨he, hw⟩ => ?_
  subst he
  exact ⟨_, rfl, post_true Tryd.closed (by kernel_rfl) Tryd.underlying4 rfl rfl rfl hW' hw⟩

theorem environMeet_row : Rows.EnvironMeetSaid :=
  OpenClaim.holds_of_wide 6 Tryd.f6 rfl rfl rfl rfl rfl rfl rfl ⟨rfl, rfl, rfl, rfl, rfl⟩ rfl rfl rfl rfl rfl (by kernel_rfl) Tryd.func6 (by kernel_rfl)
    (of_decide_eq_true (by kernel_rfl)) (by unfold Func.isWrapper; first | (rw [if_pos (by decide +kernel)]; kernel_rfl) | (rw [if_neg (by decide +kernel)]; exact ⟨rfl, rfl⟩))
    (fun os started H enc _ => environMeet_lifted os started H enc)

theorem environMeet_holds : Rows.EnvironMeetCardSaid :=
  Claim7.holds_tied_plain_at .later [] [.data] true (true, "f615c8135081c0bbf234a179e40940b761b53f711b0fb4a078f9e7613e0daf23") false
    environMeet_row (fun _ h => by cases h) (by kernel_rfl) (fun _ h => by cases h) environMeet_row_tie rfl ⟨rfl, rfl⟩ (by kernel_rfl) rfl
    (fun f fn hf hfn => by
      obtain rfl : f = 6 := Option.some.inj ((show Tryd.prog.funcNamed "dataflow/dataflowlaw34.EnvironMeet" = some 6 by kernel_rfl).symm.trans hf) |>.symm
      obtain rfl : fn = Tryd.f6 := (Option.some.inj (Tryd.func6.symm.trans hfn)).symm
      exact ⟨by kernel_rfl, fun j t ht => by
        rw [Tryd.params6] at ht
        have hm : t ∈ [29, 55] := by simpa using Array.mem_of_getElem? ht
        have hall : ([29, 55].all fun u => !Tryd.prog.wantsStandIn u) = true := by kernel_rfl
        exact (show Tryd.prog.wantsStandIn t = false by simpa using List.all_eq_true.1 hall t hm)⟩)
    (by kernel_rfl)
#print axioms environMeet_holds
end Go.Proofs.YtmjebjjhfoncfaaDoor
