/- IdeIsIfds: for every small IFDS problem the law returns true: where all transformers are shifts by 0 and all seeds are at the bottom, the facts with the value LBot are the solution of the IFDS problem, there are no constants, and the closed example is solved as said. The variable ide.shift reads as its text says: tied. -/
import Derived.Test.YtincpmdldpakkaaDoorCi40
import Derived.Test.YtincpmdldpakkaaDoorCi41
import Derived.Test.YtincpmdldpakkaaDoorCards
import Derived.Test.YtincpmdldpakkaaDoorTie
import Derived.SevenTiedAt
namespace Go.Proofs.YtincpmdldpakkaaDoor
open Go.ChangeShapes Go.WideShapes Go.ChangeAt Go.RowKit Go.Joins Go.Df
set_option maxRecDepth 100000 in
theorem ideIsIfds_lifted (os : Os) (started : os.Started) (H : Type) (enc : TypeId × Value → H) :
   ReturnsInHanded {} Tryd.checked os 5 .any (fun w args => (Rows.ideIsIfdsSpec.pre enc Tryd.prog Tryd.f5 [] false w args ∧ laidMetH Tryd.prog [("dataflow/ide.shift", Rows.laid_dataflow_ide_shift)] w) ∧ sizedMet enc Tryd.prog Tryd.f5 (OpenSpec.ofChange Rows.ideIsIfdsSpec) false w args)
     (Rows.ideIsIfdsSpec.post enc Tryd.prog Tryd.f5 false true false false) := by
 refine returnsInHanded_of_change_and (C := Tryd.checked) (X := fun w _ => laidMetH Tryd.prog [("dataflow/ide.shift", Rows.laid_dataflow_ide_shift)] w) (fun _ _ _ hh h => h.of_heap hh) Tryd.own started (by kernel_rfl) Tryd.func5
   (ChangeSpec.witness_at (enc := enc) (C := Tryd.checked) (os := os) (X := fun w _ => laidMetH Tryd.prog [("dataflow/ide.shift", Rows.laid_dataflow_ide_shift)] w) false (laidWorld os) #[.agg #[.slice none 0 0, .slice none 0 0, .int .i64 0, .int .i64 0, .slice none 0 0, .slice none 0 0]] 8 rfl (by kernel_rfl) (by kernel_rfl) (by kernel_rfl) (by kernel_rfl) (by kernel_rfl) (laidWorld_met os _)) ?_
 intro W base args ds gs before hval0 hW _ _ hL _
 have hval : ∀ (j : Nat) t v, Tryd.f5.params[j]? = some t → args[j]? = some v → Value.okWide Tryd.prog W .any base t v := hval0
 have hW' := hW
 obtain ⟨p, q, hA0, hV, rfl, _, _⟩ := hW
 have hA : DataW.TrodAll enc Tryd.prog W 0 (fun _ => true) true Tryd.f5.params.toList args.toList ds p := hA0
 rw [Tryd.params5] at hA hval
 obtain ⟨v0, d0, rfl, rfl, h0⟩ := trodAll_one hA
 obtain ⟨rfl, rfl⟩ := trodVars_none hV
 have hgv := gv_of_laid hL
 obtain ⟨A1, n1, c1, A2, n2, c2, mn, F, A3, n3, c3, A4, n4, c4, ns, es, ls, sd, rfl, hg, hfl, hsd, hn4, hn3, hrl⟩ := open_pb (hval 0 43 v0 rfl rfl) h0
 clear hA0 hval0
 refine (ideIsIfds_any (q := ⟨ns, es, mn, F, ls, sd⟩) A1 A2 A3 A4 n1 c1 n2 c2 n3 c3 n4 c4 W hg hfl hsd hn3 hn4 hrl hgv).mono fun e W' ⟨he, hw⟩ => ?_
 subst he
 exact ⟨_, rfl, post_true Tryd.closed (by kernel_rfl) Tryd.underlying4 rfl rfl rfl hW' hw⟩
theorem ideIsIfds_row : Rows.IdeIsIfdsSaid :=
 OpenClaim.holds_of_wide 5 Tryd.f5 rfl rfl rfl rfl rfl rfl rfl ⟨rfl, rfl, rfl, rfl, rfl⟩ rfl rfl rfl rfl rfl (by kernel_rfl) Tryd.func5 (by kernel_rfl)
   (of_decide_eq_true (by kernel_rfl)) (by unfold Func.isWrapper; first | (rw [if_pos (by decide +kernel)]; kernel_rfl) | (rw [if_neg (by decide +kernel)]; exact ⟨rfl, rfl⟩))
   (fun os started H enc _ => ideIsIfds_lifted os started H enc)
theorem ideIsIfds_holds : Rows.IdeIsIfdsCardSaid :=
 Claim7.holds_tied_plain_at .later [] [.data] true (true, "a2fc97cd5da07df7f1c8edd03454bbab9935e7b73ac7db4450ddca5e48d1a798") false
   ideIsIfds_row (fun _ h => by cases h) (by kernel_rfl) (fun _ h => by cases h) ideIsIfds_row_tie rfl ⟨rfl, rfl⟩ (by kernel_rfl) rfl
   (fun f fn hf hfn => by
     obtain rfl : f = 5 := Option.some.inj ((show Tryd.prog.funcNamed "dataflow/dataflowlaw33.IdeIsIfds" = some 5 by kernel_rfl).symm.trans hf) |>.symm
     obtain rfl : fn = Tryd.f5 := (Option.some.inj (Tryd.func5.symm.trans hfn)).symm
     exact ⟨by kernel_rfl, fun j t ht => by
       rw [Tryd.params5] at ht
       have hm : t ∈ [43] := by simpa using Array.mem_of_getElem? ht
       have hall : ([43].all fun u => !Tryd.prog.wantsStandIn u) = true := by kernel_rfl
       exact (show Tryd.prog.wantsStandIn t = false by simpa using List.all_eq_true.1 hall t hm)⟩)
   (by kernel_rfl)
#print axioms ideIsIfds_holds
end Go.Proofs.YtincpmdldpakkaaDoor
