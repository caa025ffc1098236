/- IdeMeet: for every small problem with values and every path the law returns true: the values along a valid path are at least those of the solution; if no valid path from Main has more than 8 edges, the solution is the meet of the values over valid paths; and the closed example is solved as said. The variable ide.shift reads as its text says: tied. -/
import Derived.Test.YtincpmdldpakkaaGreatDoorMt40
import Derived.Test.YtincpmdldpakkaaGreatDoorMt41
import Derived.Test.YtincpmdldpakkaaGreatDoorCards
import Derived.Test.YtincpmdldpakkaaGreatDoorTie
import Derived.SevenTiedAt
namespace Go.Proofs.YtincpmdldpakkaaGreatDoor
open Go.ChangeShapes Go.WideShapes Go.ChangeAt Go.RowKit Go.Joins Go.Df
set_option maxRecDepth 100000 in
theorem ideMeet_lifted (os : Os) (started : os.Started) (H : Type) (enc : TypeId × Value → H) :
   ReturnsInHanded {} Tryz.checked os 3 .any (fun w args => (Rows.ideMeetSpec.pre enc Tryz.prog Tryz.f3 [] false w args ∧ laidMetH Tryz.prog [("dataflow/ide.shift", Rows.laid_dataflow_ide_shift)] w) ∧ sizedMet enc Tryz.prog Tryz.f3 (OpenSpec.ofChange Rows.ideMeetSpec) false w args)
     (Rows.ideMeetSpec.post enc Tryz.prog Tryz.f3 false true false false) := by
 refine returnsInHanded_of_change_and (C := Tryz.checked) (X := fun w _ => laidMetH Tryz.prog [("dataflow/ide.shift", Rows.laid_dataflow_ide_shift)] w) (fun _ _ _ hh h => h.of_heap hh) Tryz.own started (by kernel_rfl) Tryz.func3
   (ChangeSpec.witness_at (enc := enc) (C := Tryz.checked) (os := os) (X := fun w _ => laidMetH Tryz.prog [("dataflow/ide.shift", Rows.laid_dataflow_ide_shift)] w) false (laidWorld os) #[.agg #[.slice none 0 0, .slice none 0 0, .int .i64 0, .int .i64 0, .slice none 0 0, .slice none 0 0], .slice none 0 0] 8 rfl (by kernel_rfl) (by kernel_rfl) (by kernel_rfl) (by kernel_rfl) (by kernel_rfl) (laidWorld_met os _)) ?_
 intro W base args ds gs before hval0 hW _ _ hL _
 have hval : ∀ (j : Nat) t v, Tryz.f3.params[j]? = some t → args[j]? = some v → Value.okWide Tryz.prog W .any base t v := hval0
 have hW' := hW
 obtain ⟨p, q, hA0, hV, rfl, _, _⟩ := hW
 have hA : DataW.TrodAll enc Tryz.prog W 0 (fun _ => true) true Tryz.f3.params.toList args.toList ds p := hA0
 rw [Tryz.params3] at hA hval
 obtain ⟨v0, v1, d0, d1, p0, p1, rfl, rfl, rfl, h0, h1⟩ := trodAll_two hA
 obtain ⟨rfl, rfl⟩ := trodVars_none hV
 have hgv := gv_of_laid hL
 obtain ⟨A1, n1, c1, A2, n2, c2, A3, n3, c3, A4, n4, c4, q9, rfl, hg, hf, hs, hc4, hn4, hL⟩ := open_vp (hval 0 29 v0 rfl rfl) h0
 obtain ⟨A5, n5, c5, rfl⟩ := okWide_slice Tryz.underlying30 (hval 1 30 v1 rfl rfl)
 obtain ⟨fuel2, h2f⟩ := h1
 obtain ⟨A', n', c', path, ev, hp, _⟩ := open_SIn Tryz.underlying30 Tryz.underlying3 (by kernel_rfl) h2f
 obtain ⟨rfl, rfl, rfl⟩ : A5 = A' ∧ n5 = n' ∧ c5 = c' := by injection ev with e1 e2 e3; exact ⟨e1, e2, e3⟩
 clear hA0 hval0
 refine (ideMeet_any A1 A2 A3 A4 A5 n1 c1 n2 c2 n3 c3 n4 c4 n5 c5 path W hf hL hp.1 hgv).mono fun e W' ⟨he, hw⟩ => ?_
 subst he
 exact ⟨_, rfl, post_true Tryz.closed (by kernel_rfl) Tryz.underlying4 rfl rfl rfl hW' hw⟩
theorem ideMeet_row : Rows.IdeMeetSaid :=
 OpenClaim.holds_of_wide 3 Tryz.f3 rfl rfl rfl rfl rfl rfl rfl ⟨rfl, rfl, rfl, rfl, rfl⟩ rfl rfl rfl rfl rfl (by kernel_rfl) Tryz.func3 (by kernel_rfl)
   (of_decide_eq_true (by kernel_rfl)) (by unfold Func.isWrapper; first | (rw [if_pos (by decide +kernel)]; kernel_rfl) | (rw [if_neg (by decide +kernel)]; exact ⟨rfl, rfl⟩))
   (fun os started H enc _ => ideMeet_lifted os started H enc)
theorem ideMeet_holds : Rows.IdeMeetCardSaid :=
 Claim7.holds_tied_plain_at .later [] [.data] true (true, "71f00171689155af6c0413b084f8d12cbd76bd33c52569d0b4b342aa73e4cad6") true
   ideMeet_row (fun _ h => by cases h) (by kernel_rfl) (fun _ h => by cases h) ideMeet_row_tie rfl ⟨rfl, rfl⟩ (by kernel_rfl) rfl
   (fun f fn hf hfn => by
     obtain rfl : f = 3 := Option.some.inj ((show Tryz.prog.funcNamed "dataflow/dataflowlaw33.IdeMeet" = some 3 by kernel_rfl).symm.trans hf) |>.symm
     obtain rfl : fn = Tryz.f3 := (Option.some.inj (Tryz.func3.symm.trans hfn)).symm
     exact ⟨by kernel_rfl, fun j t ht => by
       rw [Tryz.params3] at ht
       have hm : t ∈ [29, 30] := by simpa using Array.mem_of_getElem? ht
       have hall : ([29, 30].all fun u => !Tryz.prog.wantsStandIn u) = true := by kernel_rfl
       exact (show Tryz.prog.wantsStandIn t = false by simpa using List.all_eq_true.1 hall t hm)⟩)
   (by kernel_rfl)
#print axioms ideMeet_holds
end Go.Proofs.YtincpmdldpakkaaGreatDoor
