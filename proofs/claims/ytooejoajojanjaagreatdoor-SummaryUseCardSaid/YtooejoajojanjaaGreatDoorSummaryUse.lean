/- SummaryUse: for every problem and every list of summaries the law returns true: Use of the program returns the solution, or the error, of the reference, and the closed example reads as said. The library variables that it reads are as their text says: tied. -/
import Derived.Test.YtooejoajojanjaaGreatDoorXSg12
import Derived.Test.YtooejoajojanjaaGreatDoorXSg13
import Derived.Test.YtooejoajojanjaaGreatDoorXSg18
import Derived.Test.YtooejoajojanjaaGreatDoorXSg19
import Derived.Test.YtooejoajojanjaaGreatDoorXSg30
import Derived.Test.YtooejoajojanjaaGreatDoorCards
import Derived.Test.YtooejoajojanjaaGreatDoorTie
import Derived.SevenTiedAt
namespace Go.Proofs.YtooejoajojanjaaGreatDoor
open Go.ChangeShapes Go.WideShapes Go.ChangeAt Go.RowKit Go.Joins Go.Df

set_option maxRecDepth 100000 in
theorem summaryUse_lifted (os : Os) (started : os.Started) (H : Type) (enc : TypeId × Value → H) :
    ReturnsInHanded {} Tryz.checked os 7 .any (fun w args => (Rows.summaryUseSpec.pre enc Tryz.prog Tryz.f7 [] false w args ∧ laidMetH Tryz.prog LL w) ∧ sizedMet enc Tryz.prog Tryz.f7 (OpenSpec.ofChange Rows.summaryUseSpec) false w args)
      (Rows.summaryUseSpec.post enc Tryz.prog Tryz.f7 false true false false) := by
  refine returnsInHanded_both (C := Tryz.checked) (X := fun w _ => laidMetH Tryz.prog LL w) (fun _ _ _ hh h => h.of_heap hh) Tryz.own started (by kernel_rfl) Tryz.func7
    (ChangeSpec.witness_at (enc := enc) (C := Tryz.checked) (os := os) (X := fun w _ => laidMetH Tryz.prog LL w) false (laidWorld os) #[.agg #[.slice none 0 0, .slice none 0 0, .int .i64 0, .int .i64 0, .slice none 0 0, .slice none 0 0], .slice none 0 0] 8 rfl (by kernel_rfl) (by kernel_rfl) (by kernel_rfl) (by kernel_rfl) (by kernel_rfl) (laidWorld_met os _)) ?_
  intro W base args ds gs before hval0 hW _ _ hL hsh _
  have hval : ∀ (j : Nat) t v, Tryz.f7.params[j]? = some t → args[j]? = some v → Value.okWide Tryz.prog W .any base t v := hval0
  have hW' := hW
  obtain ⟨p, q, hA0, hV, rfl, _, _⟩ := hW
  have hA : DataW.TrodAll enc Tryz.prog W 0 (fun _ => true) true Tryz.f7.params.toList args.toList ds p := hA0
  rw [Tryz.params7] at hA hval
  obtain ⟨v0, v1, d0, d1, p0, p1, rfl, rfl, rfl, h0, h1⟩ := trodAll_two hA
  obtain ⟨rfl, rfl⟩ := trodVars_none hV
  have hE := env_of_laid hL hsh
  obtain ⟨A1, n1, c1, A2, n2, c2, mn, F, A3, n3, c3, A4, n4, c4, ns, es, ls, sd, rfl, hg, hfl, hsd, hn4, hn3⟩ := open_pb (hval 0 49 v0 rfl rfl) h0
  obtain ⟨A, n, c, rfl⟩ := okWide_slice Tryz.underlying22 (hval 1 22 v1 rfl rfl)
  obtain ⟨fuel, hf⟩ := h1
  obtain ⟨A', n', c', L, ev, hn, hS⟩ := open_smC hf
  obtain ⟨rfl, rfl, rfl⟩ : A = A' ∧ n = n' ∧ c = c' := by injection ev with e1 e2 e3; exact ⟨e1, e2, e3⟩
  clear hA0 hval0
  refine (sumUse_any (p := ⟨ns, es, mn, F, ls, sd⟩) A1 A2 A3 A4 A n1 c1 n2 c2 n3 c3 n4 c4 n c W hg hfl hsd hS hn hE).mono fun e W' ⟨he, hw⟩ => ?_
  subst he
  exact ⟨_, rfl, post_true Tryz.closed (by kernel_rfl) Tryz.underlying4 rfl rfl rfl hW' hw⟩

theorem summaryUse_row : Rows.SummaryUseSaid :=
  OpenClaim.holds_of_wide 7 Tryz.f7 rfl rfl rfl rfl rfl rfl rfl ⟨rfl, rfl, rfl, rfl, rfl⟩ rfl rfl rfl rfl rfl (by kernel_rfl) Tryz.func7 (by kernel_rfl)
    (of_decide_eq_true (by kernel_rfl)) (by unfold Func.isWrapper; first | (rw [if_pos (by decide +kernel)]; kernel_rfl) | (rw [if_neg (by decide +kernel)]; exact ⟨rfl, rfl⟩))
    (fun os started H enc _ => summaryUse_lifted os started H enc)

theorem summaryUse_holds : Rows.SummaryUseCardSaid :=
  Claim7.holds_tied_plain_at .later [] [.data, .data, .data, .data, .handle, .pinned] true (true, "e2f5d10163f12899c9bd9d44920909ed5b6062e2b975955dc6cd400bf5b87ec6") true
    summaryUse_row (fun _ h => by cases h) (by kernel_rfl) (fun _ h => by cases h) summaryUse_row_tie rfl ⟨rfl, rfl⟩ (by kernel_rfl) rfl
    (fun f fn hf hfn => by
      obtain rfl : f = 7 := Option.some.inj ((show Tryz.prog.funcNamed "dataflow/dataflowlaw35.SummaryUse" = some 7 by kernel_rfl).symm.trans hf) |>.symm
      obtain rfl : fn = Tryz.f7 := (Option.some.inj (Tryz.func7.symm.trans hfn)).symm
      exact ⟨by kernel_rfl, fun j t ht => by
        rw [Tryz.params7] at ht
        have hm : t ∈ [49, 22] := by simpa using Array.mem_of_getElem? ht
        have hall : ([49, 22].all fun u => !Tryz.prog.wantsStandIn u) = true := by kernel_rfl
        exact (show Tryz.prog.wantsStandIn t = false by simpa using List.all_eq_true.1 hall t hm)⟩)
    (by kernel_rfl)
#print axioms summaryUse_holds
end Go.Proofs.YtooejoajojanjaaGreatDoor
