/- SummaryApply: for every summary and every list of facts the law returns true: Apply of the program returns the facts of the reference, and the closed example reads as said. The library variables that it reads are as their text says: tied. -/
import Derived.Test.YtooejoajojanjaaGreatDoorSx14
import Derived.Test.YtooejoajojanjaaGreatDoorSx15
import Derived.Test.YtooejoajojanjaaGreatDoorSx16
import Derived.Test.YtooejoajojanjaaGreatDoorSx17
import Derived.Test.YtooejoajojanjaaGreatDoorCards
import Derived.Test.YtooejoajojanjaaGreatDoorTie
import Derived.SevenTiedAt
namespace Go.Proofs.YtooejoajojanjaaGreatDoor
open Go.ChangeShapes Go.WideShapes Go.ChangeAt Go.RowKit Go.Joins Go.Df

set_option maxRecDepth 100000 in
theorem summaryApply_lifted (os : Os) (started : os.Started) (H : Type) (enc : TypeId × Value → H) :
    ReturnsInHanded {} Tryz.checked os 4 .any (fun w args => (Rows.summaryApplySpec.pre enc Tryz.prog Tryz.f4 [] false w args ∧ laidMetH Tryz.prog LL w) ∧ sizedMet enc Tryz.prog Tryz.f4 (OpenSpec.ofChange Rows.summaryApplySpec) false w args)
      (Rows.summaryApplySpec.post enc Tryz.prog Tryz.f4 false true false false) := by
  refine returnsInHanded_both (C := Tryz.checked) (X := fun w _ => laidMetH Tryz.prog LL w) (fun _ _ _ hh h => h.of_heap hh) Tryz.own started (by kernel_rfl) Tryz.func4
    (ChangeSpec.witness_at (enc := enc) (C := Tryz.checked) (os := os) (X := fun w _ => laidMetH Tryz.prog LL w) false (laidWorld os) #[.agg #[.int .i64 0, .slice none 0 0, .slice none 0 0], .slice none 0 0] 8 rfl (by kernel_rfl) (by kernel_rfl) (by kernel_rfl) (by kernel_rfl) (by kernel_rfl) (laidWorld_met os _)) ?_
  intro W base args ds gs before hval0 hW _ _ hL hsh _
  have hval : ∀ (j : Nat) t v, Tryz.f4.params[j]? = some t → args[j]? = some v → Value.okWide Tryz.prog W .any base t v := hval0
  have hW' := hW
  obtain ⟨p, q, hA0, hV, rfl, _, _⟩ := hW
  have hA : DataW.TrodAll enc Tryz.prog W 0 (fun _ => true) true Tryz.f4.params.toList args.toList ds p := hA0
  rw [Tryz.params4] at hA hval
  obtain ⟨v0, v1, d0, d1, p0, p1, rfl, rfl, rfl, h0, h1⟩ := trodAll_two hA
  obtain ⟨rfl, rfl⟩ := trodVars_none hV
  have hE := env_of_laid hL hsh
  obtain ⟨cs, rfl, hsz⟩ := okWide_struct Tryz.underlying30 (hval 0 30 v0 rfl rfl)
  obtain ⟨fuel, hf⟩ := h0
  obtain ⟨l⟩ := cs
  obtain ⟨uf, E, ne, ce, T, nt, ct, x, y, rfl, hx, hy, hwx, hwy⟩ := open_sumC (show DataW.trod enc Tryz.prog W 0 (fun _ => true) true fuel 30 l = some _ from hf)
  obtain ⟨B, m, d, rfl⟩ := okWide_slice Tryz.underlying31 (hval 1 31 v1 rfl rfl)
  obtain ⟨fuel2, h2f⟩ := h1
  obtain ⟨B', m', d', il, ev, hI, hwl⟩ := open_SIn Tryz.underlying31 Tryz.underlying3 (by kernel_rfl) h2f
  obtain ⟨rfl, rfl, rfl⟩ : B = B' ∧ m = m' ∧ d = d' := by injection ev with e1 e2 e3; exact ⟨e1, e2, e3⟩
  clear hA0 hval0
  refine (sumApply_any E T B ne ce nt ct m d uf x y il W hx hy hI.1 (fun z hz => Go.WalkArith.wf_i64 (hwl z hz)) hwx hwy hE).mono fun e W' ⟨he, hw⟩ => ?_
  subst he
  exact ⟨_, rfl, post_true Tryz.closed (by kernel_rfl) Tryz.underlying4 rfl rfl rfl hW' hw⟩

theorem summaryApply_row : Rows.SummaryApplySaid :=
  OpenClaim.holds_of_wide 4 Tryz.f4 rfl rfl rfl rfl rfl rfl rfl ⟨rfl, rfl, rfl, rfl, rfl⟩ rfl rfl rfl rfl rfl (by kernel_rfl) Tryz.func4 (by kernel_rfl)
    (of_decide_eq_true (by kernel_rfl)) (by unfold Func.isWrapper; first | (rw [if_pos (by decide +kernel)]; kernel_rfl) | (rw [if_neg (by decide +kernel)]; exact ⟨rfl, rfl⟩))
    (fun os started H enc _ => summaryApply_lifted os started H enc)

theorem summaryApply_holds : Rows.SummaryApplyCardSaid :=
  Claim7.holds_tied_plain_at .later [] [.data, .data, .data, .data, .handle, .pinned] true (true, "e2f5d10163f12899c9bd9d44920909ed5b6062e2b975955dc6cd400bf5b87ec6") true
    summaryApply_row (fun _ h => by cases h) (by kernel_rfl) (fun _ h => by cases h) summaryApply_row_tie rfl ⟨rfl, rfl⟩ (by kernel_rfl) rfl
    (fun f fn hf hfn => by
      obtain rfl : f = 4 := Option.some.inj ((show Tryz.prog.funcNamed "dataflow/dataflowlaw35.SummaryApply" = some 4 by kernel_rfl).symm.trans hf) |>.symm
      obtain rfl : fn = Tryz.f4 := (Option.some.inj (Tryz.func4.symm.trans hfn)).symm
      exact ⟨by kernel_rfl, fun j t ht => by
        rw [Tryz.params4] at ht
        have hm : t ∈ [30, 31] := by simpa using Array.mem_of_getElem? ht
        have hall : ([30, 31].all fun u => !Tryz.prog.wantsStandIn u) = true := by kernel_rfl
        exact (show Tryz.prog.wantsStandIn t = false by simpa using List.all_eq_true.1 hall t hm)⟩)
    (by kernel_rfl)
#print axioms summaryApply_holds
end Go.Proofs.YtooejoajojanjaaGreatDoor
