/- WorklistArrival: for every list of items the law returns true: they come back in the order of their first arrival. No condition. -/
import Derived.Test.YthliphpcfnbmnaaAr
import Derived.Test.YthliphpcfnbmnaaRz
namespace Go.Proofs.Ythliphpcfnbmnaa
open Go.ChangeShapes Go.WideShapes Go.ChangeAt Go.RowKit Go.Joins Go.Df

section
variable {H : Type} {enc : TypeId × Value → H} {P : Program} {w : World} {base : Nat} {held : Bool}
/-- A slice of numbers that came in. -/
theorem open_U16s {t e : TypeId} {fuel : Nat} {v : Value} {x : DataW H × List MemPlace} (ht : P.underlying t = some (.slice e)) (he : P.underlying e = some (.int .u16)) (hC : P.cellsOf e = 1)
    (h : DataW.trod enc P w base (fun _ => true) held fuel t [v] = some x) : ∃ A n c xs, v = .slice A n c ∧ U16s w A n xs ∧ n ≤ 9223372036854775807 := by
  rcases Go.Deep.open_slice ht h with ⟨h0, _⟩ | ⟨a, len, cap, m, n, D, Pl, hcs, hbb, hl, hm, hmm, hx, hi⟩
  · injection h0 with h0
    exact ⟨none, 0, 0, [], h0, ⟨rfl, fun j => by simp [gi], fun h => absurd h (by omega)⟩, by omega⟩
  · injection hcs with hcs
    subst hcs
    have hread : ∀ i, i < len → ∃ k : Int, w.cell? (a.add i) = some (.int .u16 k) ∧ 0 ≤ k ∧ k ≤ 65535 := by
      intro i hil
      obtain ⟨cs', hc, ht'⟩ := hi i (by rw [hmm]; simp; omega)
      rw [hC] at hc
      obtain ⟨k, hk, _, wk⟩ := DataW.trod_int he ht'
      subst hk
      have hbd := bounds_u16 wk
      refine ⟨k, ?_, by omega, by omega⟩
      unfold World.cells? at hc
      split at hc
      · have e1 : (a.add (i * 1)).add 0 = a.add i := by simp [Addr.add]
        rw [show List.range 1 = [0] from rfl, List.mapM_cons, e1] at hc
        cases hv : w.cell? (a.add i) with
        | none => rw [hv] at hc; simp at hc
        | some u =>
          rw [hv] at hc
          simp at hc
          rw [hc]
      · cases hc
    have hex : ∃ f : Nat → Int, ∀ i, i < len → w.cell? (a.add i) = some (.int .u16 (f i)) ∧ 0 ≤ f i ∧ f i ≤ 65535 :=
      ⟨fun i => if hil : i < len then (hread i hil).choose else 0, fun i hil => by simp only [dif_pos hil]; exact (hread i hil).choose_spec⟩
    obtain ⟨f, hf⟩ := hex
    refine ⟨some a, len, cap, (List.range len).map f, rfl, ⟨by simp, fun j => ?_, fun hp => ?_⟩, by unfold maxLen at hm; omega⟩
    · by_cases hj : j < len
      · rw [gi_lt (by simpa using hj)]
        simp
        exact (hf j hj).2
      · rw [gi_ge (by simp; omega)]; omega
    · obtain ⟨b, o, sp⟩ := a
      have h0 := (hf 0 hp).1
      have hsp : sp = none := by
        cases sp with
        | none => rfl
        | some s =>
          exfalso
          simp only [World.cell?, Addr.add] at h0
          split at h0 <;> simp at h0
      subst hsp
      refine ⟨b, o, rfl, cell_lt (p := ⟨b, o, none⟩) (by have h9 := h0; rw [add_lit] at h9; exact h9), fun i hil => ?_⟩
      rw [← add_lit, (hf i hil).1, gi_lt (by simpa using hil)]
      simp
end

set_option maxRecDepth 100000 in
theorem worklistArrival_lifted (os : Os) (started : os.Started) (H : Type) (enc : TypeId × Value → H) :
    ReturnsInHanded {} Try.checked os 4 .any (Rows.worklistArrivalSpec.pre6 enc Try.prog Try.f4 Rows.worklistArrivalRow.domain false) (Rows.worklistArrivalSpec.post enc Try.prog Try.f4 false true false false) := by
  refine returnsInHanded_of_change (C := Try.checked) Try.own started (by kernel_rfl) Try.func4
    (ChangeSpec.witness6 (enc := enc) (C := Try.checked) false ⟨#[], #[.slice none 0 0], []⟩ 8 (by kernel_rfl) (by kernel_rfl) (by kernel_rfl) (by kernel_rfl)) ?_
  intro W base args ds gs before hval0 hW _ _
  have hval : ∀ (j : Nat) t v, Try.f4.params[j]? = some t → args[j]? = some v → Value.okWide Try.prog W .any base t v := hval0
  have hW' := hW
  obtain ⟨p, q, hA0, hV, rfl, _, _⟩ := hW
  have hA : DataW.TrodAll enc Try.prog W 0 (fun _ => true) true Try.f4.params.toList args.toList ds p := hA0
  rw [Try.params4] at hA hval
  obtain ⟨v0, d0, rfl, rfl, h0⟩ := trodAll_one hA
  obtain ⟨rfl, rfl⟩ := trodVars_none hV
  obtain ⟨A, n, c, rfl⟩ := okWide_slice Try.underlying38 (hval 0 38 v0 rfl rfl)
  obtain ⟨fuel, h0⟩ := h0
  obtain ⟨A', n', c', l, ev, hl, hn⟩ := open_U16s Try.underlying38 Try.underlying39 (by kernel_rfl) h0
  obtain ⟨rfl, rfl, rfl⟩ : A = A' ∧ n = n' ∧ c = c' := by injection ev with e1 e2 e3; exact ⟨e1, e2, e3⟩
  clear hA0 hval0
  refine (arrival_any A n c l W hl hn).mono fun e W' ⟨he, hw⟩ => ?_
  subst he
  exact ⟨_, rfl, post_true Try.closed (by kernel_rfl) Try.underlying4 rfl rfl rfl hW' hw⟩

theorem worklistArrival_holds : Rows.WorklistArrivalSaid :=
  OpenClaim.holds_of_wide 4 Try.f4 rfl rfl rfl rfl rfl rfl rfl ⟨rfl, rfl, rfl, rfl, rfl⟩ rfl rfl rfl rfl rfl (by kernel_rfl) Try.func4 (by kernel_rfl)
    (of_decide_eq_true (by kernel_rfl)) (by unfold Func.isWrapper; first | (rw [if_pos (by decide +kernel)]; kernel_rfl) | (rw [if_neg (by decide +kernel)]; exact ⟨rfl, rfl⟩))
    (fun os started H enc _ => worklistArrival_lifted os started H enc)

#print axioms worklistArrival_holds
end Go.Proofs.Ythliphpcfnbmnaa
