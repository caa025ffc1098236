/- Plain laws of WorklistRuns. -/
import Derived.Test.YthliphpcfnbmnaaAr
namespace Go.Proofs.Ythliphpcfnbmnaa.Wl
open Go.Df
/-- The worklist's items li and the items la in the order of their arrival, after k steps. -/
structure Runs (r li la : List Int) (k : Nat) : Prop where
  valid : Valid r li
  perm : la.Perm li
  len : li.length ≤ k
  first : r.length = 0 → la = li
theorem runs_nil {r : List Int} (h : r.length ≤ 8192) : Runs r [] [] 0 := ⟨valid_nil h, List.Perm.refl _, Nat.le_refl _, fun _ => rfl⟩
theorem Runs.more {r li la : List Int} {k : Nat} (h : Runs r li la k) : Runs r li la (k + 1) := ⟨h.valid, h.perm, by have := h.len; omega, h.first⟩
theorem Runs.leneq {r li la : List Int} {k : Nat} (h : Runs r li la k) : la.length = li.length := h.perm.length_eq
theorem okP_valid {r li : List Int} (h : Valid r li) : okP r li = decide (0 < li.length) := by simp [okP, chk_of_valid h]
theorem Runs.least {r li la : List Int} {k : Nat} (h : Runs r li la k) (hp : 0 < li.length) : leastTo r la (la.length - 1) = gi li 0 := by
  rcases Nat.eq_zero_or_pos r.length with h0 | h0
  · rw [least_first h0, h.first h0]
  · exact least_head h.valid h.perm h0 hp
theorem drop_without {li : List Int} (hn : li.Nodup) (hp : 0 < li.length) : without li (gi li 0) = li.drop 1 := by
  cases li with
  | nil => simp at hp
  | cons a li =>
    have h1 := (List.nodup_cons.1 hn).1
    unfold without
    simp only [gi, List.getD_cons_zero, List.filter_cons, bne_self_eq_false, Bool.false_eq_true, if_false, List.drop_one, List.tail_cons]
    exact List.filter_eq_self.2 (fun b hb => by simp; rintro rfl; exact h1 hb)
theorem Runs.pop {r li la : List Int} {k : Nat} (h : Runs r li la k) (hp : 0 < li.length) : Runs r (li.drop 1) (without la (gi li 0)) (k + 1) := by
  refine ⟨valid_drop h.valid, ?_, by have := h.len; rw [List.length_drop]; omega, fun h0 => ?_⟩
  · rw [← drop_without h.valid.once hp]; exact h.perm.filter _
  · rw [h.first h0]; exact drop_without h.valid.once hp
theorem Runs.mem {r li la : List Int} {k : Nat} (h : Runs r li la k) (x : Int) : x ∈ la ↔ x ∈ li := h.perm.mem_iff
theorem Runs.inr {r li la : List Int} {k : Nat} (h : Runs r li la k) (hr : 0 < r.length) (j : Nat) (hj : j < la.length) : 0 ≤ gi la j ∧ gi la j < r.length := by
  have h1 := h.valid.item _ ((h.mem _).1 (gi_mem hj))
  have := allowed_lt h1 h.valid.rank
  exact ⟨this.1, this.2.2 hr⟩
theorem Runs.range {r li la : List Int} {k : Nat} (h : Runs r li la k) {x : Int} (ha : allowed r.length x = false) : perr r li x = 4 := by
  unfold perr; rw [chk_of_valid h.valid, ha]; simp
theorem Runs.push {r li la : List Int} {k : Nat} (h : Runs r li la k) (hk : k ≤ 200) {x : Int} (ha : allowed r.length x = true) :
    perr r li x = 0 ∧ pR r li x = r ∧ Runs r (pL r li x) (if x ∈ la then la else la ++ [x]) (k + 1) := by
  have h0 : perr r li x = 0 := by
    unfold perr; rw [chk_of_valid h.valid, ha]
    have := h.len
    simp
    intro _
    omega
  refine ⟨h0, by rw [pR, if_pos h0], ?_⟩
  rw [pL, if_pos h0]
  by_cases hm : x ∈ li
  · rw [if_pos hm, if_pos ((h.mem x).2 hm)]; exact h.more
  · rw [if_neg hm, if_neg (fun h9 => hm ((h.mem x).1 h9))]
    have hp := ins_perm li (place r li x) x
    refine ⟨valid_ins h.valid ha hm (by have := h.len; omega), ?_, by rw [hp.length_eq]; have := h.len; simp; omega, fun h1 => ?_⟩
    · exact ((List.perm_append_singleton x la).trans (h.perm.cons x)).trans hp.symm
    · have h2 : place r li x = li.length := by unfold place; rw [if_neg (by omega)]
      rw [h2, ins_end, h.first h1]
theorem allowed_max (n : Nat) (x : Int) (h0 : 0 ≤ x) : allowed n x = decide (x < (if 0 < n then (n : Int) else 65536)) := by
  unfold allowed
  split <;> simp [h0]
end Go.Proofs.Ythliphpcfnbmnaa.Wl
