/- Accepted paths in plain words: what VpathMatch says of them. -/
import Derived.Test.YtmjebjjhfoncfaaVe
namespace Go.Df
open Go.RowKit
theorem own_front {w : World} {base : Nat} {e : TypeId} {A : Option Addr} {n c : Nat} {xs : List Value} (h : w.ownsRow base e 1 (.slice A n c) n xs) {k : Nat} (hk : k ≤ n) (h0 : 0 < n) : w.ownsRow base e 1 (.slice A k c) k (xs.take k) := by
  obtain ⟨hl, h | ⟨g, cap, cur, hv, hb, hg, hc, hm, hs, ht⟩⟩ := h
  · omega
  · injection hv with e1 e2 e3
    subst e1
    subst e3
    refine ⟨by simp; omega, .inr ⟨g, c, cur, rfl, hb, hg, by omega, hm, hs, ?_⟩⟩
    rw [← ht, List.take_take]
    congr 1
    omega
namespace Sp
/-- The outermost pending call, or the node where there is none. -/
def lastD : Int → List Int → Int
  | d, [] => d
  | _, c :: r => lastD c r
/-- After j edges of an accepted path. -/
structure VInv (ns : List Nd) (es : List Ed) (fr : Int) (path : List Int) (j : Nat) (a : Int) (cs : List Int) : Prop where
  pre : runS es fr [] (path.take j) = (0, a, cs)
  suf : (runS es a cs (path.drop j)).1 = 0
  rng : 0 ≤ a ∧ a < ns.length
  fn : (gn ns (lastD a cs).toNat).f = (gn ns fr.toNat).f
  len : cs.length ≤ j
theorem runS_ok {es : List Ed} {a k : Int} {cs r : List Int} (h : (stepS es a cs k).1 = 0) : runS es a cs (k :: r) = runS es (stepS es a cs k).2.1 (stepS es a cs k).2.2 r := by
  rw [runS, if_neg (not_not_intro h)]
theorem runS_bad {es : List Ed} {a k : Int} {cs r : List Int} (h : (stepS es a cs k).1 ≠ 0) : runS es a cs (k :: r) = ((stepS es a cs k).1, 0, []) := by
  rw [runS, if_pos h]
theorem run_snoc {es : List Ed} : ∀ (xs : List Int) (a : Int) (cs : List Int) (k : Int), runS es a cs (xs ++ [k]) = if (runS es a cs xs).1 ≠ 0 then runS es a cs xs else stepS es (runS es a cs xs).2.1 (runS es a cs xs).2.2 k
  | [], a, cs, k => by
    have h0 : runS es a cs [] = (0, a, cs) := rfl
    rw [h0, List.nil_append, if_neg (by simp)]
    by_cases h : (stepS es a cs k).1 = 0
    · rw [runS_ok h]
      exact Prod.ext h.symm rfl
    · rw [runS_bad h]
      exact (stepS_err h).symm
  | x :: xs, a, cs, k => by
    rw [List.cons_append]
    by_cases h : (stepS es a cs x).1 = 0
    · rw [runS_ok h, runS_ok h]
      exact run_snoc xs _ _ k
    · rw [runS_bad h, runS_bad h, if_pos h]
theorem take_snoc {l : List Int} {j : Nat} (h : j < l.length) : l.take (j + 1) = l.take j ++ [gi l j] := by
  rw [gi_lt h, List.take_append_getElem h]
theorem edge_ok {ns : List Nd} {es : List Ed} {m : Int} (h : superErr ns es m = 0) : nodesErr ns m = 0 ∧ ∀ x, x < es.length → edgeErr ns es x = 0 := by
  unfold superErr at h
  split at h
  · cases h
  · split at h
    · rename_i h1; exact absurd h h1
    · rename_i h1
      exact ⟨Classical.not_not.mp h1, fun x hx => fe_zero _ 0 h x (by omega) (by omega)⟩
theorem edge_fits {ns : List Nd} {es : List Ed} {x : Nat} (h : edgeErr ns es x = 0) : (0 ≤ (ge es x).b ∧ (ge es x).b < ns.length) ∧ fitsB ns es (ge es x) = true ∧ 1 ≤ (ge es x).k ∧ (ge es x).k ≤ 5 := by
  unfold edgeErr at h
  split at h
  · cases h
  · split at h
    · cases h
    · split at h
      · cases h
      · split at h
        · cases h
        · split at h
          · cases h
          · rename_i h5
            exact ⟨by omega, by simpa using h5, by omega, by omega⟩
theorem fits_flow {ns : List Nd} {es : List Ed} {e : Ed} (h : fitsB ns es e = true) (hk : e.k = 1 ∨ e.k = 5) : (gn ns e.a.toNat).f = (gn ns e.b.toNat).f := by
  unfold fitsB fitsN at h
  rw [if_pos hk] at h
  simp only [Bool.and_eq_true, decide_eq_true_eq] at h
  exact h.1.1.1.1
theorem fits_ret {ns : List Nd} {es : List Ed} {e : Ed} (h : fitsB ns es e = true) (hk : e.k = 3 ∨ e.k = 4) : (gn ns e.b.toNat).f = (gn ns e.c.toNat).f := by
  unfold fitsB fitsN at h
  rw [if_neg (by omega), if_neg (by omega)] at h
  split at h
  · cases h
  · simp only [Bool.and_eq_true, decide_eq_true_eq] at h
    exact h.1.2
theorem step_ok {es : List Ed} {a k : Int} {cs : List Int} (h : (stepS es a cs k).1 = 0) : ∃ x : Nat, k = x ∧ x < es.length ∧ (ge es x).a = a ∧
    ((((ge es x).k = 3 ∨ (ge es x).k = 4) ∧ ∃ r, cs = (ge es x).c :: r ∧ stepS es a cs k = (0, (ge es x).b, r)) ∨
     ((ge es x).k = 2 ∧ stepS es a cs k = (0, (ge es x).b, a :: cs)) ∨
     ((ge es x).k ≠ 2 ∧ (ge es x).k ≠ 3 ∧ (ge es x).k ≠ 4 ∧ stepS es a cs k = (0, (ge es x).b, cs))) := by
  by_cases h1 : k < 0 ∨ (es.length : Int) ≤ k
  · unfold stepS at h
    rw [if_pos h1] at h
    cases h
  · obtain ⟨x, rfl⟩ := Int.eq_ofNat_of_zero_le (show 0 ≤ k by omega)
    refine ⟨x, rfl, by omega, ?_⟩
    unfold stepS at h ⊢
    rw [if_neg h1, Int.toNat_natCast] at h ⊢
    by_cases h2 : (ge es x).a ≠ a
    · rw [if_pos h2] at h
      cases h
    · rw [if_neg h2] at h ⊢
      refine ⟨Classical.not_not.mp h2, ?_⟩
      by_cases h3 : (ge es x).k = 3 ∨ (ge es x).k = 4
      · rw [if_pos h3] at h ⊢
        left
        refine ⟨h3, ?_⟩
        by_cases h4 : cs = [] ∨ gi cs 0 ≠ (ge es x).c
        · rw [if_pos h4] at h
          cases h
        · rw [if_neg h4]
          cases cs with
          | nil => exact absurd (Or.inl rfl) h4
          | cons c r =>
            have : c = (ge es x).c := Classical.byContradiction (fun hh => h4 (Or.inr hh))
            exact ⟨r, by rw [this], rfl⟩
      · rw [if_neg h3] at h ⊢
        right
        by_cases h4 : (ge es x).k = 2
        · rw [if_pos h4]
          exact .inl ⟨h4, rfl⟩
        · rw [if_neg h4]
          exact .inr ⟨h4, fun hh => h3 (.inl hh), fun hh => h3 (.inr hh), rfl⟩
theorem vinv_start {ns : List Nd} {es : List Ed} {m fr : Int} {path : List Int} (h : (followS ns es m fr path).1 = 0) : superErr ns es m = 0 ∧ chkErr ns es m fr = 0 ∧ path.length ≤ 4096 ∧ VInv ns es fr path 0 fr [] := by
  unfold followS at h
  split at h
  · rename_i h1; exact absurd h h1
  · rename_i h1
    split at h
    · cases h
    · rename_i h2
      have h3 := chk_ok (Classical.not_not.mp h1)
      exact ⟨h3.1, Classical.not_not.mp h1, by omega, ⟨rfl, h, h3.2, rfl, Nat.le_refl _⟩⟩
theorem vinv_follow {ns : List Nd} {es : List Ed} {m fr : Int} {path : List Int} {j : Nat} {a : Int} {cs : List Int} (hc : chkErr ns es m fr = 0) (hl : path.length ≤ 4096) (h : VInv ns es fr path j a cs) : followS ns es m fr (path.take j) = (0, a, cs) := by
  unfold followS
  rw [if_neg (not_not_intro hc), if_neg (by rw [List.length_take]; omega)]
  exact h.pre
/-- One edge further. -/
theorem vinv_step {ns : List Nd} {es : List Ed} {m fr : Int} {path : List Int} {j : Nat} {a : Int} {cs : List Int} (hs : superErr ns es m = 0) (h : VInv ns es fr path j a cs) (hj : j < path.length) :
    ∃ x : Nat, gi path j = x ∧ x < es.length ∧ (ge es x).a = a ∧ (0 ≤ (ge es x).b ∧ (ge es x).b < ns.length) ∧
    ((((ge es x).k = 3 ∨ (ge es x).k = 4) ∧ ∃ r, cs = (ge es x).c :: r ∧ VInv ns es fr path (j + 1) (ge es x).b r) ∨
     ((ge es x).k = 2 ∧ VInv ns es fr path (j + 1) (ge es x).b (a :: cs)) ∨
     ((ge es x).k ≠ 2 ∧ (ge es x).k ≠ 3 ∧ (ge es x).k ≠ 4 ∧ VInv ns es fr path (j + 1) (ge es x).b cs)) := by
  obtain ⟨h1, h2, h3, h4, h5⟩ := h
  rw [drop_gi hj, runS] at h2
  have h0 : (stepS es a cs (gi path j)).1 = 0 := by
    refine Classical.byContradiction (fun hh => ?_)
    rw [if_pos hh] at h2
    exact hh h2
  rw [if_neg (not_not_intro h0)] at h2
  obtain ⟨x, hk, hx, ha, hcase⟩ := step_ok h0
  obtain ⟨hr, hfit, hk1, hk5⟩ := edge_fits ((edge_ok hs).2 x hx)
  have hpre : runS es fr [] (path.take (j + 1)) = stepS es a cs (gi path j) := by
    rw [take_snoc hj, run_snoc, h1]
    simp
  refine ⟨x, hk, hx, ha, hr, ?_⟩
  rcases hcase with ⟨hkk, r, hcs, hst⟩ | ⟨hkk, hst⟩ | ⟨n2, n3, n4, hst⟩
  · rw [hst] at h2 hpre
    refine .inl ⟨hkk, r, hcs, hpre, h2, hr, ?_, by rw [hcs] at h5; simp at h5; omega⟩
    have hf := fits_ret hfit hkk
    rw [hcs] at h4
    cases r with
    | nil => exact hf.trans h4
    | cons c' r' => exact h4
  · rw [hst] at h2 hpre
    refine .inr (.inl ⟨hkk, hpre, h2, hr, ?_, by simp; omega⟩)
    exact h4
  · rw [hst] at h2 hpre
    refine .inr (.inr ⟨n2, n3, n4, hpre, h2, hr, ?_, by omega⟩)
    have hf := fits_flow hfit (by omega)
    rw [ha] at hf
    cases cs with
    | nil => exact hf.symm.trans h4
    | cons c' r' => exact h4
end Sp
end Go.Df
