/- Which nodes valid paths reach, in plain words: by frames, and node by node. No program in sight. -/
import Derived.Test.YtffkikhknabddaaGreatZi
import Derived.Test.YtffkikhknabddaaGreatZv
namespace Go.Df
open Go.RowKit
namespace Rc
open Sp If
section
variable (es : List Ed) (m : Int)
/-- Frames: node n is reached by a balanced path from s, which is Main or a start that a call reaches. -/
inductive FR : Nat → Nat → Prop
  | main : FR m.toNat m.toNat
  | flow {s k : Nat} : k < es.length → ((ge es k).k = 1 ∨ (ge es k).k = 5) → FR s (ge es k).a.toNat → FR s (ge es k).b.toNat
  | call {s k : Nat} : k < es.length → (ge es k).k = 2 → FR s (ge es k).a.toNat → FR (ge es k).b.toNat (ge es k).b.toNat
  | ret {s c r : Nat} : c < es.length → (ge es c).k = 2 → r < es.length → ((ge es r).k = 3 ∨ (ge es r).k = 4) → (ge es r).c = (ge es c).a → FR s (ge es c).a.toNat → FR (ge es c).b.toNat (ge es r).a.toNat → FR s (ge es r).b.toNat
/-- Node by node: a return goes on if its call is reached. -/
inductive RE : Nat → Prop
  | main : RE m.toNat
  | go {k : Nat} : k < es.length → ¬ ((ge es k).k = 3 ∨ (ge es k).k = 4) → RE (ge es k).a.toNat → RE (ge es k).b.toNat
  | ret {r : Nat} : r < es.length → ((ge es r).k = 3 ∨ (ge es r).k = 4) → RE (ge es r).a.toNat → RE (ge es r).c.toNat → RE (ge es r).b.toNat
end
theorem RE.of_frame {es : List Ed} {m : Int} {s n : Nat} (h : FR es m s n) : RE es m n := by
  induction h with
  | main => exact .main
  | flow hk h2 _ ih => exact .go hk (by omega) ih
  | call hk h2 _ ih => exact .go hk (by omega) ih
  | ret hc h2 hr h3 h4 _ _ ih1 ih2 => exact .ret hr h3 ih2 (by rw [h4]; exact ih1)
variable {ns : List Nd} {es : List Ed} {m : Int} (hs : superErr ns es m = 0)
include hs
theorem call_edge {k : Nat} (hk : k < es.length) (h2 : (ge es k).k = 2) : (gn ns (ge es k).b.toNat).k = 1 ∧ (ge es k).c = (ge es k).a := by
  have h1 := (sup_edge hs hk).2.2.2.2.2.2.2
  unfold fitsB fitsN at h1
  rw [if_neg (by omega), if_pos h2] at h1
  simp at h1
  exact ⟨h1.2, h1.1.2⟩
theorem flow_edge {k : Nat} (hk : k < es.length) (h2 : (ge es k).k = 1 ∨ (ge es k).k = 5) : (gn ns (ge es k).a.toNat).f = (gn ns (ge es k).b.toNat).f := by
  have h1 := (sup_edge hs hk).2.2.2.2.2.2.2
  unfold fitsB fitsN at h1
  rw [if_pos h2] at h1
  simp at h1
  exact h1.1.1.1.1
/-- A return edge: its call has a call edge to the function that it leaves. -/
theorem ret_edge {k : Nat} (hk : k < es.length) (h2 : (ge es k).k = 3 ∨ (ge es k).k = 4) :
    (gn ns (ge es k).b.toNat).f = (gn ns (ge es k).c.toNat).f ∧ ∃ c, c < es.length ∧ (ge es c).k = 2 ∧ (ge es c).a = (ge es k).c ∧ (gn ns (ge es c).b.toNat).f = (gn ns (ge es k).a.toNat).f := by
  have h1 := (sup_edge hs hk).2.2.2.2.2.2.2
  unfold fitsB fitsN at h1
  rw [if_neg (by omega), if_neg (by omega)] at h1
  split at h1
  · cases h1
  · simp at h1
    refine ⟨h1.1.2, ?_⟩
    have h3 := h1.1.1.2
    unfold callsB at h3
    rw [List.any_eq_true] at h3
    obtain ⟨e, he, h4⟩ := h3
    obtain ⟨c, hc, rfl⟩ := List.getElem_of_mem he
    unfold callB at h4
    simp at h4
    refine ⟨c, hc, ?_⟩
    rw [ge_lt hc]
    exact ⟨h4.1.1.1.1.1, h4.1.1.1.1.2, h4.1.2⟩
/-- A frame begins at the start of its function. -/
theorem FR.start {s n : Nat} (h : FR es m s n) : s < ns.length ∧ n < ns.length ∧ (gn ns s).k = 1 ∧ (gn ns s).f = (gn ns n).f := by
  have hm := main_in (sup_parts hs).2.2.1
  induction h with
  | main => exact ⟨by omega, by omega, hm.2.2, rfl⟩
  | flow hk h2 _ ih => have := sup_edge hs hk; exact ⟨ih.1, by omega, ih.2.2.1, ih.2.2.2.trans (flow_edge hs hk h2)⟩
  | call hk h2 _ ih => have := sup_edge hs hk; exact ⟨by omega, by omega, (call_edge hs hk h2).1, rfl⟩
  | ret hc h2 hr h3 h4 _ _ ih1 ih2 =>
    have := sup_edge hs hr
    refine ⟨ih1.1, by omega, ih1.2.2.1, ?_⟩
    rw [ih1.2.2.2, (ret_edge hs hr h3).1, h4]
theorem start_one {s t : Nat} (h1 : s < ns.length) (h2 : t < ns.length) (k1 : (gn ns s).k = 1) (k2 : (gn ns t).k = 1) (hf : (gn ns s).f = (gn ns t).f) : s = t := by
  have hn := ndOk_of (sup_parts hs).2.2.1
  have h3 := hn.ahead h1 h2 hf k1
  have h4 := hn.ahead h2 h1 hf.symm k2
  omega
theorem RE.frame {n : Nat} (h : RE es m n) : ∃ s, FR es m s n := by
  induction h with
  | main => exact ⟨_, .main⟩
  | @go k hk h2 _ ih =>
    obtain ⟨s, ih⟩ := ih
    have := sup_edge hs hk
    by_cases h3 : (ge es k).k = 2
    · exact ⟨_, .call hk h3 ih⟩
    · exact ⟨s, .flow hk (by omega) ih⟩
  | @ret r hr h3 _ _ ih1 ih2 =>
    obtain ⟨s, ih1⟩ := ih1
    obtain ⟨t, ih2⟩ := ih2
    obtain ⟨_, c, hc, k2, ha, hf⟩ := ret_edge hs hr h3
    have h5 := ih1.start hs
    have h6 := call_edge hs hc k2
    have h7 := sup_edge hs hc
    rw [← ha] at ih2
    have e : s = (ge es c).b.toNat := start_one hs h5.1 (by omega) h5.2.2.1 h6.1 (h5.2.2.2.trans hf.symm)
    subst e
    exact ⟨t, .ret hc k2 hr h3 ha.symm ih2 ih1⟩
/-- The end of a valid path is reached, and so are its pending calls. -/
theorem run_reached : ∀ (path : List Int) (a : Int) (cs : List Int), 0 ≤ a → RE es m a.toNat → (∀ c ∈ cs, RE es m c.toNat) → (runS es a cs path).1 = 0 → RE es m (runS es a cs path).2.1.toNat
  | [], a, cs, _, ha, _, _ => ha
  | k :: r, a, cs, h0, ha, hc, h => by
    unfold runS at h ⊢
    split at h
    · rename_i h1; exact absurd h h1
    · rename_i h1
      rw [if_neg h1]
      have h1 : (stepS es a cs k).1 = 0 := Decidable.byContradiction h1
      have : 0 ≤ (stepS es a cs k).2.1 ∧ RE es m (stepS es a cs k).2.1.toNat ∧ ∀ c ∈ (stepS es a cs k).2.2, RE es m c.toNat := by
        unfold stepS at h1 ⊢
        split at h1
        · cases h1
        · rename_i g1
          rw [if_neg g1]
          have hk : k.toNat < es.length := by omega
          have he := sup_edge hs hk
          split at h1
          · cases h1
          · rename_i g2
            rw [if_neg g2]
            have g2 : (ge es k.toNat).a = a := Decidable.byContradiction g2
            subst g2
            split at h1
            · rename_i g3
              rw [if_pos g3]
              split at h1
              · cases h1
              · rename_i g4
                rw [if_neg g4]
                refine ⟨he.2.2.1, .ret hk g3 ha ?_, fun c hc' => hc c (List.mem_of_mem_tail hc')⟩
                cases cs with
                | nil => exact absurd (.inl rfl) g4
                | cons c cs =>
                  have : gi (c :: cs) 0 = (ge es k.toNat).c := Decidable.byContradiction fun h9 => g4 (.inr h9)
                  rw [← this]
                  exact hc _ (by simp [gi])
            · rename_i g3
              rw [if_neg g3]
              split
              · exact ⟨he.2.2.1, .go hk g3 ha, fun c hc' => by
                  rcases List.mem_cons.1 hc' with rfl | h9
                  · exact ha
                  · exact hc c h9⟩
              · exact ⟨he.2.2.1, .go hk g3 ha, hc⟩
      exact run_reached r _ _ this.1 this.2.1 this.2.2 h
end Rc
end Go.Df
