/- Lists of pairs that are gathered, in memory. No program in sight. -/
import Derived.Test.YtmbihjlflcjlnaaGreatNa
import Derived.Test.YtmbihjlflcjlnaaGreatKo
namespace Go.Df
open Go.RowKit
namespace If
open Sp
/-- A store at a cell leaves the cells that hold other values. -/
theorem set_apartN {w : World} {b o b' o' : Nat} {u u' v : Value} (h : w.cell? ⟨b, o, none⟩ = some u) (h' : w.cell? ⟨b', o', none⟩ = some u') (hn : u ≠ u') : (w.setCell ⟨b, o, none⟩ v).cell? ⟨b', o', none⟩ = some u' := by
  rw [set_other, h']
  by_cases e : b = b'
  · by_cases e2 : o = o'
    · subst e e2
      rw [h] at h'
      exact absurd (Option.some.inj h') hn
    · exact .inr e2
  · exact .inl e
theorem prs_apart {w : World} {b o : Nat} {u v : Value} {A : Option Addr} {n : Nat} {l : List Pr} (h : w.cell? ⟨b, o, none⟩ = some u) (hn : ∀ x, u ≠ .int .i64 x) (hi : Prs w A n l) : Prs (w.setCell ⟨b, o, none⟩ v) A n l :=
  ⟨hi.1, fun h0 => by
    obtain ⟨b', o', e, hl, hc⟩ := hi.2 h0
    exact ⟨b', o', e, by simpa [World.setCell] using hl, fun i hi2 => ⟨set_apartN h (hc i hi2).1 (hn _), set_apartN h (hc i hi2).2 (hn _)⟩⟩⟩
/-- The first i rows of pairs are there, the others are empty. -/
structure PrM (w : World) (g N i : Nat) (f : Nat → List Pr) : Prop where
  l : g < w.heap.size
  c : ∀ x, x < N → ∃ A m c, w.cell? ⟨g, x, none⟩ = some (.slice A m c) ∧ m ≤ c ∧ Prs w A m (if x < i then f x else [])
  fr : ∀ x, w.frozen? ⟨g, x, none⟩ = false
section
variable {w w1 : World} {g N i : Nat} {f : Nat → List Pr}
theorem PrM.kept (h : PrM w g N i f) (hk : Kept [] w w1) : PrM w1 g N i f :=
  ⟨Nat.lt_of_lt_of_le h.l hk.size, fun x hx => by
    obtain ⟨A, m, c, h1, h2, h3⟩ := h.c x hx
    exact ⟨A, m, c, (hk.cell g x h.l (by simp)).trans h1, h2, h3.later hk.toBelow⟩, fun x => (hk.frozen g x h.l (by simp)).trans (h.fr x)⟩
theorem PrM.set (h : PrM w g N i f) (hi : i < N) {A : Option Addr} {m c : Nat} (hA : Prs w A m (f i)) (hm : m ≤ c) : PrM (w.setCell ⟨g, i, none⟩ (.slice A m c)) g N (i + 1) f := by
  obtain ⟨A0, m0, c0, h0, -, -⟩ := h.c i hi
  refine ⟨by simpa [World.setCell] using h.l, fun x hx => ?_, fun x => by simpa using h.fr x⟩
  by_cases e : x = i
  · subst e
    exact ⟨A, m, c, set_same h0, hm, by rw [if_pos (by omega)]; exact prs_apart h0 (by simp) hA⟩
  · obtain ⟨Ax, mx, cx, h1, h2, h3⟩ := h.c x hx
    refine ⟨Ax, mx, cx, by rw [set_other (.inr (fun e2 => e e2.symm))]; exact h1, h2, ?_⟩
    have e9 : (if x < i + 1 then f x else []) = (if x < i then f x else []) := by
      by_cases e2 : x < i
      · rw [if_pos e2, if_pos (by omega)]
      · rw [if_neg e2, if_neg (by omega)]
    rw [e9]
    exact prs_apart h0 (by simp) h3
theorem PrM.flw (h : PrM w g N N f) : Flw w (some ⟨g, 0, none⟩) N ((List.range N).map f) :=
  ⟨by simp, fun _ => ⟨g, 0, rfl, h.l, fun i hi => by
    obtain ⟨A, m, c, h1, h2, h3⟩ := h.c i hi
    rw [if_pos hi] at h3
    refine ⟨A, m, c, by rw [Nat.zero_add]; exact h1, h2, ?_⟩
    have e9 : gf ((List.range N).map f) i = f i := by simp [gf, hi]
    rw [e9]
    exact h3⟩⟩
theorem PrM.start {MR : Array Value} {t : TypeId} (h : w.heap[g]? = some (.cells MR t (0, 0))) (hM : ∀ i, i < N → MR[i]? = some (.slice none 0 0)) : PrM w g N 0 f :=
  ⟨(Array.getElem?_eq_some_iff.1 h).1, fun x hx => ⟨none, 0, 0, by simp [World.cell?, h, hM x hx], Nat.le_refl _, by rw [if_neg (by omega)]; exact ⟨rfl, fun h0 => absurd h0 (by omega)⟩⟩, fun x => by simp [World.frozen?, h]⟩
end
end If
end Go.Df
