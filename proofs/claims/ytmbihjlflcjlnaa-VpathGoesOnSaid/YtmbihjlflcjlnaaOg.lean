/- What the iterator of All reads, across its rounds. No program in sight. -/
import Derived.Test.YtmbihjlflcjlnaaOe
import Derived.Test.YtmbihjlflcjlnaaUd
namespace Go.Df
open Go.RowKit
/-- Every cell that w had, but for the box bx, lies in a block that is as it was. -/
def LowK (bx : Nat) (w w' : World) : Prop := w.heap.size ≤ w'.heap.size ∧ ∀ x i u, w.cell? ⟨x, i, none⟩ = some u → x ≠ bx → w'.heap[x]? = w.heap[x]?
section
variable {bx : Nat} {ta : TypeId} {lim : Nat} {w A B : World}
theorem LowK.refl (bx : Nat) (w : World) : LowK bx w w := ⟨Nat.le_refl _, fun _ _ _ _ _ => rfl⟩
theorem cell_lt2 {x i : Nat} {u : Value} (h : w.cell? ⟨x, i, none⟩ = some u) : x < w.heap.size := by
  rcases Nat.lt_or_ge x w.heap.size with h9 | h9
  · exact h9
  · simp [World.cell?, Array.getElem?_eq_none h9] at h
theorem LowK.round (h : LowK bx w A) (hk : KpT bx ta lim A B) (hl : w.heap.size ≤ lim) : LowK bx w B :=
  ⟨Nat.le_trans h.1 hk.size, fun x i u hu hx => by
    have h1 := h.2 x i u hu hx
    have h2 : A.cell? ⟨x, i, none⟩ = some u := (cell_same h1 i).trans hu
    have h3 := cell_lt2 hu
    exact (hk.low h2 hx (by omega)).trans h1⟩
theorem LowK.kept {X : List Nat} (h : LowK bx w A) (hk : Kept X A B) (hX : ∀ x ∈ X, w.heap.size ≤ x) : LowK bx w B :=
  ⟨Nat.le_trans h.1 hk.size, fun x i u hu hx => by
    have h1 := h.2 x i u hu hx
    have h3 := cell_lt2 hu
    exact (hk.block x (by have := h.1; omega) (fun hm => by have := hX x hm; omega)).trans h1⟩
theorem frozen_same {x : Nat} (h : B.heap[x]? = A.heap[x]?) (i : Nat) : B.frozen? ⟨x, i, none⟩ = A.frozen? ⟨x, i, none⟩ := by simp [World.frozen?, h]
theorem LowK.blk {b : Nat} {u : Value} {C : List Value} (h : LowK bx w A) (hb : Blk w b (u :: C)) (hx : b ≠ bx) : Blk A b (u :: C) := by
  have h0 := h.2 b 0 u (hb.2.1 0) hx
  exact ⟨Nat.lt_of_lt_of_le hb.1 h.1, fun i => (cell_same h0 i).trans (hb.2.1 i), fun i => (frozen_same h0 i).trans (hb.2.2 i)⟩
theorem LowK.cell {x i : Nat} {u : Value} (h : LowK bx w A) (hu : w.cell? ⟨x, i, none⟩ = some u) (hx : x ≠ bx) : A.cell? ⟨x, i, none⟩ = some u := (cell_same (h.2 x i u hu hx) i).trans hu
theorem LowK.eds {A2 : Option Addr} {n : Nat} {es : List Sp.Ed} (h : LowK bx w A) (he : Eds w A2 n es) (hx : 0 < n → ∀ a, A2 = some a → a.block ≠ bx) : Eds A A2 n es :=
  ⟨he.1, fun hn => by
    obtain ⟨b, o, e, hl, hc⟩ := he.2 hn
    refine ⟨b, o, e, Nat.lt_of_lt_of_le hl h.1, fun i hi => ?_⟩
    obtain ⟨h1, h2, h3, h4⟩ := hc i hi
    exact ⟨h.cell h1 (hx hn _ e), h.cell h2 (hx hn _ e), h.cell h3 (hx hn _ e), h.cell h4 (hx hn _ e)⟩⟩
/-- A row of one's own of another type lies as it lay across a round. -/
theorem own_kpt {base k n : Nat} {e : TypeId} {v : Value} {xs : List Value} (h : A.ownsRow base e k v n xs) (hk : KpT bx ta lim A B) (he : e ≠ ta) (hb : bx < base) : B.ownsRow base e k v n xs := by
  refine ⟨h.1, ?_⟩
  rcases h.2 with h2 | ⟨g, cap, cur, rfl, h3, h4, h5⟩
  · exact .inl h2
  · exact .inr ⟨g, cap, cur, rfl, h3, (hk.tag ⟨cur, h4⟩ (by omega) (fun e2 => absurd e2 he)).trans h4, h5⟩
theorem rw1_round {e : TypeId} {lim1 r N : Nat} {v : Nat → Value} {l : Nat → List Int} (h : Rw1 e lim A r N v l) (hk : KpT bx ta lim1 A B) (hl : lim ≤ lim1) (he : e ≠ ta) (hb : bx < lim) (hr : r ≠ bx) (hN : 0 < N) : Rw1 e lim B r N v l := by
  have h0 := hk.low (h.cell 0 hN) hr (Nat.lt_of_lt_of_le h.rlt hl)
  exact { h with
    cell := fun i hi => (cell_same h0 i).trans (h.cell i hi)
    fr := fun i => (frozen_same h0 i).trans (h.fr i)
    hlim := Nat.le_trans h.hlim hk.size
    own := fun i hi => own_kpt (h.own i hi) hk he hb }
end
end Go.Df
