/- The least measure of a world. (Printed by genZ.py out of Jn.) -/
import Derived.Test.YtffkikhknabddaaGreatZf
namespace Go.Df
open Go.RowKit
theorem least_exists (P : Nat → Prop) (h : ∃ m, P m) : ∃ m, P m ∧ ∀ m', P m' → m ≤ m' := by
  have hk : ∀ k m, m ≤ k → P m → ∃ m, P m ∧ ∀ m', P m' → m ≤ m' := by
    intro k
    induction k with
    | zero => intro m hm hp; obtain rfl : m = 0 := by omega
              exact ⟨0, hp, fun _ _ => Nat.zero_le _⟩
    | succ k ih =>
      intro m hm hp
      by_cases hx : ∃ m', P m' ∧ m' < m
      · obtain ⟨m', h1, h2⟩ := hx
        exact ih m' (by omega) h1
      · exact ⟨m, hp, fun m' h1 => Nat.le_of_not_lt fun h2 => hx ⟨m', h1, h2⟩⟩
  obtain ⟨m, hm⟩ := h
  exact hk m m (Nat.le_refl _) hm
open Classical in
/-- The least number of which P holds in a world. -/
noncomputable def leastM (P : Nat → World → Prop) (w : World) : Nat := if h : ∃ m, P m w then Classical.choose (least_exists (fun m => P m w) h) else 0
theorem leastM_spec {P : Nat → World → Prop} {w : World} (h : ∃ m, P m w) : P (leastM P w) w := by
  unfold leastM
  rw [dif_pos h]
  exact (Classical.choose_spec (least_exists (fun m => P m w) h)).1
theorem leastM_le {P : Nat → World → Prop} {w : World} {m : Nat} (h : P m w) : leastM P w ≤ m := by
  unfold leastM
  rw [dif_pos ⟨m, h⟩]
  exact (Classical.choose_spec (least_exists (fun m => P m w) ⟨m, h⟩)).2 m h
/-- The world is named, whatever follows. -/
theorem act_named {F : Act → World → Prop} {a : Act} {w : World} (S : World → Prop) (h0 : S w) (h : ∀ W, S W → F a W) : F a w := h w h0
theorem blk_of_obj {w : World} {g : Nat} {C : List Value} {t : TypeId} (h : w.heap[g]? = some (.cells C.toArray t (0, 0))) : Blk w g C :=
  ⟨(Array.getElem?_eq_some_iff.1 h).1, fun i => by simp [World.cell?, h], fun i => by simp [World.frozen?, h]⟩
/-- Numbers that may be written. -/
def IntA (w : World) (g n : Nat) (f : Nat → Nat) : Prop := g < w.heap.size ∧ (∀ x, x < n → w.cell? ⟨g, x, none⟩ = some (.int .i64 (f x : Nat))) ∧ ∀ x, w.frozen? ⟨g, x, none⟩ = false
theorem IntA.kept {X : List Nat} {w w' : World} {g n : Nat} {f : Nat → Nat} (h : IntA w g n f) (hk : Kept X w w') (hX : g ∉ X) : IntA w' g n f :=
  ⟨Nat.lt_of_lt_of_le h.1 hk.size, fun x hx => (hk.cell g x h.1 hX).trans (h.2.1 x hx), fun x => (hk.frozen g x h.1 hX).trans (h.2.2 x)⟩
theorem IntA.set {w : World} {g n : Nat} {f : Nat → Nat} (h : IntA w g n f) (i y : Nat) {f' : Nat → Nat} (hf : ∀ x, x < n → f' x = if x = i then y else f x) : IntA (w.setCell ⟨g, i, none⟩ (.int .i64 (y : Nat))) g n f' := by
  refine ⟨by simpa [World.setCell] using h.1, fun x hx => ?_, fun x => by simpa using h.2.2 x⟩
  rw [hf x hx]
  by_cases e : x = i
  · subst e; rw [if_pos rfl]; exact set_same (h.2.1 x hx)
  · rw [if_neg e, set_other (.inr (fun h => e h.symm))]; exact h.2.1 x hx
theorem rep_at {n i : Nat} {v : Value} (h : i < n) : (List.replicate n v).toArray[i]? = some v := by simp [h]
open Classical in
noncomputable def upd2 {α : Type} (f : Nat → Nat → α) (t i : Nat) (x : α) : Nat → Nat → α := fun t' i' => if t' = t ∧ i' = i then x else f t' i'
theorem upd2_at {α : Type} (f : Nat → Nat → α) (t i : Nat) (x : α) : upd2 f t i x t i = x := by simp [upd2]
theorem upd2_ne {α : Type} {f : Nat → Nat → α} {t i t' i' : Nat} {x : α} (h : ¬ (t' = t ∧ i' = i)) : upd2 f t i x t' i' = f t' i' := by simp [upd2, h]
def rsel (a b c d : Nat) (t : Nat) : Nat := match t with
  | 0 => a
  | 1 => b
  | 2 => c
  | _ => d
abbrev SXt (X : List Nat) (ga gb gc : Nat) (W w' : World) : Prop := Kept X W w' ∧ (∀ o, w'.cell? ⟨ga, o, none⟩ = W.cell? ⟨ga, o, none⟩) ∧ (∀ o, w'.cell? ⟨gb, o, none⟩ = W.cell? ⟨gb, o, none⟩) ∧ (∀ o, w'.cell? ⟨gc, o, none⟩ = W.cell? ⟨gc, o, none⟩)
theorem SXt.of {X : List Nat} {ga gb gc : Nat} {W w' : World} (h : Kept X W w') (ha : ga < W.heap.size) (hb : gb < W.heap.size) (hc : gc < W.heap.size) (xa : ga ∉ X) (xb : gb ∉ X) (xc : gc ∉ X) : SXt X ga gb gc W w' := ⟨h, fun o => h.cell ga o ha xa, fun o => h.cell gb o hb xb, fun o => h.cell gc o hc xc⟩
end Go.Df
