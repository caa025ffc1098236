/- What a round of All keeps of the iterator's memory; the queue of walks in memory. No program in sight. -/
import Derived.Test.YtmbihjlflcjlnaaOa
import Derived.Test.YtmbihjlflcjlnaaOb
import Derived.Test.YtmbihjlflcjlnaaVp
import Derived.Test.YtmbihjlflcjlnaaOj
namespace Go.Df
open Go.RowKit
/-- What a round may turn: the box bx, or cells of the type ta beyond lim, whose first is no number; or what is no cells. -/
def MayT (bx : Nat) (ta : TypeId) (lim : Nat) (W : World) (x : Nat) : Prop :=
  ((x = bx ∨ (Tag W x ta ∧ lim ≤ x)) ∧ ∀ c, W.cell? ⟨x, 0, none⟩ ≠ some (.int .i64 c)) ∨ ∃ o : Obj, W.heap[x]? = some o ∧ o.isCells = false
def KpT (bx : Nat) (ta : TypeId) (lim : Nat) (W W' : World) : Prop := ∃ X, Kept X W W' ∧ ∀ x ∈ X, MayT bx ta lim W x
section
variable {bx : Nat} {ta : TypeId} {lim : Nat} {A B C : World}
theorem cell_same {x : Nat} (h : B.heap[x]? = A.heap[x]?) (i : Nat) : B.cell? ⟨x, i, none⟩ = A.cell? ⟨x, i, none⟩ := by simp [World.cell?, h]
theorem MayT.back {x : Nat} (h : MayT bx ta lim B x) (hs : B.heap[x]? = A.heap[x]?) : MayT bx ta lim A x := by
  rcases h with ⟨h1, h2⟩ | ⟨o, h1, h2⟩
  · refine .inl ⟨?_, fun c => by rw [← cell_same hs]; exact h2 c⟩
    rcases h1 with h1 | ⟨⟨cur, h1⟩, h3⟩
    · exact .inl h1
    · exact .inr ⟨⟨cur, hs.symm.trans h1⟩, h3⟩
  · exact .inr ⟨o, hs.symm.trans h1, h2⟩
theorem KpT.trans (h : KpT bx ta lim A B) (k : KpT bx ta lim B C) : KpT bx ta lim A C := by
  classical
  obtain ⟨X, h1, h2⟩ := h
  obtain ⟨Y, k1, k2⟩ := k
  refine ⟨X ++ Y.filter (fun y => decide (y < A.heap.size) && decide (y ∉ X)), ?_, fun x hx => ?_⟩
  · refine Kept.next (keptWide h1 (fun x hx => List.mem_append.2 (.inl hx))) k1 (fun y hy => ?_)
    by_cases e1 : y < A.heap.size
    · by_cases e2 : y ∈ X
      · exact .inl (List.mem_append.2 (.inl e2))
      · exact .inl (List.mem_append.2 (.inr (List.mem_filter.2 ⟨hy, by simp [e1, e2]⟩)))
    · exact .inr (by omega)
  · rcases List.mem_append.1 hx with hx | hx
    · exact h2 x hx
    · obtain ⟨h3, h4⟩ := List.mem_filter.1 hx
      rw [Bool.and_eq_true] at h4
      have h5 := of_decide_eq_true h4.1
      have h6 := of_decide_eq_true h4.2
      exact (k2 x h3).back (h1.block x h5 h6)
theorem KpT.putObj (W : World) (l : Nat) (o o' : Obj) (h : W.heap[l]? = some o) (ho : o.isCells = false) : KpT bx ta lim W (W.putObj l o') := by
  have hg := grownBy_putObj' W l o'
  refine ⟨[l], ⟨hg.os, hg.tape, hg.output, hg.size, fun k hk hn => hg.block k hk (fun e => hn (by cases e; simp))⟩, fun x hx => ?_⟩
  obtain rfl := List.mem_singleton.1 hx
  exact .inr ⟨o, h, ho⟩
/-- Blocks of other types lie as they lay. -/
theorem KpT.tag (h : KpT bx ta lim A B) {x : Nat} {t : TypeId} (ht : Tag A x t) (h1 : x ≠ bx) (h2 : t = ta → x < lim) : B.heap[x]? = A.heap[x]? := by
  obtain ⟨X, k1, k2⟩ := h
  refine k1.block x ht.lt (fun hm => ?_)
  obtain ⟨cur, hc⟩ := ht
  rcases k2 x hm with ⟨(h3 | ⟨⟨c2, h3⟩, h4⟩), -⟩ | ⟨o, h3, h4⟩
  · exact h1 h3
  · rw [hc] at h3; injection h3 with h3; injection h3 with _ h3 _; have := h2 h3; omega
  · rw [hc] at h3; cases h3; cases h4
/-- Cells below lim lie as they lay. -/
theorem KpT.low (h : KpT bx ta lim A B) {x i : Nat} {u : Value} (hc : A.cell? ⟨x, i, none⟩ = some u) (h1 : x ≠ bx) (h2 : x < lim) : B.heap[x]? = A.heap[x]? := by
  obtain ⟨X, k1, k2⟩ := h
  have hl : x < A.heap.size := by
    rcases Nat.lt_or_ge x A.heap.size with h9 | h9
    · exact h9
    · simp [World.cell?, Array.getElem?_eq_none h9] at hc
  refine k1.block x hl (fun hm => ?_)
  rcases k2 x hm with ⟨(h3 | ⟨-, h4⟩), -⟩ | ⟨o, h3, h4⟩
  · exact h1 h3
  · omega
  · cases o <;> first | (cases h4; done) | (simp [World.cell?, h3] at hc)
theorem KpT.size (h : KpT bx ta lim A B) : A.heap.size ≤ B.heap.size := h.choose_spec.1.size
/-- Calls that are pending lie as they lay. -/
theorem pend_kpt (h : KpT bx ta lim A B) : ∀ (cs : List Int) {p : Option Addr}, Pend A p cs → Pend B p cs
  | [], _, hp => hp
  | _ :: r, _, ⟨b, q, e, hb, hp⟩ => by
    obtain ⟨X, k1, k2⟩ := h
    refine ⟨b, q, e, k1.blk (fun hm => ?_) hb, pend_kpt ⟨X, k1, k2⟩ r hp⟩
    have h0 := hb.2.1 0
    rcases k2 b hm with ⟨-, h1⟩ | ⟨o, h1, h2⟩
    · exact h1 _ h0
    · cases o <;> first | (cases h2; done) | (simp [World.cell?, h1] at h0)
/-- .. and where a row of one's own of three cells an element is turned. -/
theorem own_not2 {w : World} {base : Nat} {e : TypeId} {v : Value} {n : Nat} {xs : List Value} (h : w.ownsRow base e 3 v n xs) {g : Nat} (hg : v.ownBlock = some g) {u1 u2 : Value} : ¬ Blk w g [u1, u2] := by
  intro hb
  rcases h.2 with ⟨rfl, _⟩ | ⟨g', cap, cur, rfl, _, hh, _, _, hcs, _⟩
  · cases hg
  · obtain rfl : g' = g := by simpa [Value.ownBlock] using hg
    have h1 := hb.2.1 1
    have h2 := hb.2.1 2
    simp [World.cell?, hh] at h1 h2
    have : 1 < cur.size := by
      rcases Nat.lt_or_ge 1 cur.size with h9 | h9
      · exact h9
      · rw [Array.getElem?_eq_none h9] at h1; cases h1
    omega
theorem pend_keptX {X : List Nat} {w w' : World} (hk : Kept X w w') (hX : ∀ b u1 u2, Blk w b [u1, u2] → b ∉ X) : ∀ (cs : List Int) {p : Option Addr}, Pend w p cs → Pend w' p cs
  | [], _, hp => hp
  | _ :: r, _, ⟨b, q, e, hb, hp⟩ => ⟨b, q, e, hk.blk (hX _ _ _ hb) hb, pend_keptX hk hX r hp⟩
end
end Go.Df
