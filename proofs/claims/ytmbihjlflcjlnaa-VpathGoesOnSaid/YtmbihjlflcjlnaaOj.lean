/- Rows of one's own, told of cells that are kept; and what their walks want. -/
import Derived.Test.YtmbihjlflcjlnaaMc
import Derived.Test.YtmbihjlflcjlnaaSj
import Derived.Test.YtmbihjlflcjlnaaLe
namespace Go.Df
open Go.RowKit
theorem own_keptT {X : List Nat} {w w1 : World} {base : Nat} {e : TypeId} {k : Nat} {v : Value} {n : Nat} {xs : List Value} (h : w.ownsRow base e k v n xs) (hk : Kept X w w1) (hX : ∀ g, v.ownBlock = some g → g ∉ X) : w1.ownsRow base e k v n xs := by
  refine ⟨h.1, ?_⟩
  rcases h.2 with h2 | ⟨g, cap, cur, rfl, h3, h4, h5⟩
  · exact .inl h2
  · exact .inr ⟨g, cap, cur, rfl, h3, (hk.block g (Array.getElem?_eq_some_iff.1 h4).1 (hX g rfl)).trans h4, h5⟩
/-- The cells of a row of one's own. -/
theorem own_cellsT {w : World} {base : Nat} {e : TypeId} {k n : Nat} {v : Value} {xs : List Value} (h : w.ownsRow base e k v n xs) (h0 : 0 < n) :
    ∃ g c, v = .slice (some ⟨g, 0, none⟩) n c ∧ base ≤ g ∧ g < w.heap.size ∧ n ≤ c ∧ c ≤ maxLen ∧ (∀ i, i < n * k → w.cell? ⟨g, i, none⟩ = xs[i]?) ∧ ∀ i, w.frozen? ⟨g, i, none⟩ = false := by
  rcases h.2 with ⟨rfl, rfl⟩ | ⟨g, cap, cur, rfl, hb, hh, hnc, hcm, hcs, htk⟩
  · omega
  · refine ⟨g, cap, rfl, hb, ?_, hnc, hcm, fun i hi => ?_, fun i => ?_⟩
    · rcases Nat.lt_or_ge g w.heap.size with h1 | h1
      · exact h1
      · rw [Array.getElem?_eq_none h1] at hh; cases hh
    · rw [← htk, List.getElem?_take_of_lt hi]
      simp [World.cell?, hh]
    · simp [World.frozen?, hh]
/-- What a region that appends to a row of one's own keeps: all but the row; and the cells of two boxes, said at once. -/
abbrev SXu (X : List Nat) (ga gb : Nat) (W w' : World) : Prop := Kept X W w' ∧ (∀ o, w'.cell? ⟨ga, o, none⟩ = W.cell? ⟨ga, o, none⟩) ∧ (∀ o, w'.cell? ⟨gb, o, none⟩ = W.cell? ⟨gb, o, none⟩)
theorem SXu.of {X : List Nat} {ga gb : Nat} {W w' : World} (h : Kept X W w') (ha : ga < W.heap.size) (hb : gb < W.heap.size) (xa : ga ∉ X) (xb : gb ∉ X) : SXu X ga gb W w' := ⟨h, fun o => h.cell ga o ha xa, fun o => h.cell gb o hb xb⟩
theorem own_addr {w : World} {base : Nat} {e : TypeId} {k n m c : Nat} {A : Option Addr} {xs : List Value} (h : w.ownsRow base e k (.slice A m c) n xs) {a : Addr} (ha : A = some a) : base ≤ a.block ∧ Tag w a.block e ∧ (Value.slice A m c).ownBlock = some a.block := by
  rcases h.2 with ⟨h1, _⟩ | ⟨g, cap, cur, h1, h2, h3, _⟩
  · injection h1 with h1 _ _; rw [h1] at ha; cases ha
  · injection h1 with h1 _ _
    rw [h1] at ha
    injection ha with ha
    subst ha
    subst h1
    exact ⟨h2, ⟨cur, h3⟩, rfl⟩
namespace If
theorem ints_keptT {X : List Nat} {w w' : World} {A : Option Addr} {m : Nat} {l : List Int} (h : Ints w A m l) (hk : Kept X w w') (hA : ∀ a, A = some a → a.block ∉ X) : Ints w' A m l :=
  ⟨h.1, fun hn => by
    obtain ⟨b, o, e, hl, hc⟩ := h.2 hn
    exact ⟨b, o, e, Nat.lt_of_lt_of_le hl hk.size, fun i hi => (hk.cell b (o + i) hl (hA _ e)).trans (hc i hi)⟩⟩
end If
end Go.Df
namespace Go.Proofs.Ytmbihjlflcjlnaa
open Go.RowKit Go.Df Go.Df.If
theorem booli_info : (Try.prog.info? 4).map (fun i => (i.zero, i.size, i.bytes)) = some (some (.bool false), 1, 1) := by kernel_rfl
theorem retNamedT {P : Program} {f : Func} {Q : Ending → World → Prop} {e : Exit} {a : Act} {w : World} (S : World → Prop) (h0 : S w) (h : ∀ X, S X → bodyPost P f Q e a X) : bodyPost P f Q e a w := h w h0
theorem inti_info : (Try.prog.info? 3).map (fun i => (i.zero, i.size, i.bytes)) = some (some (.int .i64 0), 1, 8) := by kernel_rfl
theorem rowi_info : (Try.prog.info? 26).map (fun i => (i.zero, i.size, i.bytes)) = some (some (.slice none 0 0), 1, 24) := by kernel_rfl
theorem act_namedT {F : Act → World → Prop} {a : Act} {w : World} (S : World → Prop) (h0 : S w) (h : ∀ W, S W → F a W) : F a w := h w h0
end Go.Proofs.Ytmbihjlflcjlnaa
