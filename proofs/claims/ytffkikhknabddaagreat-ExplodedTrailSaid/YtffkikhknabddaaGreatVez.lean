/- The contract of slices.Reverse at []int and of vpath's Stack. -/
import Derived.Test.YtffkikhknabddaaGreatZv
import Derived.Shelf.RegionOpenPlain
import Derived.Lib.OwnBridge
namespace Go.Df
open Go.RowKit
/-- Reversed from both ends up to place i. -/
def rv (xs : List Int) (n i x : Nat) : Int := if x < i ∨ n - 1 - i < x then gi xs (n - 1 - x) else gi xs x
theorem rv_zero {xs : List Int} {n x : Nat} (h : x < n) : rv xs n 0 x = gi xs x := by
  unfold rv
  rw [if_neg (by omega)]
theorem rv_end {xs : List Int} {n i x : Nat} (h : x < n) (h1 : n - 1 ≤ 2 * i) : rv xs n i x = gi xs (n - 1 - x) := by
  unfold rv
  split
  · rfl
  · rw [show n - 1 - x = x by omega]
theorem rv_step {xs : List Int} {n i m x : Nat} (him : i < m) (hm : m = n - 1 - i) (hx : x < n) : rv xs n (i + 1) x = if x = m then gi xs i else if x = i then gi xs m else rv xs n i x := by
  unfold rv
  by_cases h1 : x = m
  · rw [if_pos h1, if_pos (by omega), show n - 1 - x = i by omega]
  · rw [if_neg h1]
    by_cases h2 : x = i
    · rw [if_pos h2, if_pos (by omega), show n - 1 - x = m by omega]
    · rw [if_neg h2]
      by_cases h3 : x < i ∨ n - 1 - i < x
      · rw [if_pos h3, if_pos (by omega)]
      · rw [if_neg h3, if_neg (by omega)]
theorem swap_cells {w : World} {b o i m x : Nat} {u v z y1 y2 : Value} (him : i ≠ m) (h1 : w.cell? ⟨b, o + i, none⟩ = some y1) (h2 : w.cell? ⟨b, o + m, none⟩ = some y2) (hz : w.cell? ⟨b, o + x, none⟩ = some z) :
    ((w.setCell ⟨b, o + i, none⟩ u).setCell ⟨b, o + m, none⟩ v).cell? ⟨b, o + x, none⟩ = some (if x = m then v else if x = i then u else z) := by
  by_cases e1 : x = m
  · rw [if_pos e1, e1]
    exact set_same (u := y2) ((set_other (.inr (by omega))).trans h2)
  · rw [if_neg e1, set_other (.inr (by omega))]
    by_cases e2 : x = i
    · rw [if_pos e2, e2]
      exact set_same h1
    · rw [if_neg e2, set_other (.inr (by omega))]
      exact hz
theorem gi_rev {xs : List Int} {x : Nat} (h : x < xs.length) : gi xs.reverse x = gi xs (xs.length - 1 - x) := by
  rw [gi_lt (by simpa using h), gi_lt (by omega), List.getElem_reverse]
end Go.Df
