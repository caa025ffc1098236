/- The solution of a problem, in plain words. (Printed by genZ.py out of Kd.) -/
import Derived.Test.YtffkikhknabddaaGreatZi
import Derived.Test.YtffkikhknabddaaGreatZf
import Derived.Test.YtffkikhknabddaaGreatZa
namespace Go.Df
open Go.RowKit
namespace If
open Sp
open Classical in
/-- The facts of the solution at a node, ascending. -/
noncomputable def solF (p : Pb) (i : Nat) : List Int := ofNats ((List.range p.F.toNat).filter fun d => d != 0 && decide (∃ a, PE p a i d))
open Classical in
noncomputable def solR (p : Pb) (i : Nat) : Bool := decide (PE p 0 i 0)
open Classical in
theorem solR_eq {p : Pb} {i : Nat} {b : Bool} (h : b = true ↔ PE p 0 i 0) : b = solR p i := by
  unfold solR
  rw [Bool.eq_iff_iff, decide_eq_true_iff]
  exact h
theorem retNamed {P : Program} {f : Func} {Q : Ending → World → Prop} {e : Exit} {a : Act} {w : World} (S : World → Prop) (h0 : S w) (h : ∀ X, S X → bodyPost P f Q e a X) : bodyPost P f Q e a w := h w h0
end If
end Go.Df
